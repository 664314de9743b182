/- (*locks.Table).For. -/
import Derived.Test.YtkfemodellmakaaAsk
import Derived.Test.YtkfemodellmakaaConcat
import Derived.Test.YtkfemodellmakaaSort
namespace Go.Proofs.Ytkfemodellmakaa
open Go.RowKit
set_option linter.unusedSimpArgs false
set_option linter.unusedVariables false

def aheadV (W : List OpV) (tx : Int) : List OpV := match W.findIdx? (ofB tx) with | some i => W.take i | none => W
def whoV (L : List OpV) (l : OpV) : List Int := (L.filter fun x => oddsB x l).map (·.tx)
def forV (H W : List OpV) (l : OpV) : List Int := Lib.compact (sortI (whoV (H ++ aheadV W l.tx) l))
theorem whoV_snoc (L : List OpV) (i : Nat) (hi : i < L.length) (l : OpV) : whoV (L.take (i + 1)) l = if oddsB L[i] l then whoV (L.take i) l ++ [L[i].tx] else whoV (L.take i) l := by
  rw [List.take_succ_eq_append_getElem hi]
  unfold whoV
  rw [List.filter_append, List.map_append]
  cases h : oddsB L[i] l <;> simp [h]
theorem whoV_len (L : List OpV) (l : OpV) : (whoV L l).length ≤ L.length := by
  unfold whoV
  rw [List.length_map]
  exact List.length_filter_le _ _
theorem aheadV_some {W : List OpV} {tx : Int} {i : Nat} (h : W.findIdx? (ofB tx) = some i) : aheadV W tx = W.take i ∧ idxV (ofB tx) W = i ∧ i < W.length := by
  obtain ⟨hi, _⟩ := List.findIdx?_eq_some_iff_getElem.1 h
  exact ⟨by simp [aheadV, h], by simp [idxV, h], hi⟩
theorem aheadV_none {W : List OpV} {tx : Int} (h : W.findIdx? (ofB tx) = none) : aheadV W tx = W ∧ idxV (ofB tx) W = -1 := ⟨by simp [aheadV, h], by simp [idxV, h]⟩
theorem RdO.take {w : World} {B : Nat} {A : Option Addr} {L : List OpV} (hR : RdO w B A L) (n : Nat) : RdO w B A (L.take n) := fun hn => by
  obtain ⟨b, off, e, h1, h2, hc⟩ := hR (by simp at hn; omega)
  refine ⟨b, off, e, h1, h2, fun i hi j u hu => ?_⟩
  simp at hi
  rw [List.getElem_take] at hu
  exact hc i (by omega) j u hu
theorem aheadV_rd {w : World} {B : Nat} {A : Option Addr} {W : List OpV} (hR : RdO w B A W) (tx : Int) : RdO w B A (aheadV W tx) := by
  unfold aheadV
  split
  · exact hR.take _
  · exact hR
theorem aheadV_len (W : List OpV) (tx : Int) : (aheadV W tx).length ≤ W.length := by
  unfold aheadV
  split
  · rw [List.length_take]; omega
  · omega

set_option maxRecDepth 100000 in
set_option maxHeartbeats 2000000 in
theorem for_no (g : Nat) (l : OpV) (w : World) (hr : lrightB l = false) :
    Calls Try.prog 7 #[.pointer (some ⟨g, 0, none⟩), l.agg] w fun e w' => e = .returned (.tuple #[.slice none 0 0, errV (some 1)]) ∧ Below w.heap.size w w' := by
  have HR := Lib.hid (fun w => lright_any l w)
  rw [hr] at HR
  clear hr
  obtain ⟨xt, xi, xm⟩ := l
  show Calls Try.prog 7 #[_, .agg #[.int .i64 xt, .int .i64 xi, .int .i64 xm]] w _
  go_enter Try.func7, Try.ntmps7
  go_wp2_with (go_at_call 12; refine (HR.out _).mono ?_; rintro e w2 ⟨rfl, hB2⟩; have HB2 := Lib.hid hB2; clear hB2)
  go_ret2
  exact ⟨rfl, ((Below.refl _ w).alloc (Nat.le_refl _) _).trans (HB2.out.mono (by simp))⟩

set_option maxRecDepth 100000 in
set_option maxHeartbeats 4000000 in
theorem for_yes (g : Nat) (v1 v2 : Value) (H W : List OpV) (l : OpV) (w : World) (hT : TabIs 41 w g v1 v2 H W) (hH : H.length ≤ 1000000) (hW : W.length ≤ 1000000) (hr : lrightB l = true) :
    Calls Try.prog 7 #[.pointer (some ⟨g, 0, none⟩), l.agg] w fun e w' => ∃ v, e = .returned (.tuple #[v, .nilIface]) ∧ w'.ownsRow w.heap.size 3 1 v (forV H W l).length ((forV H W l).map (.int .i64)) ∧ Below w.heap.size w w' := by
  have hlt := heap_lt hT.blk
  obtain ⟨A, c, e1, hA, hA'⟩ := own_slice hT.o1
  obtain ⟨A', c', e2, hB, hB'⟩ := own_slice hT.o2
  subst e1 e2
  obtain ⟨hc1, hc2, hc4⟩ := own_caps hT.o2
  obtain ⟨_, hc3, _⟩ := own_caps hT.o1
  have c0 : w.cell? ⟨g, 0, none⟩ = some (.slice A H.length c) := by rw [cell_of_row w g _ _ _ _ hT.blk]; rfl
  have c1 : w.cell? ⟨g, 1, none⟩ = some (.slice A' W.length c') := by rw [cell_of_row w g _ _ _ _ hT.blk]; rfl
  have hR1 := of_own3 hT.o1
  have hR2 := of_own3 hT.o2
  have HR := Lib.hid (fun w => lright_any l w)
  rw [hr] at HR
  have hwt := fun w1 (hB : Below w.heap.size w w1) => lwaiting_any g W A' c' l.tx w1 ((hB.cell (p := ⟨g, 1, none⟩) hlt).trans c1) (Nat.lt_of_lt_of_le hlt hB.size) ((hR2.below hB).mono hB.size) (by omega)
  have HWt := Lib.hid hwt
  have HR1 := Lib.hid hR1
  have HR2 := Lib.hid hR2
  have HA' := Lib.hid (fun a ha => (hA' a ha).1)
  have HB' := Lib.hid (fun a ha => (hB' a ha).1)
  have HC2 := Lib.hid hc2
  have HC3 := Lib.hid hc3
  clear hwt hR1 hR2 hT hr hA hA' hB hB' hc2 hc3
  obtain ⟨xt, xi, xm⟩ := l
  simp only at HWt
  show Calls Try.prog 7 #[_, .agg #[.int .i64 xt, .int .i64 xi, .int .i64 xm]] w _
  have blk0 := heap_alloc_new w (.cells #[.int .i64 xt, .int .i64 xi, .int .i64 xm] 29)
  have hBw0 : Below w.heap.size w (w.alloc (.cells #[.int .i64 xt, .int .i64 xi, .int .i64 xm] 29)) := (Below.refl _ w).alloc (Nat.le_refl _) _
  have HB0 := Lib.hid hBw0
  have HBL0 := Lib.hid blk0
  clear hBw0 blk0
  go_enter Try.func7, Try.ntmps7
  go_upto_region 5 with (first
      | (go_at_call 12; refine (HR.out _).mono ?_; rintro e w2 ⟨rfl, hB2⟩; obtain ⟨hc2, _⟩ := bcell hB2; have HB2 := Lib.hid hB2; clear hB2)
      | (go_at_call 13; refine (HWt.out _ (HB0.out.trans (HB2.out.mono HB0.out.size))).mono ?_; rintro e w3 ⟨rfl, hB3⟩; obtain ⟨hc3, _⟩ := bcell hB3; have HB3 := Lib.hid hB3; clear hB3))
  have hs0 := HB0.out.size
  have hs2 := HB2.out.size
  have hs3 := HB3.out.size
  simp at hs0 hs2
  have hBV : Below w.heap.size w w3 := (HB0.out.trans (HB2.out.mono (by simp))).trans (HB3.out.mono (by omega))
  have hblkV := (HB3.out.block w.heap.size (by omega)).trans ((HB2.out.block w.heap.size (by simp)).trans HBL0.out)
  clear hc2 hc3 HB0 HB2 HB3 HBL0 hs0 hs2
  obtain ⟨V, rfl⟩ : ∃ V : World, V = w3 := ⟨_, rfl⟩
  have d1 := (hBV.cell (p := ⟨g, 1, none⟩) hlt).trans c1
  have HBV := Lib.hid hBV
  have HBLV := Lib.hid hblkV
  have hsz := heap_lt hblkV
  clear hBV hblkV
  obtain ⟨ki, hki⟩ : ∃ ki : Int, ki = idxV (ofB xt) W := ⟨_, rfl⟩
  rw [← hki]
  have HKI := Lib.hid hki
  clear hki
  go_upto_if 24 with fail
  go_cut [6] (fun s6 wd => s6 = .slice A' (aheadV W xt).length c' ∧ Below w.heap.size w wd ∧ wd.heap[w.heap.size]? = some (.cells #[.int .i64 xt, .int .i64 xi, .int .i64 xm] 29))
  --[S1
  case first => as_aux_lemma =>
    cases hf : W.findIdx? (ofB xt) with
    | some i =>
      obtain ⟨e1, e2, hi⟩ := aheadV_some hf
      obtain rfl : ki = (i : Int) := HKI.out.trans e2
      have hl : (aheadV W xt).length = i := by rw [e1, List.length_take]; omega
      have HL := Lib.hid hl
      have i1 : (0 : Int) ≤ (i : Int) := by omega
      have i2 : (i : Int) ≤ (c' : Int) := by omega
      clear hf e1 e2 hl
      go_wp2
      go_meet
      case rel => exact ⟨by rw [HL.out], HBV.out, HBLV.out⟩
    | none =>
      obtain ⟨e1, e2⟩ := aheadV_none hf
      obtain rfl : ki = -1 := HKI.out.trans e2
      have HL := Lib.hid e1
      clear hf e1 e2
      go_wp2
      go_meet
      case rel => exact ⟨by rw [HL.out], HBV.out, HBLV.out⟩
  --]S1
  case rest =>
    obtain ⟨rfl, hB4, hblk4⟩ := hcut
    obtain ⟨w4, rfl⟩ : ∃ w4 : World, w4 = wc := ⟨_, rfl⟩
    clear d1 HBV HBLV hsz hs3
    have d0 := (hB4.cell (p := ⟨g, 0, none⟩) hlt).trans c0
    have HR2' := Lib.hid (aheadV_rd HR2.out xt)
    have hal := aheadV_len W xt
    have hLL : (H ++ aheadV W xt).length = H.length + (aheadV W xt).length := by simp
    have HFV : Hid (forV H W ⟨xt, xi, xm⟩ = Lib.compact (sortI (whoV (H ++ aheadV W xt) ⟨xt, xi, xm⟩))) := Lib.hid rfl
    generalize aheadV W xt = W' at *
    have HB4 := Lib.hid hB4
    have HBL4 := Lib.hid hblk4
    have hsz := heap_lt hblk4
    have hcon := concat2 w4.heap.size A A' c c' H W' (w4.alloc (.cells #[.slice A H.length c, .slice A' W'.length c'] 34)) (heap_alloc_new _ _)
      ((HR1.out.below (HB4.out.alloc HB4.out.size _)).mono (HB4.out.alloc HB4.out.size _).size) ((HR2'.out.below (HB4.out.alloc HB4.out.size _)).mono (HB4.out.alloc HB4.out.size _).size) HC3.out HC2.out HA'.out HB'.out (by omega) (by omega)
    rw [← hLL] at hcon
    have hll : (H ++ W').length ≤ 2000000 := by rw [hLL]; omega
    clear hLL
    generalize hL : H ++ W' = L at *
    have HCon := Lib.hid hcon
    clear hB4 hblk4 c0 c1 hcon hL
    go_wp2_with (go_at_call 17; refine HCon.out.mono ?_; rintro e w5 ⟨v5, rfl, ho5, hB5⟩; obtain ⟨A5, c5, rfl, hA5, hA5'⟩ := own_slice ho5; have HR5 := Lib.hid (of_own3 ho5); have HB5 := Lib.hid hB5; clear ho5 hB5 hA5 hA5')
    have hs5 := HB5.out.size
    simp at hs5
    have hb5 := (HB5.out.block w.heap.size (by simp; omega)).trans ((Below.heap_alloc _ _ _ (by omega)).trans HBL4.out)
    have hBw5 : Below w.heap.size w w5 := (HB4.out.alloc HB4.out.size _).trans (HB5.out.mono (by have := HB4.out.size; simp; omega))
    have HB5w := Lib.hid hBw5
    have HBL5 := Lib.hid hb5
    have hsz5 := heap_lt hb5
    clear hb5 hBw5 d0
    have HODD := Lib.hid (fun (x : OpV) w => odds_any x ⟨xt, xi, xm⟩ w)
    clear hal HB4 HBL4 HB5 hs5 HCon
    go_loopg [8, 39] L.length (fun k s8 s39 wx => ∃ (i : Nat) (v : Value), i + k = L.length ∧ s39 = .int .i64 i ∧ v = s8 ∧ wx.ownsRow w5.heap.size 3 1 v (whoV (L.take i) ⟨xt, xi, xm⟩).length ((whoV (L.take i) ⟨xt, xi, xm⟩).map (.int .i64)) ∧ Below w5.heap.size w5 wx)
    case atStart => exact ⟨0, _, by omega, rfl, rfl, World.ownsRow_nil _ _ _ _, Below.refl _ _⟩
    case round =>
      obtain ⟨i, v, hk, rfl, rfl, ho, hB⟩ := hrel
      have hsz : w5.heap.size ≤ wr.heap.size := hB.size
      by_cases hi : i < L.length
      · obtain ⟨b, off, rfl, hb, hb2, hcell⟩ := (HR5.out.below hB).at_ hi
        have hlt3 : w.heap.size < wr.heap.size := Nat.lt_of_lt_of_le hsz5 hsz
        have hsn := whoV_snoc L i hi ⟨xt, xi, xm⟩
        have hwl := whoV_len (L.take i) ⟨xt, xi, xm⟩
        rw [List.length_take] at hwl
        generalize whoV (L.take i) ⟨xt, xi, xm⟩ = Z at *
        generalize L[i] = o at *
        have q0 : wr.cell? ⟨b, off + i * 3, none⟩ = some (.int .i64 o.tx) := hcell 0 _ rfl
        have q1 : wr.cell? ⟨b, off + i * 3 + 1, none⟩ = some (.int .i64 o.what) := hcell 1 _ rfl
        have q2 : wr.cell? ⟨b, off + i * 3 + 2, none⟩ = some (.int .i64 o.item) := hcell 2 _ rfl
        obtain ⟨b0, b1, b2⟩ := triple_cells (x := ⟨xt, xi, xm⟩) ((hB.block _ hsz5).trans HBL5.out)
        have HO := Lib.hid ho
        have HB := Lib.hid hB
        have HSN := Lib.hid hsn
        clear ho hB hcell hsn
        cases hod : oddsB o ⟨xt, xi, xm⟩ with
        | true =>
          have HZ : Hid (whoV (L.take (i + 1)) ⟨xt, xi, xm⟩ = Z ++ [o.tx]) := Lib.hid (by rw [HSN.out, if_pos hod])
          have HODD' := Lib.hid (HODD.out o)
          rw [hod] at HODD'
          clear hod
          go_wp2_with (first
            | (go_at_call 18; refine (HODD'.out _).mono ?_; rintro e w6 ⟨rfl, hB6⟩; have hc6 := (hB6.cell (p := ⟨wr.heap.size, 0, none⟩) (by simp)).trans (show (wr.alloc (.cells #[.int .i64 o.tx, .int .i64 o.what, .int .i64 o.item] 29)).cell? ⟨wr.heap.size, 0, none⟩ = some (.int .i64 o.tx) by rw [cell_of_row _ _ _ _ _ _ (heap_alloc_new _ _)]; rfl); have hs6 := hB6.size; simp at hs6; have HB6 := Lib.hid hB6; clear hB6)
            | (at_builtin; refine wpList_appInt _ (by rfl) (.tmp 46) (.tmp 49) (by rfl) w5.heap.size v Z.length Z (by rfl) (own_below HO.out ((((Below.refl _ wr).alloc (Nat.le_refl _) _).trans (HB6.out.mono (by simp))).alloc (by omega) _)) w6.heap.size o.tx (by rfl) (heap_alloc_new _ _) (by omega) (by simp; omega) ?_; intro g3 cap3 w7 ho7 hg7 hat7 hlt7; have HO7 := Lib.hid ho7; have HG7 := Lib.hid hg7; clear ho7 hg7 hat7))
          go_roundg (gk - 1)
          case measure => omega
          case rel =>
            refine ⟨i + 1, _, by omega, by go_num, rfl, by rw [HZ.out]; simpa using HO7.out, ?_⟩
            exact ((HB.out.trans ((((Below.refl _ wr).alloc (Nat.le_refl _) _).trans (HB6.out.mono (by simp))).mono hsz)).alloc (by omega) _).grown HG7.out (by simp; omega) (fun k hk => (HO.out.lt k hk).1)
        | false =>
          have HZ : Hid (whoV (L.take (i + 1)) ⟨xt, xi, xm⟩ = Z) := Lib.hid (by rw [HSN.out, if_neg (by simp [hod])])
          have HODD' := Lib.hid (HODD.out o)
          rw [hod] at HODD'
          clear hod
          go_wp2_with (go_at_call 18; refine (HODD'.out _).mono ?_; rintro e w6 ⟨rfl, hB6⟩; have HB6 := Lib.hid hB6; clear hB6)
          go_roundg (gk - 1)
          case measure => omega
          case rel =>
            refine ⟨i + 1, v, by omega, by go_num, rfl, by rw [HZ.out]; exact own_below HO.out (((Below.refl _ wr).alloc (Nat.le_refl _) _).trans (HB6.out.mono (by simp))), ?_⟩
            exact HB.out.trans ((((Below.refl _ wr).alloc (Nat.le_refl _) _).trans (HB6.out.mono (by simp))).mono hsz)
      · obtain rfl : i = L.length := by omega
        rw [List.take_of_length_le (Nat.le_refl _)] at ho
        have hwl := whoV_len L ⟨xt, xi, xm⟩
        generalize whoV L ⟨xt, xi, xm⟩ = Z at *
        have hso := sort_own v _ _ Z wr ho (by omega)
        have HSo := Lib.hid hso
        have HCo : Hid (∀ w1 : World, w1.ownsRow w5.heap.size 3 1 v Z.length ((sortI Z).map (.int .i64)) → Calls Try.prog 20 #[v] w1 fun e w' => ∃ v', e = .returned v' ∧ v'.ownBlock = v.ownBlock ∧ w'.ownsRow w5.heap.size 3 1 v' (Lib.compact (sortI Z)).length ((Lib.compact (sortI Z)).map (.int .i64)) ∧ Fr (fun k => v.ownBlock = some k) w1 w') := Lib.hid fun w1 h => compact_own v _ _ (sortI Z) w1 h (by omega)
        have HO := Lib.hid ho
        have HB := Lib.hid hB
        clear ho hB hso
        go_wp2_with (first
          | (go_at_call 19; refine HSo.out.mono ?_; rintro e w6 ⟨rfl, ho6, hF6⟩; have HO6 := Lib.hid ho6; have HF6 := Lib.hid hF6; clear ho6 hF6)
          | (go_at_call 20; refine (HCo.out _ HO6.out).mono ?_; rintro e w7 ⟨v7, rfl, hv7, ho7, hF7⟩; have HO7 := Lib.hid ho7; have HF7 := Lib.hid hF7; clear ho7 hF7 hv7))
        go_ret2
        rw [HFV.out]
        have hlo : ∀ k, v.ownBlock = some k → w5.heap.size ≤ k := fun k hk => (HO.out.lt k hk).1
        exact ⟨v7, rfl, own_base HO7.out HB5w.out.size, HB5w.out.trans ((HB.out.trans ((HF6.out.below hsz hlo).trans (HF7.out.below (Nat.le_trans hsz HF6.out.size) hlo))).mono HB5w.out.size)⟩
end Go.Proofs.Ytkfemodellmakaa
