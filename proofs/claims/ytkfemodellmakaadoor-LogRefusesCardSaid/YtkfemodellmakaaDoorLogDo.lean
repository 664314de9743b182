/- (*log.Log).Do. -/
import Derived.Test.YtkfemodellmakaaDoorLog2
import Derived.Test.YtkfemodellmakaaDoorPrint
import Derived.Deep.CutBlock
import Derived.Deep.RegionHeld3
namespace Go.Proofs.YtkfemodellmakaaDoor
open Go.RowKit
set_option linter.unusedSimpArgs false
set_option linter.unusedVariables false

theorem keep_far {w2 w3 : World} {row : Option Nat} (hg : w2.grownBy w3 row) {B : Nat} (hrow : ∀ k, row = some k → B ≤ k) (hB : B ≤ w2.heap.size) (b o : Nat) (hb : b < B) : w3.cell? ⟨b, o, none⟩ = w2.cell? ⟨b, o, none⟩ :=
  hg.cell_far ⟨b, o, none⟩ (by simp; omega) (fun e => by have := hrow b e.symm; omega)
/-- A log's state. -/
structure LogV where
  h : List OpV
  s : List UInt8
  safe : Int
  left : Int
  st : Bool
structure LogIs (w : World) (g : Nat) (L : LogV) : Prop where
  blk : ∃ A c, w.heap[g]? = some (logRow A L.h.length c ⟨L.s.toArray⟩ L.safe L.left L.st) ∧ RdO w w.heap.size A L.h ∧ (A = none → L.h = []) ∧ (∀ a, A = some a → a.spot = none ∧ a.block ≠ g)
  lo : -1 ≤ L.left
  hi : L.left ≤ 9223372036854775807
theorem RdO.fr {S : Nat → Prop} {w w' : World} {B : Nat} {A : Option Addr} {h : List OpV} (hR : RdO w B A h) (hf : Fr S w w') (hS : ∀ a, A = some a → ¬ S a.block) : RdO w' B A h := fun hn => by
  obtain ⟨b, off, e, h1, h2, hc⟩ := hR hn
  exact ⟨b, off, e, h1, Nat.lt_of_lt_of_le h2 hf.size, fun i hi j u hu => (hf.cell (p := ⟨b, off + i * 3 + j, none⟩) h2 (hS ⟨b, off, none⟩ e)).trans (hc i hi j u hu)⟩
theorem rdO_one {w : World} {b : Nat} {o : OpV} {t : TypeId} (hb : w.heap[b]? = some (.cells #[.int .i64 o.tx, .int .i64 o.what, .int .i64 o.item] t)) : RdO w w.heap.size (some ⟨b, 0, none⟩) [o] := fun _ => ⟨b, 0, rfl, heap_lt hb, heap_lt hb, fun i hi j u hu => by
  obtain rfl : i = 0 := by simp at hi; exact hi
  rw [cell_of_row w b _ _ _ _ hb]
  have : (0 + 0 * 3 + j) = j := by omega
  rw [this]
  simpa [encO] using hu⟩
theorem checkV_one {h : List OpV} {o : OpV} (hc : (checkV (h ++ [o])).2 = none) : (checkV [o]).2 = none := by
  have hr := (checkV_right hc).2 o (by simp)
  simp [checkV, checkFrom, hr]
theorem printV_one {o : OpV} (hc : (checkV [o]).2 = none) : printV [o] = textB o := by
  simp [printV, hc, textB, Lib.join_one]
theorem half_eq (S : List UInt8) (T : ByteArray) (k : Nat) : (⟨S.toArray⟩ : ByteArray) ++ T.extract 0 k = ⟨(S ++ T.data.toList.take k).toArray⟩ := by
  apply ByteArray.ext
  simp [← Array.toList_inj]
theorem app_eq (S : List UInt8) (T : ByteArray) : (⟨S.toArray⟩ : ByteArray) ++ T = ⟨(S ++ T.data.toList).toArray⟩ := by
  apply ByteArray.ext
  simp [← Array.toList_inj]
def lineB (o : OpV) : List UInt8 := textL o ++ [10]
def doV (L : LogV) (o : OpV) : LogV × Option Int :=
  if L.st then (L, some 6) else
  match (checkV (L.h ++ [o])).2 with
  | some e => (L, some e)
  | none =>
    if L.left = 0 then ({ L with s := L.s ++ (lineB o).take ((lineB o).length / 2), left := max (-1) (L.left - 1), st := true }, some 6)
    else ({ L with s := L.s ++ lineB o, h := L.h ++ [o], left := max (-1) (L.left - 1), st := false }, none)

set_option maxRecDepth 100000 in
set_option maxHeartbeats 2000000 in
theorem do_stopped (g : Nat) (L : LogV) (o : OpV) (w : World) (hL : LogIs w g L) (hs : L.st = true) :
    Calls Tryd.prog 8 #[.pointer (some ⟨g, 0, none⟩), o.agg] w fun e w' => e = .returned (errV (some 6)) ∧ LogIs w' g L ∧ Fr (fun k => k = g) w w' := by
  obtain ⟨A, c, hb, hR, h1, h2⟩ := hL.blk
  obtain ⟨tx, what, item⟩ := o
  show Calls Tryd.prog 8 #[_, .agg #[.int .i64 tx, .int .i64 what, .int .i64 item]] w _
  have c4 : w.cell? ⟨g, 4, none⟩ = some (.bool true) := by rw [cell_of_row w g 4 _ _ _ hb, ← hs]; rfl
  have hlt := heap_lt hb
  have hB : Below w.heap.size w (w.alloc (.cells #[.int .i64 tx, .int .i64 what, .int .i64 item] 28)) := (Below.refl _ w).alloc (Nat.le_refl _) _
  have HK : Hid (LogIs (w.alloc (.cells #[.int .i64 tx, .int .i64 what, .int .i64 item] 28)) g L) := Lib.hid ⟨⟨A, c, (hB.block g hlt).trans hb, (hR.below hB).mono hB.size, h1, h2⟩, hL.lo, hL.hi⟩
  have HB := Lib.hid hB
  clear hB hb hR h1 h2 hL hs
  go_enter Tryd.func8, Tryd.ntmps8
  go_wp2
  go_ret
  exact ⟨rfl, HK.out, Fr.of_new HB.out⟩

set_option maxRecDepth 100000 in
set_option maxHeartbeats 4000000 in
theorem do_on (g : Nat) (L : LogV) (o : OpV) (w : World) (hL : LogIs w g L) (hs : L.st = false) (hbig : L.h.length ≤ 1000000) (hsb : L.s.length ≤ 1000000000000) :
    Calls Tryd.prog 8 #[.pointer (some ⟨g, 0, none⟩), o.agg] w fun e w' => e = .returned (errV (doV L o).2) ∧ LogIs w' g (doV L o).1 ∧ Fr (fun k => k = g) w w' := by
  obtain ⟨A, c, hb, hR, h1, h2⟩ := hL.blk
  obtain ⟨tx, what, item⟩ := o
  show Calls Tryd.prog 8 #[_, .agg #[.int .i64 tx, .int .i64 what, .int .i64 item]] w _
  have c4 : w.cell? ⟨g, 4, none⟩ = some (.bool false) := by rw [cell_of_row w g 4 _ _ _ hb, ← hs]; rfl
  have c0 : w.cell? ⟨g, 0, none⟩ = some (.slice A L.h.length c) := by rw [cell_of_row w g 0 _ _ _ hb]; rfl
  have hlt := heap_lt hb
  have HCl : Hid (∀ w1, Below w.heap.size w w1 → Calls Tryd.prog 34 #[.slice A L.h.length c] w1 fun e w' => ∃ v', e = .returned v' ∧ w'.ownsRow w1.heap.size 28 3 v' L.h.length (flatO L.h) ∧ Below w1.heap.size w1 w') :=
    Lib.hid fun w1 hB => clone_any A c L.h w1 (by omega) ((hR.below hB).mono hB.size) h1 (fun a ha => (h2 a ha).1)
  have HK : Hid (∀ w', Below w.heap.size w w' → LogIs w' g L) := Lib.hid fun w' hB => ⟨⟨A, c, (hB.block g hlt).trans hb, (hR.below hB).mono hB.size, h1, h2⟩, hL.lo, hL.hi⟩
  have n0 := World.new_ne w ⟨g, 0, none⟩ c0
  have l1 := hL.lo
  have l2 := hL.hi
  have HDB := Lib.hid hb
  have HR0 := Lib.hid hR
  have H12 := Lib.hid (And.intro h1 h2)
  have HS := Lib.hid hs
  clear hb hR h1 h2 hL hs
  go_enter Tryd.func8, Tryd.ntmps8
  go_upto_region 3 with fail
  go_cut [5] (fun s5 wd => ∃ v, v = s5 ∧ wd.ownsRow w.heap.size 28 3 v (L.h.length + 1) (flatO (L.h ++ [⟨tx, what, item⟩])) ∧ Below w.heap.size w wd ∧ wd.heap[w.heap.size]? = some (.cells #[.int .i64 tx, .int .i64 what, .int .i64 item] 28))
  case first =>
    have blk := heap_alloc_new w (.cells #[.int .i64 tx, .int .i64 what, .int .i64 item] 28)
    have b0 : (w.alloc (.cells #[.int .i64 tx, .int .i64 what, .int .i64 item] 28)).cell? ⟨w.heap.size, 0, none⟩ = some (.int .i64 tx) := by rw [cell_of_row _ _ _ _ _ _ blk]; rfl
    have b1 : (w.alloc (.cells #[.int .i64 tx, .int .i64 what, .int .i64 item] 28)).cell? ⟨w.heap.size, 1, none⟩ = some (.int .i64 what) := by rw [cell_of_row _ _ _ _ _ _ blk]; rfl
    have b2 : (w.alloc (.cells #[.int .i64 tx, .int .i64 what, .int .i64 item] 28)).cell? ⟨w.heap.size, 2, none⟩ = some (.int .i64 item) := by rw [cell_of_row _ _ _ _ _ _ blk]; rfl
    have bg : (w.alloc (.cells #[.int .i64 tx, .int .i64 what, .int .i64 item] 28)).cell? ⟨g, 0, none⟩ = some (.slice A L.h.length c) := by rw [World.cell?_alloc_lt _ _ _ hlt]; exact c0
    have hBw : Below w.heap.size w (w.alloc (.cells #[.int .i64 tx, .int .i64 what, .int .i64 item] 28)) := (Below.refl _ w).alloc (Nat.le_refl _) _
    have hsz : w.heap.size < (w.alloc (.cells #[.int .i64 tx, .int .i64 what, .int .i64 item] 28)).heap.size := by simp
    have HBLK := Lib.hid blk
    clear blk n0 c0 c4
    generalize hWe : w.alloc (.cells #[.int .i64 tx, .int .i64 what, .int .i64 item] 28) = W at *
    clear hWe
    have HBw := Lib.hid hBw
    clear hBw
    go_region_held3 (fun w' => w'.cell? ⟨g, 0, none⟩ = some (.slice A L.h.length c) ∧ w'.cell? ⟨w.heap.size, 0, none⟩ = some (.int .i64 tx) ∧ w'.cell? ⟨w.heap.size, 1, none⟩ = some (.int .i64 what) ∧ w'.cell? ⟨w.heap.size, 2, none⟩ = some (.int .i64 item)) (first | go_keep | (refine ⟨(HB2.out.cell (p := ⟨g, 0, none⟩) (by simp; omega)).trans ?_, (HB2.out.cell (p := ⟨w.heap.size, 0, none⟩) (by simp; omega)).trans ?_, (HB2.out.cell (p := ⟨w.heap.size, 1, none⟩) (by simp; omega)).trans ?_, (HB2.out.cell (p := ⟨w.heap.size, 2, none⟩) (by simp; omega)).trans ?_⟩; (first | exact bg | exact (World.cell?_alloc_lt _ _ _ (by simp; omega)).trans bg); (first | exact b0 | exact (World.cell?_alloc_lt _ _ _ (by simp; omega)).trans b0); (first | exact b1 | exact (World.cell?_alloc_lt _ _ _ (by simp; omega)).trans b1); (first | exact b2 | exact (World.cell?_alloc_lt _ _ _ (by simp; omega)).trans b2)) | (refine ⟨(keep_far HG3.out (B := W.heap.size) (fun k hk => by have := (HO2.out.lt k hk).1; simp at this; omega) (by have := HB2.out.size; simp at this ⊢; omega) g 0 (by omega)).trans ?_, (keep_far HG3.out (B := W.heap.size) (fun k hk => by have := (HO2.out.lt k hk).1; simp at this; omega) (by have := HB2.out.size; simp at this ⊢; omega) w.heap.size 0 (by omega)).trans ?_, (keep_far HG3.out (B := W.heap.size) (fun k hk => by have := (HO2.out.lt k hk).1; simp at this; omega) (by have := HB2.out.size; simp at this ⊢; omega) w.heap.size 1 (by omega)).trans ?_, (keep_far HG3.out (B := W.heap.size) (fun k hk => by have := (HO2.out.lt k hk).1; simp at this; omega) (by have := HB2.out.size; simp at this ⊢; omega) w.heap.size 2 (by omega)).trans ?_⟩; (first | exact (World.cell?_alloc_lt _ _ _ (by have := HB2.out.size; simp at this ⊢; omega)).trans ((HB2.out.cell (p := ⟨g, 0, none⟩) (by simp; omega)).trans bg) | exact (HB2.out.cell (p := ⟨g, 0, none⟩) (by simp; omega)).trans ((World.cell?_alloc_lt _ _ _ (by simp; omega)).trans bg)); (first | exact (World.cell?_alloc_lt _ _ _ (by have := HB2.out.size; simp at this ⊢; omega)).trans ((HB2.out.cell (p := ⟨w.heap.size, 0, none⟩) (by simp; omega)).trans b0) | exact (HB2.out.cell (p := ⟨w.heap.size, 0, none⟩) (by simp; omega)).trans ((World.cell?_alloc_lt _ _ _ (by simp; omega)).trans b0)); (first | exact (World.cell?_alloc_lt _ _ _ (by have := HB2.out.size; simp at this ⊢; omega)).trans ((HB2.out.cell (p := ⟨w.heap.size, 1, none⟩) (by simp; omega)).trans b1) | exact (HB2.out.cell (p := ⟨w.heap.size, 1, none⟩) (by simp; omega)).trans ((World.cell?_alloc_lt _ _ _ (by simp; omega)).trans b1)); (first | exact (World.cell?_alloc_lt _ _ _ (by have := HB2.out.size; simp at this ⊢; omega)).trans ((HB2.out.cell (p := ⟨w.heap.size, 2, none⟩) (by simp; omega)).trans b2) | exact (HB2.out.cell (p := ⟨w.heap.size, 2, none⟩) (by simp; omega)).trans ((World.cell?_alloc_lt _ _ _ (by simp; omega)).trans b2)))) (first | ((go_at_call 34; refine (HCl.out _ ?_).mono ?_; (first | exact HBw.out.drew | exact (HBw.out.drew).alloc (by simp; omega) _); rintro e w2 ⟨v', rfl, ho2, hB2⟩; obtain ⟨hc2, hf2⟩ := bcell hB2; have HO2 := Lib.hid ho2; have HB2 := Lib.hid hB2; clear ho2 hB2)) | ((refine step_appOp _ (by rfl) _ _ (by rfl) w.heap.size v' L.h.length L.h (by rfl) (own_below (own_base HO2.out (by simp; omega)) ((Below.refl _ w2).alloc (Nat.le_refl _) _)) w2.heap.size ⟨tx, what, item⟩ (by rfl) (heap_alloc_new _ _) (by omega) (by have := HB2.out.size; simp at this ⊢; omega) ?_; intro g3 cap3 w3 ho3 hg3 hat3 hlt3; have HO3 := Lib.hid ho3; have HG3 := Lib.hid hg3; clear ho3 hg3 hat3)) | ((refine step_appOp _ (by rfl) _ _ (by rfl) w.heap.size v' L.h.length L.h (by rfl) (own_base HO2.out (by simp; omega)) _ ⟨tx, what, item⟩ (by rfl) ((HB2.out.block _ (by simp)).trans (heap_alloc_new _ _)) (by omega) (by have := HB2.out.size; simp at this ⊢; omega) ?_; intro g3 cap3 w3 ho3 hg3 hat3 hlt3; have HO3 := Lib.hid ho3; have HG3 := Lib.hid hg3; clear ho3 hg3 hat3)))
    · go_wp2
      go_meet
      case rel =>
        have hs2 := HB2.out.size
        simp at hs2
        refine ⟨_, rfl, HO3.out, ((HBw.out.drew.trans (HB2.out.mono (by simp; omega))).alloc (by omega) _).grown HG3.out (by simp; omega) (fun k hk => by have := (HO2.out.lt k hk).1; (try simp at this); omega), ?_⟩
        exact (HG3.out.block _ (by simp; omega) (fun e => by have := (HO2.out.lt _ e.symm).1; (try simp at this); omega)).trans ((Below.heap_alloc _ _ _ (by omega)).trans ((HB2.out.block _ (by simp; omega)).trans HBLK.out))
    · go_wp2
      go_meet
      case rel =>
        have hs2 := HB2.out.size
        simp at hs2
        refine ⟨_, rfl, HO3.out, ((HBw.out.drew.alloc (by (try simp); omega) _).trans (HB2.out.mono (by (try simp); omega))).grown HG3.out (by omega) (fun k hk => by have := (HO2.out.lt k hk).1; (try simp at this); omega), ?_⟩
        exact (HG3.out.block _ (by omega) (fun e => by have := (HO2.out.lt _ e.symm).1; (try simp at this); omega)).trans ((HB2.out.block _ (by simp; omega)).trans ((Below.heap_alloc _ _ _ (by (try simp); omega)).trans HBLK.out))
  case rest =>
    obtain ⟨v, rfl, ho, hB, hblk⟩ := hcut
    obtain ⟨A5, c5, rfl, hA5, hA5'⟩ := own_slice ho
    have hr5 := rightH_any (L.h ++ [⟨tx, what, item⟩]) A5 c5 wc (of_own3 ho) (by simp; omega)
    rw [show (L.h ++ [(⟨tx, what, item⟩ : OpV)]).length = L.h.length + 1 by simp] at hr5
    have HR5 := Lib.hid hr5
    have HO := Lib.hid ho
    have HB := Lib.hid hB
    have HBLK := Lib.hid hblk
    have HA5 := Lib.hid hA5
    have HA5' := Lib.hid hA5'
    clear ho hB hblk hr5 hA5 hA5' n0 c0 c4
    cases hk : (checkV (L.h ++ [⟨tx, what, item⟩])).2 with
    | some k =>
      have hd : doV L ⟨tx, what, item⟩ = (L, some k) := by simp [doV, HS.out, hk]
      rw [hk] at HR5
      have HD := Lib.hid hd
      clear hd hk
      go_wp2_with (go_at_call 35; refine HR5.out.mono ?_; rintro e w4 ⟨rfl, hB4⟩; simp only [errV]; have HB4 := Lib.hid hB4; clear hB4)
      go_ret
      rw [HD.out]
      exact ⟨rfl, HK.out _ (HB.out.trans (HB4.out.mono HB.out.size)), Fr.of_new (HB.out.trans (HB4.out.mono HB.out.size))⟩
    | none =>
      have hk1 := checkV_one hk
      have hpt := printV_one hk1
      have hts : (textB ⟨tx, what, item⟩).size ≤ 5 := by have := textL_length ⟨tx, what, item⟩; simpa [textB, ByteArray.size] using this
      have hlb : lineB ⟨tx, what, item⟩ = (textB ⟨tx, what, item⟩ ++ ({ data := #[10] } : ByteArray)).data.toList := by simp [lineB, textB]
      rw [hk] at HR5
      have HD1 : Hid (L.left = 0 → doV L ⟨tx, what, item⟩ = ({ L with s := L.s ++ (lineB ⟨tx, what, item⟩).take ((lineB ⟨tx, what, item⟩).length / 2), left := max (-1) (L.left - 1), st := true }, some 6)) := Lib.hid fun h0 => by simp [doV, HS.out, hk, h0]
      have HD2 : Hid (L.left ≠ 0 → doV L ⟨tx, what, item⟩ = ({ L with s := L.s ++ lineB ⟨tx, what, item⟩, h := L.h ++ [⟨tx, what, item⟩], left := max (-1) (L.left - 1), st := false }, none)) := Lib.hid fun h0 => by simp [doV, HS.out, hk, h0]
      have HPR : Hid (∀ w1 : World, w1.heap.size = w1.heap.size) := Lib.hid fun _ => rfl
      have HP : Hid (∀ (w1 : World) (b : Nat), w1.heap[b]? = some (.cells #[.int .i64 tx, .int .i64 what, .int .i64 item] 28) → Calls Tryd.prog 36 #[.slice (some ⟨b, 0, none⟩) 1 1] w1 fun e w' => e = .returned (.tuple #[.string (textB ⟨tx, what, item⟩), .nilIface]) ∧ Below w1.heap.size w1 w') := Lib.hid fun w1 b hb => by
        have := print_any [(⟨tx, what, item⟩ : OpV)] (some ⟨b, 0, none⟩) 1 w1 (rdO_one hb) (by simp)
        rw [hpt, hk1] at this
        exact this
      have HLB := Lib.hid hlb
      clear hk hk1 hpt hlb HPR
      generalize textB ⟨tx, what, item⟩ = T at *
      have HSs : Hid ((⟨L.s.toArray⟩ : ByteArray) = ⟨L.s.toArray⟩) := Lib.hid rfl
      have hss : (⟨L.s.toArray⟩ : ByteArray).size ≤ 1000000000000 := by simpa [ByteArray.size] using hsb
      have HRow : Hid (∀ w1 : World, w1.heap[g]? = w.heap[g]? → w1.heap[g]? = some (logRow A L.h.length c ⟨L.s.toArray⟩ L.safe L.left L.st)) := Lib.hid fun w1 h => h.trans HDB.out
      generalize hSS : (⟨L.s.toArray⟩ : ByteArray) = S at *
      clear HSs
      have HSS := Lib.hid hSS
      clear hSS
      cases e0 : (L.left == 0) with
      | true =>
        have HD := Lib.hid (HD1.out (by simpa using e0))
        go_wp2_with (first
          | (go_at_call 35; refine HR5.out.mono ?_; rintro e w4 ⟨rfl, hB4⟩; simp only [errV]; obtain ⟨hc4, hf4⟩ := bcell hB4; have hs4 := hB4.size; have d0 : wc.cell? ⟨w.heap.size, 0, none⟩ = some (.int .i64 tx) := (by rw [cell_of_row _ _ _ _ _ _ HBLK.out]; rfl); have d1 : wc.cell? ⟨w.heap.size, 1, none⟩ = some (.int .i64 what) := (by rw [cell_of_row _ _ _ _ _ _ HBLK.out]; rfl); have d2 : wc.cell? ⟨w.heap.size, 2, none⟩ = some (.int .i64 item) := (by rw [cell_of_row _ _ _ _ _ _ HBLK.out]; rfl); have hlc := heap_lt HBLK.out; have HB4 := Lib.hid hB4; clear hB4)
          | (go_at_call 36; refine (HP.out _ _ (heap_alloc_new _ _)).mono ?_; rintro e w5 ⟨rfl, hB5⟩; have HB5 := Lib.hid hB5; clear hB5)
          | (go_at_call 37; refine (logStep g A L.h.length c S L.safe L.left L.st _ (HRow.out _ ((HB5.out.block g (by simp; omega)).trans ((Below.heap_alloc _ _ g (by omega)).trans ((HB4.out.block g (by omega)).trans (HB.out.block g hlt))))) l1 l2).mono ?_; rw [e0]; rintro e w6 ⟨rfl, hr6, hF6⟩; have g1 : w6.cell? ⟨g, 1, none⟩ = some (.string S) := (by rw [cell_of_row _ _ _ _ _ _ hr6]; rfl); have gf : w6.frozen? ⟨g, 1, none⟩ = false := (by simp [World.frozen?, hr6, logRow]); have HR6 := Lib.hid hr6; have HF6 := Lib.hid hF6; clear hr6 hF6))
        have hF5 : Below w.heap.size w w5 := ((HB.out.trans (HB4.out.mono HB.out.size)).alloc (by omega) _).trans (HB5.out.mono (by simp; omega))
        have hF : Fr (fun k => k = g) w w6 := (Fr.of_new hF5).trans HF6.out
        have HF := Lib.hid hF
        have HF5 := Lib.hid hF5
        clear hF hF5
        go_region
        go_wp2
        go_ret
        rw [HD.out]
        have hF' := (HF.out.drew).setCell (p := ⟨g, 1, none⟩) (.inl rfl)
        refine ⟨rfl, ⟨⟨A, c, ?_, (HR0.out.fr (hF' _) (fun a ha => (H12.out.2 a ha).2)).mono (hF' _).size, H12.out.1, H12.out.2⟩, by simp; omega, by simp; omega⟩, hF' _⟩
        refine (heap_setCell_same w6 g 1 _ _ _ HR6.out).trans ?_
        rw [HLB.out, ← half_eq, HSS.out]
        simp [logRow]
      | false =>
        have HD := Lib.hid (HD2.out (by simpa using e0))
        go_wp2_with (first
          | (go_at_call 35; refine HR5.out.mono ?_; rintro e w4 ⟨rfl, hB4⟩; simp only [errV]; obtain ⟨hc4, hf4⟩ := bcell hB4; have hs4 := hB4.size; have d0 : wc.cell? ⟨w.heap.size, 0, none⟩ = some (.int .i64 tx) := (by rw [cell_of_row _ _ _ _ _ _ HBLK.out]; rfl); have d1 : wc.cell? ⟨w.heap.size, 1, none⟩ = some (.int .i64 what) := (by rw [cell_of_row _ _ _ _ _ _ HBLK.out]; rfl); have d2 : wc.cell? ⟨w.heap.size, 2, none⟩ = some (.int .i64 item) := (by rw [cell_of_row _ _ _ _ _ _ HBLK.out]; rfl); have hlc := heap_lt HBLK.out; have HB4 := Lib.hid hB4; clear hB4)
          | (go_at_call 36; refine (HP.out _ _ (heap_alloc_new _ _)).mono ?_; rintro e w5 ⟨rfl, hB5⟩; have HB5 := Lib.hid hB5; clear hB5)
          | (go_at_call 37; refine (logStep g A L.h.length c S L.safe L.left L.st _ (HRow.out _ ((HB5.out.block g (by simp; omega)).trans ((Below.heap_alloc _ _ g (by omega)).trans ((HB4.out.block g (by omega)).trans (HB.out.block g hlt))))) l1 l2).mono ?_; rw [e0]; rintro e w6 ⟨rfl, hr6, hF6⟩; have g0 : w6.cell? ⟨g, 0, none⟩ = some (.slice A L.h.length c) := (by rw [cell_of_row _ _ _ _ _ _ hr6]; rfl); have gz : w6.frozen? ⟨g, 0, none⟩ = false := (by simp [World.frozen?, hr6, logRow]); have g1 : w6.cell? ⟨g, 1, none⟩ = some (.string S) := (by rw [cell_of_row _ _ _ _ _ _ hr6]; rfl); have gf : w6.frozen? ⟨g, 1, none⟩ = false := (by simp [World.frozen?, hr6, logRow]); have HR6 := Lib.hid hr6; have HF6 := Lib.hid hF6; clear hr6 hF6))
        have hF5 : Below w.heap.size w w5 := ((HB.out.trans (HB4.out.mono HB.out.size)).alloc (by omega) _).trans (HB5.out.mono (by simp; omega))
        have hFc : Fr (fun k => k = g) wc w6 := (Fr.of_new ((HB4.out.alloc (by omega) _).trans (HB5.out.mono (by simp; omega)))).trans HF6.out
        have hF : Fr (fun k => k = g) w w6 := (Fr.of_new hF5).trans HF6.out
        go_ret
        rw [HD.out]
        have hF' := fun u v => (hF.setCell (p := ⟨g, 1, none⟩) (.inl rfl) u).setCell (p := ⟨g, 0, none⟩) (.inl rfl) v
        have hFc' := fun u v => (hFc.setCell (p := ⟨g, 1, none⟩) (.inl rfl) u).setCell (p := ⟨g, 0, none⟩) (.inl rfl) v
        have hgA : ∀ a, A5 = some a → a.spot = none ∧ a.block ≠ g := fun a ha => ⟨(HA5'.out a ha).1, by have := (HA5'.out a ha).2.1; omega⟩
        refine ⟨rfl, ⟨⟨A5, c5, ?_, ((of_own3 HO.out).fr (hFc' _ _) (fun a ha => (hgA a ha).2)).mono (hFc' _ _).size, fun h => by have := HA5.out h; omega, hgA⟩, by simp; omega, by simp; omega⟩, hF' _ _⟩
        refine (heap_setCell_same _ g 0 _ _ _ (heap_setCell_same w6 g 1 _ _ _ HR6.out)).trans ?_
        rw [HLB.out, ← app_eq, HSS.out]
        simp [logRow]
end Go.Proofs.YtkfemodellmakaaDoor
