/- history.Check and Right of any list of ops. -/
import Derived.Test.YtkfemodellmakaaDoorHist
import Derived.Test.YtkfemodellmakaaDoorTold
import Derived.Deep.LoopGhost
import Derived.Deep.QuietTactic
import Derived.Deep.Light
import Derived.Deep.DeepCutAuto
import Derived.Deep.RegionWith
import Derived.Deep.CutBlock
namespace Go.Proofs.YtkfemodellmakaaDoor
open Go.RowKit
set_option linter.unusedSimpArgs false
set_option linter.unusedVariables false

def updB (E : Int → Bool) (i : Int) (v : Bool) : Int → Bool := fun k => if k = i then v else E k
def checkFrom (E : Int → Bool) (i : Nat) : List OpV → Int × Option Int
  | [] => (0, none)
  | o :: r => if rightB o = false then (i, some 1) else if E o.tx = true then (i, some 6) else checkFrom (updB E o.tx (endsB o)) (i + 1) r
def checkV (h : List OpV) : Int × Option Int := if 40 < h.length then (0, some 4) else checkFrom (fun _ => false) 0 h
def arrB (E : Int → Bool) : Array Value := #[.bool (E 0), .bool (E 1), .bool (E 2), .bool (E 3), .bool (E 4), .bool (E 5), .bool (E 6)]
theorem arrB_at (E : Int → Bool) (i : Int) (h0 : 0 ≤ i) (h1 : i ≤ 6) : (arrB E)[i.toNat]? = some (.bool (E i)) := by
  have : i = 0 ∨ i = 1 ∨ i = 2 ∨ i = 3 ∨ i = 4 ∨ i = 5 ∨ i = 6 := by omega
  rcases this with rfl | rfl | rfl | rfl | rfl | rfl | rfl <;> rfl
theorem arrB_set (E : Int → Bool) (i : Int) (v : Bool) (h0 : 0 ≤ i) (h1 : i ≤ 6) : (arrB E).setIfInBounds i.toNat (.bool v) = arrB (updB E i v) := by
  have : i = 0 ∨ i = 1 ∨ i = 2 ∨ i = 3 ∨ i = 4 ∨ i = 5 ∨ i = 6 := by omega
  rcases this with rfl | rfl | rfl | rfl | rfl | rfl | rfl <;> simp [arrB, updB]
theorem rightB_tx {o : OpV} (h : rightB o = true) : 1 ≤ o.tx ∧ o.tx ≤ 6 := by
  rw [← numB_true]
  cases hn : numB o.tx with
  | true => rfl
  | false => simp [rightB, hn] at h

set_option maxRecDepth 100000 in
set_option maxHeartbeats 2000000 in
theorem check_any (h : List OpV) (A : Option Addr) (c : Nat) (w : World) (hR : RdO w w.heap.size A h) (hl : h.length ≤ 9223372036854775807) :
    Calls Tryd.prog 72 #[.slice A h.length c] w fun e w' => e = .returned (.tuple #[.int .i64 (checkV h).1, errV (checkV h).2]) ∧ Below w.heap.size w w' := by
  by_cases h40 : 40 < h.length
  · have hr : checkV h = (0, some 4) := by simp [checkV, h40]
    rw [hr]
    go_enter Tryd.func72, Tryd.ntmps72
    go_wp2
    go_ret2
    exact ⟨rfl, Below.refl _ _⟩
  · obtain ⟨R, hRe⟩ : ∃ R, R = checkV h := ⟨_, rfl⟩
    rw [← hRe]
    have hR0 : checkFrom (fun _ => false) 0 (h.drop 0) = R := by rw [hRe]; simp [checkV, h40]
    have HR0 := Lib.hid hR0
    have HR := Lib.hid hR
    clear hRe hR0 hR
    go_enter Tryd.func72, Tryd.ntmps72
    go_wp2
    go_loopg [13] h.length (fun k s13 wx => ∃ (i : Nat) (E : Int → Bool), i + k = h.length ∧ s13 = .int .i64 i ∧ wx.heap[w.heap.size]? = some (.cells (arrB E) 89) ∧ checkFrom E i (h.drop i) = R ∧ Below w.heap.size w wx)
    case atStart => exact ⟨0, _, by omega, rfl, heap_alloc_new _ _, HR0.out, (Below.refl _ w).alloc (Nat.le_refl _) _⟩
    case round =>
      obtain ⟨i, E, hk, rfl, hv, hc, hB⟩ := hrel
      by_cases hi : i < h.length
      · obtain ⟨b, off, rfl, hb, hb2, hcell⟩ := (HR.out.below hB).at_ hi
        rw [List.drop_eq_getElem_cons hi] at hc
        generalize h[i] = o at *
        have c0 : wr.cell? ⟨b, off + i * 3, none⟩ = some (.int .i64 o.tx) := hcell 0 _ rfl
        have c1 : wr.cell? ⟨b, off + i * 3 + 1, none⟩ = some (.int .i64 o.what) := hcell 1 _ rfl
        have c2 : wr.cell? ⟨b, off + i * 3 + 2, none⟩ = some (.int .i64 o.item) := hcell 2 _ rfl
        have hsz : w.heap.size ≤ wr.heap.size := hB.size
        have hlt := heap_lt hv
        have HC := Lib.hid hc
        have HV := Lib.hid hv
        have HB := Lib.hid hB
        clear hc hv hB hcell
        cases hr : rightB o with
        | false =>
          go_wp2_with (go_at_call 101; refine (right_any o _).mono ?_; rw [hr]; rintro e w2 ⟨rfl, hB2⟩)
          have hR1 : R = ((i : Int), some 1) := by rw [← HC.out]; simp [checkFrom, hr]
          go_ret2
          rw [hR1]
          exact ⟨rfl, HB.out.trans (((Below.refl _ wr).alloc hsz _).trans (hB2.mono (by simp; omega)))⟩
        | true =>
          obtain ⟨t1, t2⟩ := rightB_tx hr
          have HRT := Lib.hid hr
          clear hr
          cases hE : E o.tx with
          | true =>
            have hR1 : R = ((i : Int), some 6) := by rw [← HC.out]; simp [checkFrom, HRT.out, hE]
            have HR1 := Lib.hid hR1
            clear hR1
            go_wp2_with (go_at_call 101; refine (right_any o _).mono ?_; rw [HRT.out]; rintro e w2 ⟨rfl, hB2⟩; have d0 : w2.cell? ⟨wr.heap.size, 0, none⟩ = some (.int .i64 o.tx) := (hB2.cell (p := ⟨wr.heap.size, 0, none⟩) (by simp)).trans (by rw [cell_of_row _ _ _ _ _ _ (heap_alloc_new _ _)]; rfl); have dE : w2.cell? ⟨w.heap.size, o.tx.toNat, none⟩ = some (.bool true) := (hB2.cell (p := ⟨w.heap.size, o.tx.toNat, none⟩) (by simp; omega)).trans (by rw [World.cell?_alloc_lt _ _ _ (by simp; omega), cell_of_row _ _ _ _ _ _ HV.out, arrB_at E _ (by omega) t2, hE]); have HB2 := Lib.hid hB2; clear hB2)
            go_ret2
            rw [HR1.out]
            exact ⟨rfl, HB.out.trans (((Below.refl _ wr).alloc hsz _).trans (HB2.out.mono (by simp; omega)))⟩
          | false =>
            have hR1 : checkFrom (updB E o.tx (endsB o)) (i + 1) (h.drop (i + 1)) = R := by rw [← HC.out]; simp [checkFrom, HRT.out, hE]
            have HR1 := Lib.hid hR1
            clear hR1
            go_upto_block 1 with fail
            go_cut [34] (fun s34 wd => wd.heap[w.heap.size]? = some (.cells (arrB (updB E o.tx (endsB o))) 89) ∧ Below w.heap.size w wd)
            case first =>
              go_upto_region 11 with (go_at_call 101; refine (right_any o _).mono ?_; rw [HRT.out]; rintro e w2 ⟨rfl, hB2⟩; have d0 : w2.cell? ⟨wr.heap.size, 0, none⟩ = some (.int .i64 o.tx) := (hB2.cell (p := ⟨wr.heap.size, 0, none⟩) (by simp)).trans (by rw [cell_of_row _ _ _ _ _ _ (heap_alloc_new _ _)]; rfl); have d1 : w2.cell? ⟨wr.heap.size, 1, none⟩ = some (.int .i64 o.what) := (hB2.cell (p := ⟨wr.heap.size, 1, none⟩) (by simp)).trans (by rw [cell_of_row _ _ _ _ _ _ (heap_alloc_new _ _)]; rfl); have d2 : w2.cell? ⟨wr.heap.size, 2, none⟩ = some (.int .i64 o.item) := (hB2.cell (p := ⟨wr.heap.size, 2, none⟩) (by simp)).trans (by rw [cell_of_row _ _ _ _ _ _ (heap_alloc_new _ _)]; rfl); have dE : w2.cell? ⟨w.heap.size, o.tx.toNat, none⟩ = some (.bool false) := (hB2.cell (p := ⟨w.heap.size, o.tx.toNat, none⟩) (by simp; omega)).trans (by rw [World.cell?_alloc_lt _ _ _ (by simp; omega), cell_of_row _ _ _ _ _ _ HV.out, arrB_at E _ (by omega) t2, hE]); have HB2 := Lib.hid hB2; clear hB2)
              have hdv : w2.heap[w.heap.size]? = some (.cells (arrB E) 89) := (HB2.out.block _ (by simp; omega)).trans ((Below.heap_alloc _ _ _ hlt).trans HV.out)
              have HD := Lib.hid hdv
              clear hdv
              have hs2 : wr.heap.size < w2.heap.size := Nat.lt_of_lt_of_le (by simp) HB2.out.size
              have fz : w2.frozen? ⟨w.heap.size, o.tx.toNat, none⟩ = false := by simp [World.frozen?, HD.out]
              go_region_with (go_at_call 102; refine (ends_any o _).mono ?_; rintro e w3 ⟨rfl, hB3⟩; have f0 : w3.cell? ⟨wr.heap.size, 0, none⟩ = some (.int .i64 o.tx) := (hB3.cell (p := ⟨wr.heap.size, 0, none⟩) hs2).trans d0; have fE : w3.cell? ⟨w.heap.size, o.tx.toNat, none⟩ = some (.bool false) := (hB3.cell (p := ⟨w.heap.size, o.tx.toNat, none⟩) (Nat.lt_of_le_of_lt hsz hs2)).trans dE; have ff : w3.frozen? ⟨w.heap.size, o.tx.toNat, none⟩ = false := (hB3.frozen (p := ⟨w.heap.size, o.tx.toNat, none⟩) (Nat.lt_of_le_of_lt hsz hs2)).trans fz; have HB3 := Lib.hid hB3; clear hB3)
              all_goals
                go_wp2
                go_meet
                case rel =>
                  have hF : Fr (fun k => k = w.heap.size) w2 (w3.setCell ⟨w.heap.size, o.tx.toNat, none⟩ (.bool (endsB o))) := (((Fr.refl (fun k => k = w.heap.size) w2).drew).new HB3.out).setCell (.inl rfl) _
                  refine ⟨?_, HB.out.trans (((Below.refl _ wr).alloc hsz _).trans ((HB2.out.mono (by simp; omega)).trans (hF.below (by omega) (by intro q hq; omega))))⟩
                  rw [← arrB_set E _ _ (by omega) t2]
                  exact heap_setCell_same w3 _ _ _ _ _ ((HB3.out.block _ (Nat.lt_of_le_of_lt hsz hs2)).trans HD.out)
            case rest =>
              obtain ⟨hv3, hB3⟩ := hcut
              have HV3 := Lib.hid hv3
              have HB3 := Lib.hid hB3
              clear hv3 hB3
              go_wp2
              go_roundg (gk - 1)
              case measure => omega
              case rel => exact ⟨i + 1, _, by omega, by go_num, HV3.out, HR1.out, HB3.out⟩
      · have hn : h.length ≤ i := by omega
        have hR1 : R = (0, none) := by rw [← hc, List.drop_eq_nil_of_le hn]; rfl
        have HR1 := Lib.hid hR1
        clear hR1 hc hv
        go_wp2
        go_ret2
        rw [HR1.out]
        exact ⟨rfl, hB⟩

theorem rightH_any (h : List OpV) (A : Option Addr) (c : Nat) (w : World) (hR : RdO w w.heap.size A h) (hl : h.length ≤ 9223372036854775807) :
    Calls Tryd.prog 35 #[.slice A h.length c] w fun e w' => e = .returned (errV (checkV h).2) ∧ Below w.heap.size w w' := by
  have HC := Lib.hid (check_any h A c w hR hl)
  clear hR
  generalize checkV h = R at *
  obtain ⟨r1, r2⟩ := R
  go_enter Tryd.func35, Tryd.ntmps35
  go_wp2_with (go_at_call 72; refine HC.out.mono ?_; rintro e w' ⟨rfl, hB⟩)
  go_ret
  exact ⟨rfl, hB⟩
end Go.Proofs.YtkfemodellmakaaDoor
