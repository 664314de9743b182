/- slices.Grow of nil, slices.Concat of two, at []api.Lock. -/
import Derived.Test.YtkfemodellmakaaOwn2
import Derived.Lib.AppendZeros
import Derived.Deep.LoopGhost
import Derived.Deep.Light
namespace Go.Proofs.Ytkfemodellmakaa
open Go.RowKit
set_option linter.unusedSimpArgs false
set_option linter.unusedVariables false

theorem rd_below_drew {B : Nat} {w w' : World} (h : Below B w w') : Below B w w'.drew := h.drew
set_option maxRecDepth 100000 in
set_option maxHeartbeats 1000000 in
theorem grow_nil (n : Nat) (w : World) (hn : n * 24 ≤ 140737488355328) :
    Calls Try.prog 31 #[.slice none 0 0, .int .i64 n] w fun e w' => ∃ v, e = .returned v ∧ w'.ownsRow w.heap.size 29 3 v 0 (flatO []) ∧ Below w.heap.size w w' := by
  obtain ⟨i0, hi, hz0, hz1, hz2⟩ := info_parts inf1Lock
  rcases Nat.eq_zero_or_pos n with rfl | h0
  · go_enter Try.func31, Try.ntmps31
    go_wp2
    go_ret
    exact ⟨_, rfl, ⟨rfl, .inl ⟨rfl, rfl⟩⟩, Below.refl _ _⟩
  · have h1 : (0 : Int) < (n : Int) := by omega
    have h2 : (n : Int) ≤ 9223372036854775807 := by omega
    have hr := fun ty => Lib.run_append_nil_zeros (P := Try.prog) w 34 3 ty 29 i0 (.agg #[.int .i64 0, .int .i64 0, .int .i64 0]) .i64 .i64 Try.underlying34 Try.underlying3 hi hz0 n h0 (by rw [hz1]; decide) h2 (by rw [hz2]; omega)
    have hc1 := grownCap_ge w n 0 29
    have hc2 := grownCap_le_maxLen w n 0 29 (by unfold maxLen; omega)
    have HR := Lib.hid hr
    clear hr
    generalize grownCap w n 0 29 = G at *
    unfold maxLen at hc2
    go_enter Try.func31, Try.ntmps31
    go_wp2_with (at_builtin; refine Lib.wpList_append_run _ rfl (.tmp 20) (.tmp 21) _ _ rfl _ _ rfl rfl _ _ (HR.out _) ?_)
    go_ret
    refine ⟨_, rfl, ⟨rfl, .inr ⟨w.heap.size, G, _, rfl, Nat.le_refl _, heap_alloc_new _ _, by omega, by unfold maxLen; omega, ?_, by simp [flatO]⟩⟩, (Below.refl _ w).drew.alloc (Nat.le_refl _) _⟩
    simp [size_zeroCells, Value.cells]
    omega

/-- How many of the two slices' elements have been met behind i rounds, and which. -/
def szN (n1 n2 : Nat) : Nat → Nat | 0 => 0 | 1 => n1 | _ => n1 + n2
def preN (l1 l2 : List OpV) : Nat → List OpV | 0 => [] | 1 => l1 | _ => l1 ++ l2
set_option maxRecDepth 100000 in
set_option maxHeartbeats 2000000 in
theorem concat2 (b : Nat) (A1 A2 : Option Addr) (c1 c2 : Nat) (l1 l2 : List OpV) (w : World) (hb : w.heap[b]? = some (.cells #[.slice A1 l1.length c1, .slice A2 l2.length c2] 34)) (hR1 : RdO w w.heap.size A1 l1) (hR2 : RdO w w.heap.size A2 l2)
    (hn1 : A1 = none → c1 = 0) (hn2 : A2 = none → c2 = 0) (hs1 : ∀ a, A1 = some a → a.spot = none) (hs2 : ∀ a, A2 = some a → a.spot = none) (h1 : l1.length ≤ 1000000) (h2 : l2.length ≤ 1000000) :
    Calls Try.prog 17 #[.slice (some ⟨b, 0, none⟩) 2 2] w fun e w' => ∃ v, e = .returned v ∧ w'.ownsRow w.heap.size 29 3 v (l1.length + l2.length) (flatO (l1 ++ l2)) ∧ Below w.heap.size w w' := by
  have hlt := heap_lt hb
  have q0 : w.cell? ⟨b, 0, none⟩ = some (.slice A1 l1.length c1) := by rw [cell_of_row _ _ _ _ _ _ hb]; rfl
  have q1 : w.cell? ⟨b, 1, none⟩ = some (.slice A2 l2.length c2) := by rw [cell_of_row _ _ _ _ _ _ hb]; rfl
  have HR1 := Lib.hid hR1
  have HR2 := Lib.hid hR2
  have HN1 := Lib.hid hn1
  have HN2 := Lib.hid hn2
  have HS1 := Lib.hid hs1
  have HS2 := Lib.hid hs2
  clear hR1 hR2 hn1 hn2 hs1 hs2 hb
  go_enter Try.func17, Try.ntmps17
  go_wp2
  go_loopg [3, 11] 2 (fun k s3 s11 wx => ∃ i : Nat, i + k = 2 ∧ s11 = .int .i64 i ∧ s3 = .int .i64 (szN l1.length l2.length i) ∧ wx = w)
  case atStart => exact ⟨0, rfl, rfl, rfl, rfl⟩
  case round =>
    obtain ⟨i, hk, rfl, rfl, hw⟩ := hrel
    obtain rfl : w = wr := hw.symm
    clear hw
    have : i = 0 ∨ i = 1 ∨ i = 2 := by omega
    rcases this with rfl | rfl | rfl
    · simp only [szN]
      go_wp2
      go_roundg (gk - 1)
      case measure => omega
      case rel => exact ⟨1, by omega, rfl, by simp only [szN], rfl⟩
    · simp only [szN]
      go_wp2
      go_roundg (gk - 1)
      case measure => omega
      case rel => exact ⟨2, by omega, rfl, by simp only [szN]; go_num, rfl⟩
    · simp only [szN]
      have HG := Lib.hid (grow_nil (l1.length + l2.length) w (by omega))
      have ec : ((l1.length + l2.length : Nat) : Int) = (l1.length : Int) + (l2.length : Int) := by omega
      rw [ec] at HG ⊢
      clear ec
      go_wp2_with (go_at_call 31; refine HG.out.mono ?_; rintro e w2 ⟨v2, rfl, ho2, hB2⟩; have HO2 := Lib.hid ho2; have HB2 := Lib.hid hB2; clear ho2 hB2)
      clear HG
      have hs2 := HB2.out.size
      obtain ⟨hc2, _⟩ : (∀ b o, b < w.heap.size → w2.cell? ⟨b, o, none⟩ = w.cell? ⟨b, o, none⟩) ∧ True := ⟨fun b o h => HB2.out.cell (p := ⟨b, o, none⟩) h, trivial⟩
      have p0 := (hc2 b 0 hlt).trans q0
      have p1 := (hc2 b 1 hlt).trans q1
      have P0 : Hid (∀ wx : World, Below w.heap.size w wx → wx.cell? ⟨b, 0, none⟩ = some (.slice A1 l1.length c1)) := Lib.hid fun wx h => (h.cell (p := ⟨b, 0, none⟩) hlt).trans q0
      have P1 : Hid (∀ wx : World, Below w.heap.size w wx → wx.cell? ⟨b, 1, none⟩ = some (.slice A2 l2.length c2)) := Lib.hid fun wx h => (h.cell (p := ⟨b, 1, none⟩) hlt).trans q1
      clear hc2 p0 p1 q0 q1
      go_loopg [6, 27] 2 (fun k s6 s27 wx => ∃ (i : Nat) (v : Value), i + k = 2 ∧ s27 = .int .i64 i ∧ v = s6 ∧ wx.ownsRow w.heap.size 29 3 v (szN l1.length l2.length i) (flatO (preN l1 l2 i)) ∧ Below w.heap.size w wx)
      case atStart => exact ⟨0, _, rfl, rfl, rfl, HO2.out, HB2.out⟩
      case round =>
        obtain ⟨j, v, hk, rfl, rfl, ho, hB⟩ := hrel
        have hsz := hB.size
        have HO := Lib.hid ho
        have HB := Lib.hid hB
        clear ho hB
        have : j = 0 ∨ j = 1 ∨ j = 2 := by omega
        rcases this with rfl | rfl | rfl
        · have p := P0.out wr HB.out
          go_wp2_with (at_builtin; refine wpList_appsLock _ (by rfl) (.tmp 31) (.tmp 32) (by rfl) w.heap.size v 0 [] (by rfl) HO.out w.heap.size A1 l1.length c1 l1 (by rfl) rfl (HR1.out.below HB.out) HN1.out HS1.out (by omega) hsz ?_; intro v3 w3 ho3 hg3 hat3; have HO3 := Lib.hid ho3; have HG3 := Lib.hid hg3; clear ho3 hg3 hat3)
          go_roundg (gk - 1)
          case measure => omega
          case rel => exact ⟨1, v3, by omega, rfl, rfl, by simpa [szN, preN] using HO3.out, HB.out.grown HG3.out hsz (fun k hk => (HO.out.lt k hk).1)⟩
        · have p := P1.out wr HB.out
          go_wp2_with (at_builtin; refine wpList_appsLock _ (by rfl) (.tmp 31) (.tmp 32) (by rfl) w.heap.size v l1.length l1 (by rfl) HO.out w.heap.size A2 l2.length c2 l2 (by rfl) rfl (HR2.out.below HB.out) HN2.out HS2.out (by omega) hsz ?_; intro v3 w3 ho3 hg3 hat3; have HO3 := Lib.hid ho3; have HG3 := Lib.hid hg3; clear ho3 hg3 hat3)
          go_roundg (gk - 1)
          case measure => omega
          case rel => exact ⟨2, v3, by omega, rfl, rfl, by simpa [szN, preN] using HO3.out, HB.out.grown HG3.out hsz (fun k hk => (HO.out.lt k hk).1)⟩
        · go_wp2
          go_ret
          exact ⟨v, rfl, HO.out, HB.out⟩
end Go.Proofs.Ytkfemodellmakaa
