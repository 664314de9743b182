/- slices.Clone at []api.Op. -/
import Derived.Test.YtkfemodellmakaaDoorHist
import Derived.Lib.Walk
import Derived.Lib.SliceRun
import Derived.Laws.AppendOwn
import Derived.OwnWalk
namespace Go.Proofs.YtkfemodellmakaaDoor
open Go.RowKit
set_option linter.unusedSimpArgs false
set_option linter.unusedVariables false
set_option maxRecDepth 100000 in
theorem clone_nil (n c : Nat) (w : World) :
    Calls Tryd.prog 34 #[.slice none n c] w fun e w' => e = .returned (.slice none 0 0) ∧ w' = w := by
  have q : ∀ (w : World) (a : Option Addr) (n c n' c' : Nat), (binOp .eql 31 (.slice a n c) (.slice none n' c')).run Tryd.prog w = .ok (.bool a.isNone) w := fun w a n c n' c' => Lib.run_eql_slice_nil w _ _ a n c n' c' Tryd.underlying31
  go_enter Tryd.func34, Tryd.ntmps34
  go_wp2
  go_ret
  exact ⟨rfl, rfl⟩

def flatO (h : List OpV) : List Value := h.flatMap encO
theorem flatO_length : ∀ h : List OpV, (flatO h).length = h.length * 3
  | [] => rfl
  | o :: r => by simp only [flatO, List.flatMap_cons, List.length_append]; have := flatO_length r; simp only [flatO] at this; rw [this]; simp [encO]; omega
theorem flatO_get : ∀ (h : List OpV) (j : Nat), (flatO h)[j]? = (h[j / 3]?).bind fun o => (encO o)[j % 3]?
  | [], j => by simp [flatO]
  | o :: r, j => by
    have ih := flatO_get r
    simp only [flatO, List.flatMap_cons] at ih ⊢
    by_cases hj : j < 3
    · rw [List.getElem?_append_left (by simp [encO]; omega), Nat.div_eq_of_lt hj, Nat.mod_eq_of_lt hj]; rfl
    · rw [List.getElem?_append_right (by simp [encO]; omega), show (encO o).length = 3 from rfl, ih]
      obtain ⟨k, rfl⟩ : ∃ k, j = k + 3 := ⟨j - 3, by omega⟩
      simp [Nat.add_div_right]
theorem RdO.flat {w : World} {B : Nat} {b off : Nat} {h : List OpV} (hR : RdO w B (some ⟨b, off, none⟩) h) (j : Nat) (u : Value) (hu : (flatO h)[j]? = some u) : w.cell? ⟨b, off + j, none⟩ = some u := by
  rw [flatO_get] at hu
  obtain ⟨o, ho, hu⟩ := Option.bind_eq_some_iff.1 hu
  obtain ⟨hi, rfl⟩ := List.getElem?_eq_some_iff.1 ho
  obtain ⟨b', off', e, _, _, hc⟩ := Rd.at_ hR hi
  cases e
  have := hc (j % 3) u hu
  rwa [show off + j / 3 * 3 + j % 3 = off + j by omega] at this

theorem encO_one (h : List OpV) : ∀ u ∈ flatO h, u.oneCell' = true := by
  intro u hu
  simp only [flatO, List.mem_flatMap] at hu
  obtain ⟨o, _, hu⟩ := hu
  simp [encO] at hu
  rcases hu with rfl | rfl | rfl <;> rfl
theorem infoOp : (Tryd.prog.info? 28).map (fun i => (i.zero, i.size, i.bytes)) = some (some (.agg #[.int .i64 0, .int .i64 0, .int .i64 0]), 3, 24) := by kernel_rfl
set_option maxHeartbeats 2000000 in
set_option maxRecDepth 100000 in
theorem clone_some (b off c : Nat) (h : List OpV) (w : World) (hbig : h.length * 24 ≤ 140737488355328) (hR : RdO w w.heap.size (some ⟨b, off, none⟩) h) :
    Calls Tryd.prog 34 #[.slice (some ⟨b, off, none⟩) h.length c] w fun e w' => ∃ v', e = .returned v' ∧ w'.ownsRow w.heap.size 28 3 v' h.length (flatO h) ∧ Below w.heap.size w w' := by
  obtain ⟨i0, hi, hz0, hz1, hz2⟩ := info_parts infoOp
  have q : ∀ (w : World) (a : Option Addr) (n c n' c' : Nat), (binOp .eql 31 (.slice a n c) (.slice none n' c')).run Tryd.prog w = .ok (.bool a.isNone) w := fun w a n c n' c' => Lib.run_eql_slice_nil w _ _ a n c n' c' Tryd.underlying31
  have HR := Lib.hid hR
  clear hR
  go_enter Tryd.func34, Tryd.ntmps34
  go_wp2_with (at_builtin; refine wpList_append_own _ rfl _ _ 31 rfl w.heap.size 28 i0 (.agg #[.int .i64 0, .int .i64 0, .int .i64 0]) 3 24 Tryd.underlying31 hi hz0 hz1 hz2 rfl (by decide) _ _ _ rfl (World.ownsRow_made w #[] 0 (Nat.le_refl _) (Nat.zero_le _) rfl) ⟨b, off, none⟩ h.length c (flatO h) rfl ?qc1 ?qc2 ?qc3 ?qc4 ?qc5 ?qc6 ?_)
  case qc1 => exact flatO_length h
  case qc2 =>
    intro j u hj
    rw [Addr.add_lit]
    exact Lib.cell?_alloc_some _ (HR.out.flat j u hj)
  case qc3 => exact encO_one h
  case qc4 => unfold maxLen; omega
  case qc5 => omega
  case qc6 => simp
  intro v' w1 hown hgrow hnil
  go_wp2
  go_ret
  exact ⟨v', rfl, by simpa using hown, ((Below.refl _ w).alloc (Nat.le_refl _) _).grown hgrow (by simp) (by intro k hk; simp [Value.ownBlock] at hk; omega)⟩

theorem ownsRow_RdO {w : World} {B : Nat} {v : Value} {h : List OpV} (ho : w.ownsRow B 28 3 v h.length (flatO h)) : ∃ A c, v = .slice A h.length c ∧ RdO w w.heap.size A h := by
  obtain ⟨_, ho⟩ := ho
  rcases ho with ⟨rfl, hn⟩ | ⟨g, cap, cur, rfl, _, hb, _, _, _, hcur⟩
  · refine ⟨none, 0, by rw [hn], fun hp => absurd hp (by omega)⟩
  · refine ⟨_, cap, rfl, fun hp => ⟨g, 0, rfl, heap_lt hb, heap_lt hb, fun i hi j u hu => ?_⟩⟩
    have hj : j < 3 := (List.getElem?_eq_some_iff.1 hu).1
    have hf : (flatO h)[i * 3 + j]? = some u := by
      rw [flatO_get, show (i * 3 + j) / 3 = i by omega, show (i * 3 + j) % 3 = j by omega, List.getElem?_eq_getElem hi]
      exact hu
    rw [← hcur, List.getElem?_take] at hf
    split at hf
    · rw [cell_of_row w g _ _ _ _ hb]
      rw [show 0 + i * 3 + j = i * 3 + j by omega]
      simpa using hf
    · cases hf
end Go.Proofs.YtkfemodellmakaaDoor
