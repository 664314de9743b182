/- Triples of numbers (ops, locks) in memory; history.Tx, Item. -/
import Derived.Test.YtkfemodellmakaaFrame
import Derived.Test.YtkfemodellmakaaRead
import Derived.Test.YtkfemodellmakaaChecked
import Derived.WalkKit
import Derived.Lib.SliceRun
namespace Go.Proofs.Ytkfemodellmakaa
open Go.RowKit
set_option linter.unusedSimpArgs false
set_option linter.unusedVariables false

/-- An op. -/
structure OpV where
  tx : Int
  what : Int
  item : Int
def OpV.agg (o : OpV) : Value := .agg #[.int .i64 o.tx, .int .i64 o.what, .int .i64 o.item]
def encO (o : OpV) : List Value := [.int .i64 o.tx, .int .i64 o.what, .int .i64 o.item]
abbrev RdO (w : World) (B : Nat) (A : Option Addr) (xs : List OpV) : Prop := Rd encO 3 w B A xs
def numB (n : Int) : Bool := decide (1 ≤ n ∧ n ≤ 6)
theorem numB_true {n : Int} : numB n = true ↔ 1 ≤ n ∧ n ≤ 6 := by simp [numB]
theorem numB_false {n : Int} : numB n = false ↔ n < 1 ∨ 6 < n := by simp [numB]; omega
def endsB (o : OpV) : Bool := decide (o.what = 3 ∨ o.what = 4)
def rightB (o : OpV) : Bool := if !numB o.tx || decide (o.what < 1) || decide (4 < o.what) then false else if endsB o then decide (o.item = 0) else numB o.item

theorem hTx_any (n : Int) (w : World) : Calls Try.prog 21 #[.int .i64 n] w fun e w' => e = .returned (.bool (numB n)) ∧ w = w' := by
  cases h : numB n with
  | true =>
    obtain ⟨h1, h2⟩ := numB_true.1 h
    go_enter Try.func21, Try.ntmps21
    go_wp2
    go_ret
    exact ⟨rfl, rfl⟩
  | false =>
    rcases numB_false.1 h with h1 | h1
    · go_enter Try.func21, Try.ntmps21
      go_wp2
      go_ret
      exact ⟨rfl, rfl⟩
    · have h' : 1 ≤ n := by omega
      have h2 : decide (n ≤ 6) = false := by simp; omega
      go_enter Try.func21, Try.ntmps21
      go_wp2
      go_ret
      exact ⟨rfl, rfl⟩
theorem hItem_any (n : Int) (w : World) : Calls Try.prog 25 #[.int .i64 n] w fun e w' => e = .returned (.bool (numB n)) ∧ w = w' := by
  cases h : numB n with
  | true =>
    obtain ⟨h1, h2⟩ := numB_true.1 h
    go_enter Try.func25, Try.ntmps25
    go_wp2
    go_ret
    exact ⟨rfl, rfl⟩
  | false =>
    rcases numB_false.1 h with h1 | h1
    · go_enter Try.func25, Try.ntmps25
      go_wp2
      go_ret
      exact ⟨rfl, rfl⟩
    · have h' : 1 ≤ n := by omega
      have h2 : decide (n ≤ 6) = false := by simp; omega
      go_enter Try.func25, Try.ntmps25
      go_wp2
      go_ret
      exact ⟨rfl, rfl⟩


def flatO (h : List OpV) : List Value := h.flatMap encO
theorem flatO_length : ∀ h : List OpV, (flatO h).length = h.length * 3
  | [] => rfl
  | o :: r => by simp only [flatO, List.flatMap_cons, List.length_append]; have := flatO_length r; simp only [flatO] at this; rw [this]; simp [encO]; omega
theorem flatO_get : ∀ (h : List OpV) (j : Nat), (flatO h)[j]? = (h[j / 3]?).bind fun o => (encO o)[j % 3]?
  | [], j => by simp [flatO]
  | o :: r, j => by
    have ih := flatO_get r
    simp only [flatO, List.flatMap_cons] at ih ⊢
    by_cases hj : j < 3
    · rw [List.getElem?_append_left (by simp [encO]; omega), Nat.div_eq_of_lt hj, Nat.mod_eq_of_lt hj]; rfl
    · rw [List.getElem?_append_right (by simp [encO]; omega), show (encO o).length = 3 from rfl, ih]
      obtain ⟨k, rfl⟩ : ∃ k, j = k + 3 := ⟨j - 3, by omega⟩
      simp [Nat.add_div_right]
theorem RdO.flat {w : World} {B : Nat} {b off : Nat} {h : List OpV} (hR : RdO w B (some ⟨b, off, none⟩) h) (j : Nat) (u : Value) (hu : (flatO h)[j]? = some u) : w.cell? ⟨b, off + j, none⟩ = some u := by
  rw [flatO_get] at hu
  obtain ⟨o, ho, hu⟩ := Option.bind_eq_some_iff.1 hu
  obtain ⟨hi, rfl⟩ := List.getElem?_eq_some_iff.1 ho
  obtain ⟨b', off', e, _, _, hc⟩ := Rd.at_ hR hi
  cases e
  have := hc (j % 3) u hu
  rwa [show off + j / 3 * 3 + j % 3 = off + j by omega] at this

theorem encO_one (h : List OpV) : ∀ u ∈ flatO h, u.oneCell' = true := by
  intro u hu
  simp only [flatO, List.mem_flatMap] at hu
  obtain ⟨o, _, hu⟩ := hu
  simp [encO] at hu
  rcases hu with rfl | rfl | rfl <;> rfl
end Go.Proofs.Ytkfemodellmakaa
