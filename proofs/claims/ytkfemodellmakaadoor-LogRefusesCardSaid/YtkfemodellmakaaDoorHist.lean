/- The package history: ops; which is right; Check and Right of any list of ops. -/
import Derived.Test.YtkfemodellmakaaDoorFrame
import Derived.Test.YtkfemodellmakaaDoorRead
import Derived.Test.YtkfemodellmakaaDoorChecked
import Derived.WalkKit
namespace Go.Proofs.YtkfemodellmakaaDoor
open Go.RowKit
set_option linter.unusedSimpArgs false
set_option linter.unusedVariables false

/-- An op. -/
structure OpV where
  tx : Int
  what : Int
  item : Int
def OpV.agg (o : OpV) : Value := .agg #[.int .i64 o.tx, .int .i64 o.what, .int .i64 o.item]
def encO (o : OpV) : List Value := [.int .i64 o.tx, .int .i64 o.what, .int .i64 o.item]
abbrev RdO (w : World) (B : Nat) (A : Option Addr) (xs : List OpV) : Prop := Rd encO 3 w B A xs
def numB (n : Int) : Bool := decide (1 ≤ n ∧ n ≤ 6)
theorem numB_true {n : Int} : numB n = true ↔ 1 ≤ n ∧ n ≤ 6 := by simp [numB]
theorem numB_false {n : Int} : numB n = false ↔ n < 1 ∨ 6 < n := by simp [numB]; omega
def endsB (o : OpV) : Bool := decide (o.what = 3 ∨ o.what = 4)
def rightB (o : OpV) : Bool := if !numB o.tx || decide (o.what < 1) || decide (4 < o.what) then false else if endsB o then decide (o.item = 0) else numB o.item

theorem hTx_any (n : Int) (w : World) : Calls Tryd.prog 39 #[.int .i64 n] w fun e w' => e = .returned (.bool (numB n)) ∧ w = w' := by
  cases h : numB n with
  | true =>
    obtain ⟨h1, h2⟩ := numB_true.1 h
    go_enter Tryd.func39, Tryd.ntmps39
    go_wp2
    go_ret
    exact ⟨rfl, rfl⟩
  | false =>
    rcases numB_false.1 h with h1 | h1
    · go_enter Tryd.func39, Tryd.ntmps39
      go_wp2
      go_ret
      exact ⟨rfl, rfl⟩
    · have h' : 1 ≤ n := by omega
      have h2 : decide (n ≤ 6) = false := by simp; omega
      go_enter Tryd.func39, Tryd.ntmps39
      go_wp2
      go_ret
      exact ⟨rfl, rfl⟩
theorem hItem_any (n : Int) (w : World) : Calls Tryd.prog 96 #[.int .i64 n] w fun e w' => e = .returned (.bool (numB n)) ∧ w = w' := by
  cases h : numB n with
  | true =>
    obtain ⟨h1, h2⟩ := numB_true.1 h
    go_enter Tryd.func96, Tryd.ntmps96
    go_wp2
    go_ret
    exact ⟨rfl, rfl⟩
  | false =>
    rcases numB_false.1 h with h1 | h1
    · go_enter Tryd.func96, Tryd.ntmps96
      go_wp2
      go_ret
      exact ⟨rfl, rfl⟩
    · have h' : 1 ≤ n := by omega
      have h2 : decide (n ≤ 6) = false := by simp; omega
      go_enter Tryd.func96, Tryd.ntmps96
      go_wp2
      go_ret
      exact ⟨rfl, rfl⟩

theorem ends_any (o : OpV) (w : World) : Calls Tryd.prog 102 #[o.agg] w fun e w' => e = .returned (.bool (endsB o)) ∧ Below w.heap.size w w' := by
  obtain ⟨tx, what, item⟩ := o
  show Calls Tryd.prog 102 #[.agg #[.int .i64 tx, .int .i64 what, .int .i64 item]] w _
  have hn : Below w.heap.size w (w.alloc (.cells #[.int .i64 tx, .int .i64 what, .int .i64 item] 28)) := (Below.refl _ w).alloc (Nat.le_refl _) _
  have HN := Lib.hid hn
  clear hn
  by_cases h3 : what = 3
  · subst h3
    go_enter Tryd.func102, Tryd.ntmps102
    go_wp2
    go_ret
    exact ⟨rfl, HN.out⟩
  · have e3 : (what == 3) = false := by simpa using h3
    cases e4 : (what == 4) with
    | true =>
      have hr : endsB ⟨tx, what, item⟩ = true := by simp [endsB]; right; simpa using e4
      rw [hr]
      clear hr h3
      go_enter Tryd.func102, Tryd.ntmps102
      go_wp2
      go_ret
      exact ⟨rfl, HN.out⟩
    | false =>
      have hr : endsB ⟨tx, what, item⟩ = false := by simp [endsB]; exact ⟨h3, by simpa using e4⟩
      rw [hr]
      clear hr h3
      go_enter Tryd.func102, Tryd.ntmps102
      go_wp2
      go_ret
      exact ⟨rfl, HN.out⟩

theorem right_any (o : OpV) (w : World) : Calls Tryd.prog 101 #[o.agg] w fun e w' => e = .returned (.bool (rightB o)) ∧ Below w.heap.size w w' := by
  have hends := fun w => ends_any o w
  obtain ⟨tx, what, item⟩ := o
  show Calls Tryd.prog 101 #[.agg #[.int .i64 tx, .int .i64 what, .int .i64 item]] w _
  have hn : Below w.heap.size w (w.alloc (.cells #[.int .i64 tx, .int .i64 what, .int .i64 item] 28)) := (Below.refl _ w).alloc (Nat.le_refl _) _
  have HN := Lib.hid hn
  have HE := Lib.hid hends
  have hitem : (item == 0) = decide (item = 0) := by by_cases h : item = 0 <;> simp [h]
  have HI := Lib.hid hitem
  clear hn hends hitem
  cases hx : numB tx with
  | false =>
    have hr : rightB ⟨tx, what, item⟩ = false := by simp [rightB, hx]
    rw [hr]
    clear hr
    go_enter Tryd.func101, Tryd.ntmps101
    go_wp2_with (go_at_call 39; refine (hTx_any _ _).mono ?_; rintro e w' ⟨rfl, rfl⟩)
    all_goals (go_ret; exact ⟨rfl, HN.out⟩)
  | true =>
    by_cases h1 : what < 1
    · have hr : rightB ⟨tx, what, item⟩ = false := by simp [rightB, hx, h1]
      rw [hr]
      clear hr
      go_enter Tryd.func101, Tryd.ntmps101
      go_wp2_with (go_at_call 39; refine (hTx_any _ _).mono ?_; rintro e w' ⟨rfl, rfl⟩)
      all_goals (go_ret; exact ⟨rfl, HN.out⟩)
    · by_cases h2 : 4 < what
      · have hr : rightB ⟨tx, what, item⟩ = false := by simp [rightB, hx, h2]
        rw [hr]
        clear hr
        go_enter Tryd.func101, Tryd.ntmps101
        go_wp2_with (go_at_call 39; refine (hTx_any _ _).mono ?_; rintro e w' ⟨rfl, rfl⟩)
        all_goals (go_ret; exact ⟨rfl, HN.out⟩)
      · cases he : endsB ⟨tx, what, item⟩ with
        | true =>
          have hr : rightB ⟨tx, what, item⟩ = decide (item = 0) := by simp [rightB, hx, h1, h2, he]
          have HEE := Lib.hid he
          rw [hr, ← HI.out]
          clear hr he
          go_enter Tryd.func101, Tryd.ntmps101
          go_wp2_with (first
            | (go_at_call 39; refine (hTx_any _ _).mono ?_; rintro e w' ⟨rfl, rfl⟩)
            | (go_at_call 102; refine (HE.out _).mono ?_; rw [HEE.out]; rintro e w2 ⟨rfl, hB⟩; have hc : w2.cell? ⟨w.heap.size, 2, none⟩ = some (.int .i64 item) := (hB.cell (p := ⟨w.heap.size, 2, none⟩) (by simp)).trans (by rw [cell_of_row _ _ _ _ _ _ (heap_alloc_new _ _)]; rfl); have HB := Lib.hid hB; clear hB))
          all_goals (go_ret; exact ⟨rfl, HN.out.trans (HB.out.mono (by simp))⟩)
        | false =>
          have hr : rightB ⟨tx, what, item⟩ = numB item := by simp [rightB, hx, h1, h2, he]
          have HEE := Lib.hid he
          rw [hr]
          clear hr he
          go_enter Tryd.func101, Tryd.ntmps101
          go_wp2_with (first
            | (go_at_call 39; refine (hTx_any _ _).mono ?_; rintro e w' ⟨rfl, rfl⟩)
            | (go_at_call 96; refine (hItem_any _ _).mono ?_; rintro e w' ⟨rfl, rfl⟩)
            | (go_at_call 102; refine (HE.out _).mono ?_; rw [HEE.out]; rintro e w2 ⟨rfl, hB⟩; have hc : w2.cell? ⟨w.heap.size, 2, none⟩ = some (.int .i64 item) := (hB.cell (p := ⟨w.heap.size, 2, none⟩) (by simp)).trans (by rw [cell_of_row _ _ _ _ _ _ (heap_alloc_new _ _)]; rfl); have HB := Lib.hid hB; clear hB))
          all_goals (go_ret; exact ⟨rfl, HN.out.trans (HB.out.mono (by simp))⟩)
end Go.Proofs.YtkfemodellmakaaDoor
