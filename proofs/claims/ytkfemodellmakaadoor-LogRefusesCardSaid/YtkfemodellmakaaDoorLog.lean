/- The package log: New, step, Bytes. -/
import Derived.Test.YtkfemodellmakaaDoorHist2
namespace Go.Proofs.YtkfemodellmakaaDoor
open Go.RowKit
set_option linter.unusedSimpArgs false
set_option linter.unusedVariables false

/-- A log in memory: its history's slice, its bytes, how many are safe, the steps left, stopped. -/
def logRow (A : Option Addr) (n c : Nat) (s : ByteArray) (safe left : Int) (stopped : Bool) : Obj :=
  .cells #[.slice A n c, .string s, .int .i64 safe, .int .i64 left, .bool stopped] 80

theorem logNew (w : World) : Calls Tryd.prog 7 #[] w fun e w' => e = .returned (.pointer (some ⟨w.heap.size, 0, none⟩)) ∧ w.alloc (logRow none 0 0 ⟨#[]⟩ 0 (-1) false) = w' := by
  go_enter Tryd.func7, Tryd.ntmps7
  go_wp2
  go_ret
  exact ⟨rfl, rfl⟩
theorem logBytes (g : Nat) (s : ByteArray) (w : World) (hc : w.cell? ⟨g, 1, none⟩ = some (.string s)) :
    Calls Tryd.prog 10 #[.pointer (some ⟨g, 0, none⟩)] w fun e w' => e = .returned (.int .i64 s.size) ∧ w = w' := by
  go_enter Tryd.func10, Tryd.ntmps10
  go_wp2
  go_ret
  exact ⟨rfl, rfl⟩

theorem logStep (g : Nat) (A : Option Addr) (n c : Nat) (s : ByteArray) (safe left : Int) (st : Bool) (w : World) (hr : w.heap[g]? = some (logRow A n c s safe left st)) (hl : -1 ≤ left) (hl2 : left ≤ 9223372036854775807) :
    Calls Tryd.prog 37 #[.pointer (some ⟨g, 0, none⟩)] w fun e w' => e = .returned (.bool (left == 0)) ∧ w'.heap[g]? = some (logRow A n c s safe (max (-1) (left - 1)) (left == 0)) ∧ Fr (fun k => k = g) w w' := by
  have r1 : (w.setCell ⟨g, 4, none⟩ (.bool (left == 0))).heap[g]? = some (logRow A n c s safe left (left == 0)) := heap_setCell_same w g 4 _ _ _ hr
  have r2 : ((w.setCell ⟨g, 4, none⟩ (.bool (left == 0))).setCell ⟨g, 3, none⟩ (.int .i64 (max (-1) (left - 1)))).heap[g]? = some (logRow A n c s safe (max (-1) (left - 1)) (left == 0)) := heap_setCell_same _ g 3 _ _ _ r1
  have c3 : w.cell? ⟨g, 3, none⟩ = some (.int .i64 left) := by rw [cell_of_row w g 3 _ _ _ hr]; rfl
  have c4 : w.cell? ⟨g, 4, none⟩ = some (.bool st) := by rw [cell_of_row w g 4 _ _ _ hr]; rfl
  have f4 : w.frozen? ⟨g, 4, none⟩ = false := by simp [World.frozen?, hr, logRow]
  have d3 : (w.setCell ⟨g, 4, none⟩ (.bool (left == 0))).cell? ⟨g, 3, none⟩ = some (.int .i64 left) := by rw [cell_of_row _ g 3 _ _ _ r1]; rfl
  have g3 : (w.setCell ⟨g, 4, none⟩ (.bool (left == 0))).frozen? ⟨g, 3, none⟩ = false := by simp [World.frozen?, r1, logRow]
  have e4 : ((w.setCell ⟨g, 4, none⟩ (.bool (left == 0))).setCell ⟨g, 3, none⟩ (.int .i64 (max (-1) (left - 1)))).cell? ⟨g, 4, none⟩ = some (.bool (left == 0)) := by rw [cell_of_row _ g 4 _ _ _ r2]; rfl
  have HR := Lib.hid r2
  clear r1 r2 hr
  by_cases hm : left - 1 ≤ -1
  · have m : max (-1) (left - 1) = -1 := by omega
    rw [m] at HR e4 ⊢
    clear m
    go_enter Tryd.func37, Tryd.ntmps37
    go_wp2
    go_ret
    exact ⟨rfl, HR.out, ((Fr.refl (fun k => k = g) w).setCell (.inl rfl) _).setCell (.inl rfl) _⟩
  · have m : max (-1) (left - 1) = left - 1 := by omega
    rw [m] at HR e4 ⊢
    clear m
    go_enter Tryd.func37, Tryd.ntmps37
    go_wp2
    go_ret
    exact ⟨rfl, HR.out, ((Fr.refl (fun k => k = g) w).setCell (.inl rfl) _).setCell (.inl rfl) _⟩
end Go.Proofs.YtkfemodellmakaaDoor
