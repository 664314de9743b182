/- (*Log).All. -/
import Derived.Test.YtkfemodellmakaaDoorLog
import Derived.Test.YtkfemodellmakaaDoorClone
namespace Go.Proofs.YtkfemodellmakaaDoor
open Go.RowKit
set_option linter.unusedSimpArgs false
set_option linter.unusedVariables false
theorem clone_any (A : Option Addr) (c : Nat) (h : List OpV) (w : World) (hbig : h.length * 24 ≤ 140737488355328) (hR : RdO w w.heap.size A h) (hA : A = none → h = []) (hs : ∀ a, A = some a → a.spot = none) :
    Calls Tryd.prog 34 #[.slice A h.length c] w fun e w' => ∃ v', e = .returned v' ∧ w'.ownsRow w.heap.size 28 3 v' h.length (flatO h) ∧ Below w.heap.size w w' := by
  cases A with
  | none =>
    obtain rfl := hA rfl
    refine (clone_nil _ c w).mono ?_
    rintro e w' ⟨rfl, rfl⟩
    exact ⟨_, rfl, ⟨rfl, .inl ⟨rfl, rfl⟩⟩, Below.refl _ _⟩
  | some a =>
    obtain ⟨b, off, sp⟩ := a
    obtain rfl : sp = none := hs _ rfl
    exact clone_some b off c h w hbig hR
theorem logAll (g : Nat) (A : Option Addr) (c : Nat) (h : List OpV) (w : World) (hc : w.cell? ⟨g, 0, none⟩ = some (.slice A h.length c)) (hbig : h.length * 24 ≤ 140737488355328) (hR : RdO w w.heap.size A h) (hA : A = none → h = []) (hs : ∀ a, A = some a → a.spot = none) :
    Calls Tryd.prog 11 #[.pointer (some ⟨g, 0, none⟩)] w fun e w' => ∃ v', e = .returned v' ∧ w'.ownsRow w.heap.size 28 3 v' h.length (flatO h) ∧ Below w.heap.size w w' := by
  have HC := Lib.hid (clone_any A c h w hbig hR hA hs)
  clear hR hA hs
  go_enter Tryd.func11, Tryd.ntmps11
  go_wp2_with (go_at_call 34; refine HC.out.mono ?_; rintro e w' ⟨v', rfl, ho, hB⟩; have HO := Lib.hid ho; have HB := Lib.hid hB; clear ho hB)
  go_ret
  exact ⟨_, rfl, HO.out, HB.out⟩
end Go.Proofs.YtkfemodellmakaaDoor
