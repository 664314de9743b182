/- plain.Told; lanesame.Error. -/
import Derived.Test.YtkfemodellmakaaDoorAs2
namespace Go.Proofs.YtkfemodellmakaaDoor
open Go.RowKit
set_option linter.unusedSimpArgs false
set_option linter.unusedVariables false

theorem ErrVar.lt {w : World} (h : ErrVar w) : 0 < w.heap.size := by
  unfold ErrVar at h
  rcases Nat.eq_zero_or_pos w.heap.size with h0 | h1
  · simp [World.cell?, h0] at h
  · exact h1
theorem ErrVar.fr {S : Nat → Prop} {w w' : World} (h : ErrVar w) (hf : Fr S w w') (hs : ¬ S 0) : ErrVar w' := (hf.cell (p := ⟨0, 0, none⟩) h.lt hs).trans h
theorem ErrVar.below {B : Nat} {w w' : World} (h : ErrVar w) (hb : Below B w w') (hB : 0 < B) : ErrVar w' := (hb.cell (p := ⟨0, 0, none⟩) hB).trans h
theorem ErrVar.new {w w' : World} (h : ErrVar w) (hb : Below w.heap.size w w') : ErrVar w' := h.below hb h.lt

/-- An error of the program's: none, or an Errno. -/
def errV : Option Int → Value
  | none => .nilIface
  | some c => .iface 81 (.int .i64 c)

theorem told_nil (w : World) : Calls Tryd.prog 38 #[.nilIface] w fun e w' => e = .returned (.int .i64 0) ∧ w = w' := by
  go_enter Tryd.func38, Tryd.ntmps38
  go_wp2
  go_ret
  exact ⟨rfl, rfl⟩
set_option maxRecDepth 100000 in
set_option maxHeartbeats 1000000 in
theorem told_some (n : Int) (w : World) (hg : ErrVar w) : Calls Tryd.prog 38 #[.iface 81 (.int .i64 n)] w fun e w' => e = .returned (.int .i64 n) ∧ Below w.heap.size w w' := by
  have hc := as_hit n ⟨w.heap.size, 0, none⟩ (.int .i64 0) (w.alloc (.cells #[.int .i64 0] 81)) (hg.new ((Below.refl _ w).alloc (Nat.le_refl _) _)) (by simp) (by simp)
  have HC := Lib.hid hc
  clear hc hg
  go_enter Tryd.func38, Tryd.ntmps38
  go_wp2_with (go_at_call 75; refine HC.out.mono ?_; rintro e w' ⟨rfl, rfl⟩)
  go_ret
  refine ⟨rfl, ?_⟩
  exact ((((((Below.refl _ w).alloc (Nat.le_refl _) _).alloc (by simp) _).alloc (by simp; omega) _).alloc (by simp; omega) _).alloc (by simp; omega) _)

theorem error_any (o : Option Int) (n : Int) (b : Bool) (w : World) (hg : ErrVar w) (hb : (o.getD 0 == n) = b) :
    Calls Tryd.prog 9 #[errV o, .int .i64 n] w fun e w' => e = .returned (.bool b) ∧ Below w.heap.size w w' := by
  cases o with
  | none =>
    subst hb
    go_enter Tryd.func9, Tryd.ntmps9
    go_wp2_with (go_at_call 38; refine (told_nil _).mono ?_; rintro e w' ⟨rfl, rfl⟩)
    go_ret
    exact ⟨by simp, Below.refl _ _⟩
  | some c =>
    subst hb
    have hc := told_some c w hg
    have HC := Lib.hid hc
    clear hc
    go_enter Tryd.func9, Tryd.ntmps9
    go_wp2_with (go_at_call 38; refine HC.out.mono ?_; rintro e w' ⟨rfl, hB⟩)
    go_ret
    exact ⟨rfl, hB⟩
end Go.Proofs.YtkfemodellmakaaDoor
