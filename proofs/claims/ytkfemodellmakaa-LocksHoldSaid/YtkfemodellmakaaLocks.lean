/- The package locks: its small functions. A lock is a triple of numbers (deal, item, mode): it lies as an op does. -/
import Derived.Test.YtkfemodellmakaaTri
import Derived.Test.YtkfemodellmakaaErrV
import Derived.Deep.LoopGhost
import Derived.Deep.QuietTactic
import Derived.Deep.Light
import Derived.Deep.DeepCutAuto
import Derived.Deep.RegionWith
import Derived.Deep.CutBlock
import Derived.RegionTactic
import Derived.BigRegion
import Derived.BigQuiet
namespace Go.Proofs.Ytkfemodellmakaa
open Go.RowKit
set_option linter.unusedSimpArgs false
set_option linter.unusedVariables false

/-- Locks' words: the deal .tx, the item .what, the mode .item. -/
def oddsB (a b : OpV) : Bool := decide (a.tx ≠ b.tx ∧ a.what = b.what ∧ (a.item = 2 ∨ b.item = 2))
def lrightB (l : OpV) : Bool := decide ((1 ≤ l.tx ∧ l.tx ≤ 6) ∧ (1 ≤ l.what ∧ l.what ≤ 6) ∧ (l.item = 1 ∨ l.item = 2))

theorem bcell {W w1 : World} (hb : Below W.heap.size W w1) : (∀ b o, b < W.heap.size → w1.cell? ⟨b, o, none⟩ = W.cell? ⟨b, o, none⟩) ∧ (∀ b o, b < W.heap.size → w1.frozen? ⟨b, o, none⟩ = W.frozen? ⟨b, o, none⟩) :=
  ⟨fun b o h => hb.cell (p := ⟨b, o, none⟩) h, fun b o h => hb.frozen (p := ⟨b, o, none⟩) h⟩

set_option maxRecDepth 100000 in
theorem odds_any (a b : OpV) (w : World) : Calls Try.prog 18 #[a.agg, b.agg] w fun e w' => e = .returned (.bool (oddsB a b)) ∧ Below w.heap.size w w' := by
  obtain ⟨at', ai, am⟩ := a
  obtain ⟨bt, bi, bm⟩ := b
  show Calls Try.prog 18 #[.agg #[.int .i64 at', .int .i64 ai, .int .i64 am], .agg #[.int .i64 bt, .int .i64 bi, .int .i64 bm]] w _
  have hn : Below w.heap.size w ((w.alloc (.cells #[.int .i64 at', .int .i64 ai, .int .i64 am] 29)).alloc (.cells #[.int .i64 bt, .int .i64 bi, .int .i64 bm] 29)) := ((Below.refl _ w).alloc (Nat.le_refl _) _).alloc (by simp) _
  have HN := Lib.hid hn
  clear hn
  cases e1 : (at' != bt) with
  | false =>
    have hr : oddsB ⟨at', ai, am⟩ ⟨bt, bi, bm⟩ = false := by simp [oddsB]; intro h; simp at e1; exact absurd e1 h
    rw [hr]; clear hr
    go_enter Try.func18, Try.ntmps18
    go_wp2
    go_ret
    exact ⟨rfl, HN.out⟩
  | true =>
    cases e2 : (ai == bi) with
    | false =>
      have hr : oddsB ⟨at', ai, am⟩ ⟨bt, bi, bm⟩ = false := by simp [oddsB]; intro h h2; simp at e2; exact absurd h2 e2
      rw [hr]; clear hr
      go_enter Try.func18, Try.ntmps18
      go_wp2
      go_ret
      exact ⟨rfl, HN.out⟩
    | true =>
      cases e3 : (am == 2) with
      | true =>
        have hr : oddsB ⟨at', ai, am⟩ ⟨bt, bi, bm⟩ = true := by simp [oddsB]; simp at e1 e2 e3; exact ⟨e1, e2, .inl e3⟩
        rw [hr]; clear hr
        go_enter Try.func18, Try.ntmps18
        go_wp2
        go_ret
        exact ⟨rfl, HN.out⟩
      | false =>
        cases e4 : (bm == 2) with
        | true =>
          have hr : oddsB ⟨at', ai, am⟩ ⟨bt, bi, bm⟩ = true := by simp [oddsB]; simp at e1 e2 e4; exact ⟨e1, e2, .inr e4⟩
          rw [hr]; clear hr
          go_enter Try.func18, Try.ntmps18
          go_wp2
          go_ret
          exact ⟨rfl, HN.out⟩
        | false =>
          have hr : oddsB ⟨at', ai, am⟩ ⟨bt, bi, bm⟩ = false := by simp [oddsB]; simp at e1 e2 e3 e4; intro _ _; exact ⟨e3, e4⟩
          rw [hr]; clear hr
          go_enter Try.func18, Try.ntmps18
          go_wp2
          go_ret
          exact ⟨rfl, HN.out⟩
end Go.Proofs.Ytkfemodellmakaa
