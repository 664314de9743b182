/- Owned slices: append of a whole slice (nil or not). -/
import Derived.Test.YtkfemodellmakaaOwn
import Derived.Maps.AppendAt
namespace Go.Proofs.Ytkfemodellmakaa
open Go.RowKit
set_option linter.unusedSimpArgs false
set_option linter.unusedVariables false
theorem own_caps {w : World} {B : Nat} {e : TypeId} {size n c : Nat} {A : Option Addr} {xs : List Value} (h : w.ownsRow B e size (.slice A n c) n xs) : n ≤ c ∧ (A = none → c = 0) ∧ c ≤ 9223372036854775807 := by
  rcases h.2 with ⟨hv, h0⟩ | ⟨g, cap, cur, hv, _, _, h3, h4, _⟩
  · injection hv with h1 h2 h3
    exact ⟨by omega, fun _ => h3, by omega⟩
  · injection hv with h1 _ h3'
    unfold maxLen at h4
    exact ⟨by omega, (fun e => by rw [h1] at e; cases e), by omega⟩
theorem flatO_append2 (h l : List OpV) : flatO (h ++ l) = flatO h ++ flatO l := by simp [flatO]
theorem RdO.nil_of_none {w : World} {B : Nat} {l : List OpV} (hR : RdO w B none l) : l = [] := by
  rcases Nat.eq_zero_or_pos l.length with h | h
  · exact List.eq_nil_of_length_eq_zero h
  · obtain ⟨_, _, e, _⟩ := hR h
    cases e

theorem run_appsLock (w : World) (ty : TypeId) (base : Nat) (v : Value) (n : Nat) (h : List OpV) (hown : w.ownsRow base 29 3 v n (flatO h)) (B : Nat) (A : Option Addr) (m c : Nat) (l : List OpV) (hm : m = l.length) (hR : RdO w B A l)
    (hA : A = none → c = 0) (hs : ∀ a, A = some a → a.spot = none) (hsmall : (n + m) * 24 ≤ 140737488355328) (hbase : base ≤ w.heap.size) :
    ∃ v' w', (Builtin.append_ #[34, 34] ty #[v, .slice A m c]).run Try.prog w = .ok v' w' ∧ w'.ownsRow base 29 3 v' (n + m) (flatO (h ++ l)) ∧ w.grownBy w' v.ownBlock ∧ (v'.ownBlock = v.ownBlock ∨ v'.ownBlock = some w.heap.size) := by
  obtain ⟨i0, hi, hz0, hz1, hz2⟩ := info_parts inf1Lock
  subst hm
  cases A with
  | none =>
    obtain rfl := hR.nil_of_none
    obtain rfl := hA rfl
    exact ⟨v, w, run_append_owned_none w base _ ty _ i0 3 Try.underlying34 hi v n _ hown, by simpa using hown, World.grownBy.refl w _, .inl rfl⟩
  | some a =>
    obtain ⟨b, off, sp⟩ := a
    obtain rfl : sp = none := hs _ rfl
    have hcells : ∀ j u, (flatO l)[j]? = some u → w.cell? ((⟨b, off, none⟩ : Addr).add j) = some u := fun j u hu => by
      rw [Addr.add_lit]
      exact RdO.flat hR j u hu
    obtain ⟨v', w', hrun, h2, h3, _, h5⟩ := run_append_own_at (P := Try.prog) w base 34 ty 29 i0 (.agg #[.int .i64 0, .int .i64 0, .int .i64 0]) 3 24 Try.underlying34 hi hz0 hz1 hz2 rfl (by decide) v n (flatO h) hown ⟨b, off, none⟩ l.length c (flatO l) (flatO_length l) hcells (encO_one l) (by unfold maxLen; omega) hsmall hbase
    rw [← flatO_append2] at h2
    exact ⟨v', w', hrun, h2, h3, h5⟩
theorem wpList_appsLock {ops : Array Oper} {rest : List Oper} {o : Oper} {a : Act} {Q : Exit → Act → World → Prop} (w : World) (hgd : o.guard = none) (s x : Operand)
    (ho : o.op = .call { callee := .builtin .append, args := #[s, x], argTypes := #[34, 34] })
    (base : Nat) (v : Value) (n : Nat) (h : List OpV) (hs : a.eval s = v) (hown : w.ownsRow base 29 3 v n (flatO h)) (B : Nat) (A : Option Addr) (m c : Nat) (l : List OpV) (hx : a.eval x = .slice A m c) (hm : m = l.length) (hR : RdO w B A l)
    (hA : A = none → c = 0) (hsp : ∀ a, A = some a → a.spot = none) (hsmall : (n + m) * 24 ≤ 140737488355328) (hbase : base ≤ w.heap.size)
    (hk : ∀ v' w', w'.ownsRow base 29 3 v' (n + m) (flatO (h ++ l)) → w.grownBy w' v.ownBlock → (v'.ownBlock = v.ownBlock ∨ v'.ownBlock = some w.heap.size) → wpList Try.prog ops Q rest (a.put o.dst v') w') : wpList Try.prog ops Q (o :: rest) a w := by
  refine wpList_plain hgd fun _ hK => ?_
  obtain ⟨v', w', hrun, h2, h3, h4⟩ := run_appsLock w o.type base v n h hown B A m c l hm hR hA hsp hsmall hbase
  unfold Oper.wp execOp
  simp only [ho, resolve, invoke, builtin, Sem.run_bind, Sem.run_pure, Result.andThen_ok, List.map_toArray, List.map_cons, List.map_nil, hs, hx, hrun]
  exact hK _ _ (hk v' w' h2 h3 h4)
end Go.Proofs.Ytkfemodellmakaa
