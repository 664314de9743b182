/- Owned slices: append of one element, typed. -/
import Derived.Test.YtkfemodellmakaaTri
import Derived.OwnWalk
import Derived.Laws.AppendOwn
import Derived.Deep.AppendLies
import Derived.Laws.OwnMore
namespace Go.Proofs.Ytkfemodellmakaa
open Go.RowKit
set_option linter.unusedSimpArgs false
set_option linter.unusedVariables false

theorem own_below {w w' : World} {B : Nat} {e : TypeId} {size : Nat} {v : Value} {n : Nat} {xs : List Value} (h : w.ownsRow B e size v n xs) (hb : Below w.heap.size w w') : w'.ownsRow B e size v n xs :=
  h.kept (row := none) ⟨hb.os, hb.tape, hb.output, hb.size, fun k hk _ => hb.block k hk⟩ (by cases v.ownBlock <;> simp)
theorem own_fr {S : Nat → Prop} {w w' : World} {B : Nat} {e : TypeId} {size : Nat} {v : Value} {n : Nat} {xs : List Value} (h : w.ownsRow B e size v n xs) (hf : Fr S w w') (hS : ∀ k, v.ownBlock = some k → ¬ S k) : w'.ownsRow B e size v n xs := by
  refine ⟨h.1, ?_⟩
  rcases h.2 with h0 | ⟨g, cap, cur, hv, hb, hg, h3⟩
  · exact .inl h0
  · exact .inr ⟨g, cap, cur, hv, hb, (hf.block g (heap_lt hg) (hS g (by rw [hv]; rfl))).trans hg, h3⟩
theorem own_base {w : World} {B B' : Nat} {e : TypeId} {size : Nat} {v : Value} {n : Nat} {xs : List Value} (h : w.ownsRow B e size v n xs) (hB : B' ≤ B) : w.ownsRow B' e size v n xs := by
  refine ⟨h.1, ?_⟩
  rcases h.2 with h0 | ⟨g, cap, cur, hv, hb, h3⟩
  · exact .inl h0
  · exact .inr ⟨g, cap, cur, hv, by omega, h3⟩
theorem flatO_append (h : List OpV) (y : OpV) : flatO (h ++ [y]) = flatO h ++ encO y := by simp [flatO]
theorem encO_one1 (y : OpV) : ∀ u ∈ encO y, u.oneCell' = true := by
  intro u hu
  simp [encO] at hu
  rcases hu with rfl | rfl | rfl <;> rfl
theorem of_own3 {w : World} {B : Nat} {e : TypeId} {A : Option Addr} {n c : Nat} {h : List OpV} (ho : w.ownsRow B e 3 (.slice A n c) n (flatO h)) : RdO w w.heap.size A h := by
  obtain ⟨hl, ho⟩ := ho
  rw [flatO_length] at hl
  obtain rfl : n = h.length := by omega
  rcases ho with ⟨hv, hn⟩ | ⟨g, cap, cur, hv, _, hb, _, _, _, hcur⟩
  · exact fun hp => absurd hp (by omega)
  · cases hv
    refine fun hp => ⟨g, 0, rfl, heap_lt hb, heap_lt hb, fun i hi j u hu => ?_⟩
    have hj : j < 3 := (List.getElem?_eq_some_iff.1 hu).1
    have hf : (flatO h)[i * 3 + j]? = some u := by
      rw [flatO_get, show (i * 3 + j) / 3 = i by omega, show (i * 3 + j) % 3 = j by omega, List.getElem?_eq_getElem hi]
      exact hu
    rw [← hcur, List.getElem?_take] at hf
    split at hf
    · rw [cell_of_row w g _ _ _ _ hb]
      rw [show 0 + i * 3 + j = i * 3 + j by omega]
      simpa using hf
    · cases hf
theorem own_slice {w : World} {B : Nat} {e : TypeId} {size : Nat} {v : Value} {n : Nat} {xs : List Value} (h : w.ownsRow B e size v n xs) : ∃ A c, v = .slice A n c ∧ (A = none → n = 0) ∧ (∀ a, A = some a → a.spot = none ∧ B ≤ a.block ∧ a.block < w.heap.size ∧ v.ownBlock = some a.block) := by
  rcases h.2 with ⟨rfl, h0⟩ | ⟨g, cap, cur, rfl, hb, hg, _⟩
  · exact ⟨none, 0, by rw [h0], fun _ => h0, fun a ha => by cases ha⟩
  · exact ⟨_, cap, rfl, (fun h => nomatch h), (fun a ha => by cases ha; exact ⟨rfl, hb, heap_lt hg, rfl⟩)⟩

theorem inf1Lock : (Try.prog.info? 29).map (fun i => (i.zero, i.size, i.bytes)) = some (some (.agg #[.int .i64 0, .int .i64 0, .int .i64 0]), 3, 24) := by kernel_rfl
theorem wpList_appLock {ops : Array Oper} {rest : List Oper} {o : Oper} {a : Act} {Q : Exit → Act → World → Prop} (w : World) (hgd : o.guard = none) (s x : Operand)
    (ho : o.op = .call { callee := .builtin .append, args := #[s, x], argTypes := #[34, 34] })
    (base : Nat) (v : Value) (n : Nat) (h : List OpV) (hs : a.eval s = v) (hown : w.ownsRow base 29 3 v n (flatO h)) (b : Nat) (y : OpV) (hx : a.eval x = .slice (some ⟨b, 0, none⟩) 1 1)
    (hb : w.heap[b]? = some (.cells #[.int .i64 y.tx, .int .i64 y.what, .int .i64 y.item] 29)) (hsmall : (n + 1) * 24 ≤ 140737488355328) (hbase : base ≤ w.heap.size)
    (hk : ∀ g cap w', w'.ownsRow base 29 3 (.slice (some ⟨g, 0, none⟩) (n + 1) cap) (n + 1) (flatO (h ++ [y])) → w.grownBy w' v.ownBlock → (v.ownBlock = some g ∨ g = w.heap.size) → g < w'.heap.size → wpList Try.prog ops Q rest (a.put o.dst (.slice (some ⟨g, 0, none⟩) (n + 1) cap)) w') : wpList Try.prog ops Q (o :: rest) a w := by
  obtain ⟨i0, hi, hz0, hz1, hz2⟩ := info_parts inf1Lock
  rw [flatO_append] at hk
  exact wpList_append_lies w hgd s x 34 ho base 29 i0 (.agg #[.int .i64 0, .int .i64 0, .int .i64 0]) 3 24 Try.underlying34 hi hz0 hz1 hz2 rfl (by decide) v n (flatO h) hs hown ⟨b, 0, none⟩ 1 1 (encO y) hx rfl (World.news_of_block hb) (encO_one1 y) (by decide) (by unfold maxLen; omega) hsmall hbase _ rfl hk
theorem step_appLock {ops : Array Oper} {o : Oper} {a : Act} {K : Act → World → Prop} {Q : Exit → Act → World → Prop} {E : Prop} (w : World) (hgd : o.guard = none) (s x : Operand)
    (ho : o.op = .call { callee := .builtin .append, args := #[s, x], argTypes := #[34, 34] })
    (base : Nat) (v : Value) (n : Nat) (h : List OpV) (hs : a.eval s = v) (hown : w.ownsRow base 29 3 v n (flatO h)) (b : Nat) (y : OpV) (hx : a.eval x = .slice (some ⟨b, 0, none⟩) 1 1)
    (hb : w.heap[b]? = some (.cells #[.int .i64 y.tx, .int .i64 y.what, .int .i64 y.item] 29)) (hsmall : (n + 1) * 24 ≤ 140737488355328) (hbase : base ≤ w.heap.size)
    (hk : ∀ g cap w', w'.ownsRow base 29 3 (.slice (some ⟨g, 0, none⟩) (n + 1) cap) (n + 1) (flatO (h ++ [y])) → w.grownBy w' v.ownBlock → (v.ownBlock = some g ∨ g = w.heap.size) → g < w'.heap.size → K (a.put o.dst (.slice (some ⟨g, 0, none⟩) (n + 1) cap)) w') :
    if Region.wanted o (yielded ops a.tmps) = true then Oper.wp Try.prog o a w K Q else E := by
  obtain ⟨i0, hi, hz0, hz1, hz2⟩ := info_parts inf1Lock
  rw [flatO_append] at hk
  exact step_append_lies w hgd s x 34 ho base 29 i0 (.agg #[.int .i64 0, .int .i64 0, .int .i64 0]) 3 24 Try.underlying34 hi hz0 hz1 hz2 rfl (by decide) v n (flatO h) hs hown ⟨b, 0, none⟩ 1 1 (encO y) hx rfl (World.news_of_block hb) (encO_one1 y) (by decide) (by unfold maxLen; omega) hsmall hbase _ rfl hk

theorem inf1Int : (Try.prog.info? 3).map (fun i => (i.zero, i.size, i.bytes)) = some (some (.int .i64 0), 1, 8) := by kernel_rfl
theorem wpList_appInt {ops : Array Oper} {rest : List Oper} {o : Oper} {a : Act} {Q : Exit → Act → World → Prop} (w : World) (hgd : o.guard = none) (s x : Operand)
    (ho : o.op = .call { callee := .builtin .append, args := #[s, x], argTypes := #[30, 30] })
    (base : Nat) (v : Value) (n : Nat) (h : List Int) (hs : a.eval s = v) (hown : w.ownsRow base 3 1 v n (h.map (.int .i64))) (b : Nat) (y : Int) (hx : a.eval x = .slice (some ⟨b, 0, none⟩) 1 1)
    (hb : w.heap[b]? = some (.cells #[.int .i64 y] 3)) (hsmall : (n + 1) * 8 ≤ 140737488355328) (hbase : base ≤ w.heap.size)
    (hk : ∀ g cap w', w'.ownsRow base 3 1 (.slice (some ⟨g, 0, none⟩) (n + 1) cap) (n + 1) ((h ++ [y]).map (.int .i64)) → w.grownBy w' v.ownBlock → (v.ownBlock = some g ∨ g = w.heap.size) → g < w'.heap.size → wpList Try.prog ops Q rest (a.put o.dst (.slice (some ⟨g, 0, none⟩) (n + 1) cap)) w') : wpList Try.prog ops Q (o :: rest) a w := by
  obtain ⟨i0, hi, hz0, hz1, hz2⟩ := info_parts inf1Int
  rw [List.map_append] at hk
  exact wpList_append_lies w hgd s x 30 ho base 3 i0 (.int .i64 0) 1 8 Try.underlying30 hi hz0 hz1 hz2 rfl (by decide) v n _ hs hown ⟨b, 0, none⟩ 1 1 [.int .i64 y] hx rfl (World.news_of_block hb) (by intro u hu; simp at hu; subst hu; rfl) (by decide) (by unfold maxLen; omega) hsmall hbase _ rfl hk
end Go.Proofs.Ytkfemodellmakaa
