/- A range over a map keyed by int: the iterator's step, whatever entry the tape picks. Plain lemmas over any program. -/
import Derived.Test.YtbnobgoenoppkaaDoorMaps
import Derived.Laws.IdiomRangeMap
namespace Go.Proofs.YtbnobgoenoppkaaDoor
open Go.RowKit
set_option linter.unusedSimpArgs false
set_option linter.unusedVariables false

/-- The iterator in block r goes over map b, which reads as L; rest: what has not come yet. -/
def Ranging (w : World) (r b : Nat) (L rest : List MEnt) : Prop :=
  ∃ seen clock, w.heap[r]? = some (.mapIter (some b) clock seen clock) ∧ w.heap[b]? = some (.map (L.map MEnt.obj).toArray clock) ∧ MapOk L clock ∧ rest = L.filter fun e => !seen.contains e.born

theorem Ranging.isMap {w : World} {r b : Nat} {L rest : List MEnt} (h : Ranging w r b L rest) : IsMap w b L := by
  obtain ⟨_, clock, _, hb, hok, _⟩ := h
  exact ⟨clock, hb, hok⟩
theorem Ranging.keep {w w' : World} {r b : Nat} {L rest : List MEnt} (h : Ranging w r b L rest) (hr : w'.heap[r]? = w.heap[r]?) (hb : w'.heap[b]? = w.heap[b]?) : Ranging w' r b L rest := by
  obtain ⟨seen, clock, h1, h2, h3, h4⟩ := h
  exact ⟨seen, clock, hr.trans h1, hb.trans h2, h3, h4⟩
theorem Ranging.lt {w : World} {r b : Nat} {L rest : List MEnt} (h : Ranging w r b L rest) : r < w.heap.size ∧ b < w.heap.size := by
  obtain ⟨seen, clock, h1, h2, _⟩ := h
  exact ⟨(Array.getElem?_eq_some_iff.1 h1).1, (Array.getElem?_eq_some_iff.1 h2).1⟩

section
variable {P : Program}
theorem run_range_map' {w : World} {b : Nat} {L : List MEnt} (h : IsMap w b L) {T K E : TypeId} (ht : P.underlying T = some (.map K E)) :
    ∃ o, (Instr.range T (.map (some b))).run P w = .ok (.pointer (some ⟨w.heap.size, 0, none⟩)) (w.alloc o) ∧ Ranging (w.alloc o) w.heap.size b L L := by
  obtain ⟨clock, hb, hok⟩ := h
  refine ⟨_, run_range_map (P := P) w T K E b _ clock ht hb, #[], clock, heap_alloc_new w _, ?_, hok, ?_⟩
  · rw [heap_alloc_old w _ (Array.getElem?_eq_some_iff.1 hb).1]; exact hb
  · symm; rw [List.filter_eq_self]; intro e _; simp

theorem run_next_rng {w : World} {r b : Nat} {L rest : List MEnt} (h : Ranging w r b L rest) :
    (rest = [] ∧ ∀ ty, (Instr.next (.pointer (some ⟨r, 0, none⟩)) false ty).run P w = .ok (.tuple #[.bool false]) w) ∨
    ∃ e ∈ rest, ∃ w', (∀ ty, (Instr.next (.pointer (some ⟨r, 0, none⟩)) false ty).run P w = .ok (.tuple #[.bool true, .int .i64 e.k, e.v]) w') ∧
      Ranging w' r b L (rest.filter fun x => x.born != e.born) ∧ w.grownBy w' (some r) ∧ w'.heap.size = w.heap.size ∧
      (Instr.entry (.pointer (some ⟨r, 0, none⟩))).run P w' = .ok (.tuple #[.int .i64 e.k, e.v]) w' := by
  obtain ⟨seen, clock, hr, hb, hok, hrest⟩ := h
  have hne : r ≠ b := by rintro rfl; rw [hr] at hb; cases hb
  have hlt : r < w.heap.size := (Array.getElem?_eq_some_iff.1 hr).1
  have hmem : ∀ x ∈ (L.map MEnt.obj).toArray.toList, x.born < clock := by
    intro x hx
    simp only [List.mem_map] at hx
    obtain ⟨e, he, rfl⟩ := hx
    exact hok.lt e he
  have htest := next_test_false seen (L.map MEnt.obj).toArray clock clock hmem (Nat.le_refl _)
  have hleft : ((L.map MEnt.obj).toArray.filter fun e => !seen.contains e.born) = (rest.map MEnt.obj).toArray := by
    rw [hrest]
    apply Array.toList_inj.1
    simp [List.filter_map]
    congr 1
  have hrm : ∀ x ∈ rest, x.born < clock := fun x hx => hok.lt x (by rw [hrest] at hx; exact (List.mem_filter.1 hx).1)
  have e1 : ((rest.map MEnt.obj).toArray.filter fun x => decide (x.born < clock)) = (rest.map MEnt.obj).toArray := by
    apply Array.filter_eq_self.2
    intro x hx
    simp only [List.mem_toArray, List.mem_map] at hx
    obtain ⟨e, he, rfl⟩ := hx
    exact decide_eq_true (hrm e he)
  have e2 : ((rest.map MEnt.obj).toArray.filter fun x => decide (x.born ≥ clock)) = #[] := by
    rw [Array.filter_eq_empty_iff]
    intro x hx
    simp only [List.mem_toArray, List.mem_map] at hx
    obtain ⟨e, he, rfl⟩ := hx
    have := hrm e he
    simp [MEnt.obj]
    omega
  have hg1 : (getObj r).run P w = .ok (.mapIter (some b) clock seen clock) w := by simp [getObj, Sem.run, hr]
  have hg2 : (getObj b).run P w = .ok (.map (L.map MEnt.obj).toArray clock) w := by simp [getObj, Sem.run, hb]
  have start : ∀ ty, (Instr.next (.pointer (some ⟨r, 0, none⟩)) false ty).run P w = (do
      let candidates := (if (rest.map MEnt.obj).toArray.isEmpty then #[none] else #[]) ++ ((rest.map MEnt.obj).toArray ++ #[]).map some
      match candidates[← choose (.mapNext candidates.size)]? with
      | some (some e) =>
        setObj r (.mapIter (some b) clock (seen.push e.born) clock)
        pure (.tuple #[.bool true, e.key, e.val])
      | some none => pure (.tuple #[.bool false])
      | none => stuck "Next: no such candidate" : Sem Value).run P w := by
    intro ty
    simp only [Instr.next, Sem.run_bind, hg1, hg2, Result.andThen, htest, Bool.false_eq_true, if_false, hleft, e1, e2]
    rfl
  by_cases h0 : rest = []
  · left
    refine ⟨h0, fun ty => ?_⟩
    rw [start ty, h0]
    simp [choose, Sem.run, Question.forced]
  · right
    have hpos : 0 < rest.length := List.length_pos_iff.2 h0
    have hch : ∃ (j : Nat) (w1 : World), j < rest.length ∧ w1.heap = w.heap ∧ w1.os = w.os ∧ w1.tape = w.tape ∧ w1.output = w.output ∧ (choose (Question.mapNext rest.length)).run P w = .ok j w1 := by
      by_cases hf : rest.length ≤ 1
      · exact ⟨0, w, hpos, rfl, rfl, rfl, rfl, by simp [choose, Sem.run, Question.forced, hf]⟩
      · exact ⟨_, w.drew, Nat.mod_lt _ hpos, rfl, rfl, rfl, rfl, by
          simp only [choose, Sem.run, Question.forced, decide_eq_true_eq, hf, if_false, Question.cut]
          rfl⟩
    obtain ⟨j, w1, hj, q1, q2, q3, q4, hrun⟩ := hch
    have hset : ∀ o, (setObj r o).run P w1 = .ok () { w1 with heap := w1.heap.setIfInBounds r o } := fun o => by
      have : w1.heap[r]? = some (.mapIter (some b) clock seen clock) := by rw [q1]; exact hr
      simp [setObj, Sem.run, this]
    refine ⟨rest[j], List.getElem_mem hj, { w1 with heap := w1.heap.setIfInBounds r (.mapIter (some b) clock (seen.push rest[j].born) clock) }, ?_, ?_, ?_, ?_, ?_⟩
    · intro ty
      rw [start ty]
      have hem : (rest.map MEnt.obj).toArray.isEmpty = false := by simp [h0]
      simp only [hem, Bool.false_eq_true, if_false, Array.append_empty, Array.empty_append, Array.size_map, List.size_toArray, List.length_map, Sem.run_bind, hrun, Result.andThen, Array.getElem?_map, List.getElem?_toArray, List.getElem?_map, List.getElem?_eq_getElem hj, Option.map_some]
      simp [hset, MEnt.obj]
    · refine ⟨seen.push rest[j].born, clock, ?_, ?_, hok, ?_⟩
      · exact setObj_same w1 r _ _ (by rw [q1]; exact hr)
      · rw [setObj_other w1 r _ b (Ne.symm hne), q1]; exact hb
      · generalize rest[j].born = q
        rw [hrest, List.filter_filter]
        congr 1
        funext x
        simp only [Array.contains_push]
        cases seen.contains x.born <;> simp [bne]
    · exact ⟨q2, q3, q4, by simp [q1], fun k _ hk => by rw [setObj_other w1 r _ k (fun e => hk (by rw [e])), q1]⟩
    · simp [q1]
    · have hA : ({ w1 with heap := w1.heap.setIfInBounds r (.mapIter (some b) clock (seen.push rest[j].born) clock) } : World).heap[r]? = some (.mapIter (some b) clock (seen.push rest[j].born) clock) := setObj_same w1 r _ _ (by rw [q1]; exact hr)
      have hB : ({ w1 with heap := w1.heap.setIfInBounds r (.mapIter (some b) clock (seen.push rest[j].born) clock) } : World).heap[b]? = some (.map (L.map MEnt.obj).toArray clock) := by rw [setObj_other w1 r _ b (Ne.symm hne), q1]; exact hb
      have hin : rest[j] ∈ L := by
        have hsub : ∀ x ∈ rest, x ∈ L := fun x hx => by rw [hrest] at hx; exact (List.mem_filter.1 hx).1
        exact hsub _ (List.getElem_mem hj)
      have hnd : ((L.map MEnt.obj).map (·.born)).Nodup := by
        have : (L.map MEnt.obj).map (·.born) = L.map MEnt.born := by simp [MEnt.obj, Function.comp_def]
        rw [this]; exact hok.born
      have hf : (L.map MEnt.obj).toArray.find? (fun x => x.born == rest[j].born) = some rest[j].obj := by
        rw [← Array.find?_toList]
        exact find_born rest[j].obj (L.map MEnt.obj) hnd (List.mem_map_of_mem hin)
      generalize ({ w1 with heap := w1.heap.setIfInBounds r (.mapIter (some b) clock (seen.push rest[j].born) clock) } : World) = W at hA hB ⊢
      simp only [Instr.entry, getObj, Sem.run_bind, Sem.run, hA, hB, Result.andThen, Array.back?_push, bne_self_eq_false, Bool.false_eq_true, if_false, hf]
      rfl
end
end Go.Proofs.YtbnobgoenoppkaaDoor
