/- Maps of the program that the call itself makes, keyed by int, elements of whatever kind: what a lookup, a store, a delete and a range come to. Plain lemmas over any program. -/
import Derived.Test.YtbnobgoenoppkaaDoorFrame
namespace Go.Proofs.YtbnobgoenoppkaaDoor
open Go.RowKit
set_option linter.unusedSimpArgs false
set_option linter.unusedVariables false

/-- An entry: its key, its element, when it was laid. -/
structure MEnt where
  k : Int
  v : Value
  born : Nat
def MEnt.obj (e : MEnt) : MapEntry := { key := .int .i64 e.k, val := e.v, born := e.born }

/-- What a list of entries reads as. -/
def mget (L : List MEnt) (k : Int) : Option Value := (L.find? fun e => e.k == k).map MEnt.v

structure MapOk (L : List MEnt) (clock : Nat) : Prop where
  lt : ∀ e ∈ L, e.born < clock
  born : (L.map MEnt.born).Nodup
  keys : (L.map MEnt.k).Nodup

/-- Block b is a map that reads as the entries L. -/
def IsMap (w : World) (b : Nat) (L : List MEnt) : Prop := ∃ clock, w.heap[b]? = some (.map (L.map MEnt.obj).toArray clock) ∧ MapOk L clock

/-- The place of a key. -/
def mfind (L : List MEnt) (k : Int) : Option Nat := L.findIdx? fun e => e.k == k
def mput (L : List MEnt) (k : Int) (v : Value) (clock : Nat) : List MEnt :=
  match mfind L k with
  | some i => L.modify i fun e => { e with v := v }
  | none => L ++ [⟨k, v, clock⟩]
def mdel (L : List MEnt) (k : Int) : List MEnt :=
  match mfind L k with
  | some i => L.eraseIdx i
  | none => L

theorem findNow_ints (k : Int) : ∀ (L : List MEnt) (i : Nat), Instr.findNow (.int .i64) (.int .i64 k) (L.map MEnt.obj) i = some ((mfind L k).bind fun j => (L[j]?).map fun e => (i + j, e.v))
  | [], i => rfl
  | e :: L, i => by
    by_cases h : e.k = k
    · simp [Instr.findNow, MEnt.obj, Instr.sameNow, mfind, List.findIdx?_cons, h]
    · have hb : (k == e.k) = false := by simp; exact fun h' => h h'.symm
      have hb' : (e.k == k) = false := by simp [h]
      have hs : Instr.findNow (.int .i64) (.int .i64 k) ((e :: L).map MEnt.obj) i = Instr.findNow (.int .i64) (.int .i64 k) (L.map MEnt.obj) (i + 1) := by
        simp [Instr.findNow, MEnt.obj, Instr.sameNow, hb]
      rw [hs, findNow_ints k L (i + 1)]
      simp only [mfind, List.findIdx?_cons, hb', Bool.false_eq_true, if_false]
      cases List.findIdx? (fun e => e.k == k) L with
      | none => rfl
      | some j =>
        simp only [Option.map_some, Option.bind_some, List.getElem?_cons_succ]
        have : i + 1 + j = i + (j + 1) := by omega
        rw [this]

theorem mfind_get (L : List MEnt) (k : Int) : mget L k = (mfind L k).bind fun j => (L[j]?).map MEnt.v := by
  induction L with
  | nil => rfl
  | cons e L ih =>
    unfold mget mfind at *
    by_cases h : e.k = k
    · simp [List.findIdx?_cons, h]
    · have hb' : (e.k == k) = false := by simp [h]
      simp only [List.find?_cons, List.findIdx?_cons, hb', Bool.false_eq_true, if_false, ih]
      cases List.findIdx? (fun e => e.k == k) L with
      | none => rfl
      | some j => simp

theorem mfind_some {L : List MEnt} {k : Int} {j : Nat} (h : mfind L k = some j) : ∃ e, L[j]? = some e ∧ e.k = k := by
  unfold mfind at h
  rw [List.findIdx?_eq_some_iff_getElem] at h
  obtain ⟨hj, hk, _⟩ := h
  exact ⟨L[j], List.getElem?_eq_getElem hj, by simpa using hk⟩

theorem mfind_none {L : List MEnt} {k : Int} (h : mfind L k = none) : ∀ e ∈ L, e.k ≠ k := by
  unfold mfind at h
  rw [List.findIdx?_eq_none_iff] at h
  intro e he hk
  have := h e he
  simp [hk] at this

section
variable {P : Program}
theorem run_checkKey_int (w : World) (b : Bool) (n : Nat) {K : TypeId} (hk : P.underlying K = some (.int .i64)) (x : Int) : (Instr.checkKey b (n + 1) K (.int .i64 x)).run P w = .ok () w := by
  simp [Instr.checkKey, run_underlying hk]
theorem run_checkKey_int' (w : World) {K : TypeId} (hk : P.underlying K = some (.int .i64)) (x : Int) (b : Bool) : (Instr.checkKey b 10000 K (.int .i64 x)).run P w = .ok () w :=
  run_checkKey_int w b 9999 hk x
theorem run_findKey_int (w : World) {K : TypeId} (hk : P.underlying K = some (.int .i64)) (L : List MEnt) (k : Int) :
    (Instr.findKey K (.int .i64 k) (L.map MEnt.obj)).run P w = .ok ((mfind L k).bind fun j => (L[j]?).map fun e => (j, e.v)) w := by
  simp only [Instr.findKey, Sem.run_bind, run_underlying hk, Result.andThen, findNow_ints]
  simp

theorem run_lookup_map {w : World} {b : Nat} {L : List MEnt} (h : IsMap w b L) {T K E : TypeId} (ht : P.underlying T = some (.map K E)) (hk : P.underlying K = some (.int .i64)) {z : Value} (hz : ∀ W : World, (zeroValue E).run P W = .ok z W) (k : Int) (ok : Bool) :
    (Instr.lookup T (.map (some b)) (.int .i64 k) ok).run P w = .ok (if ok then .tuple #[(mget L k).getD z, .bool (mget L k).isSome] else (mget L k).getD z) w := by
  obtain ⟨clock, hb, _⟩ := h
  have hg : (getObj b).run P w = .ok (.map (L.map MEnt.obj).toArray clock) w := by simp [getObj, Sem.run, hb]
  have hf := run_findKey_int (P := P) w hk L k
  have hc := run_checkKey_int' (P := P) w hk k
  simp only [Instr.lookup, Sem.run_bind, run_underlying ht, Result.andThen, hg, hc, hf]
  rw [mfind_get]
  cases hm : mfind L k with
  | none => cases ok <;> simp [hc, hf, hm, hz, Result.andThen]
  | some j =>
    obtain ⟨e, he, _⟩ := mfind_some hm
    cases ok <;> simp [hc, hf, hm, he, Result.andThen]
end

theorem mput_ok {L : List MEnt} {clock : Nat} (h : MapOk L clock) (k : Int) (v : Value) : MapOk (mput L k v clock) (clock + 1) := by
  unfold mput
  cases hm : mfind L k with
  | none =>
    have hn := mfind_none hm
    refine ⟨?_, ?_, ?_⟩
    · intro e he
      rcases List.mem_append.1 he with h' | h'
      · have := h.lt e h'; omega
      · rw [List.mem_singleton.1 h']; exact Nat.lt_succ_self _
    · rw [List.map_append, List.nodup_append]
      refine ⟨h.born, by simp, ?_⟩
      intro a ha c hc
      obtain ⟨e, he, rfl⟩ := List.mem_map.1 ha
      simp at hc
      subst hc
      have := h.lt e he
      omega
    · rw [List.map_append, List.nodup_append]
      refine ⟨h.keys, by simp, ?_⟩
      intro a ha c hc
      obtain ⟨e, he, rfl⟩ := List.mem_map.1 ha
      simp at hc
      subst hc
      exact hn e he
  | some i =>
    have hb : (L.modify i fun e => { e with v := v }).map MEnt.born = L.map MEnt.born := by
      apply List.ext_getElem?
      intro j
      simp only [List.getElem?_map, List.getElem?_modify]
      by_cases hij : i = j
      · subst hij; cases L[i]? <;> simp
      · simp [hij]
    have hk : (L.modify i fun e => { e with v := v }).map MEnt.k = L.map MEnt.k := by
      apply List.ext_getElem?
      intro j
      simp only [List.getElem?_map, List.getElem?_modify]
      by_cases hij : i = j
      · subst hij; cases L[i]? <;> simp
      · simp [hij]
    refine ⟨?_, by rw [hb]; exact h.born, by rw [hk]; exact h.keys⟩
    intro e he
    have : e.born ∈ (L.modify i fun e => { e with v := v }).map MEnt.born := List.mem_map_of_mem he
    rw [hb] at this
    obtain ⟨e', he', hee⟩ := List.mem_map.1 this
    have := h.lt e' he'
    omega

theorem mdel_ok {L : List MEnt} {clock : Nat} (h : MapOk L clock) (k : Int) : MapOk (mdel L k) clock := by
  unfold mdel
  cases hm : mfind L k with
  | none => exact h
  | some i =>
    have hs := List.eraseIdx_sublist L i
    exact ⟨fun e he => h.lt e (hs.subset he), (hs.map MEnt.born).nodup h.born, (hs.map MEnt.k).nodup h.keys⟩

theorem map_eraseIdx' {α β : Type} (f : α → β) : ∀ (L : List α) (i : Nat), (L.map f).eraseIdx i = (L.eraseIdx i).map f
  | [], _ => by simp
  | x :: L, 0 => by simp
  | x :: L, i + 1 => by simp [map_eraseIdx' f L i]
theorem setObj_other (w : World) (b : Nat) (o : Obj) (k : Nat) (h : k ≠ b) : ({ w with heap := w.heap.setIfInBounds b o } : World).heap[k]? = w.heap[k]? := by
  simp [Array.getElem?_setIfInBounds, Ne.symm h]
theorem setObj_same (w : World) (b : Nat) (o o' : Obj) (h : w.heap[b]? = some o') : ({ w with heap := w.heap.setIfInBounds b o } : World).heap[b]? = some o := by
  have hlt : b < w.heap.size := (Array.getElem?_eq_some_iff.1 h).1
  simp [Array.getElem?_setIfInBounds, hlt]

section
variable {P : Program}
theorem run_mapUpdate_map {w : World} {b : Nat} {L : List MEnt} (h : IsMap w b L) {T K E : TypeId} (ht : P.underlying T = some (.map K E)) (hk : P.underlying K = some (.int .i64)) (k : Int) (v : Value) :
    ∃ w' clock, (Instr.mapUpdate T (.map (some b)) (.int .i64 k) v).run P w = .ok () w' ∧ IsMap w' b (mput L k v clock) ∧ w.grownBy w' (some b) ∧ w'.heap.size = w.heap.size := by
  obtain ⟨clock, hb, hok⟩ := h
  have hg : (getObj b).run P w = .ok (.map (L.map MEnt.obj).toArray clock) w := by simp [getObj, Sem.run, hb]
  have hf := run_findKey_int (P := P) w hk L k
  have hc := run_checkKey_int' (P := P) w hk k
  have hset : ∀ o, (setObj b o).run P w = .ok () { w with heap := w.heap.setIfInBounds b o } := fun o => by simp [setObj, Sem.run, hb]
  have hgr : ∀ o, w.grownBy { w with heap := w.heap.setIfInBounds b o } (some b) := fun o => ⟨rfl, rfl, rfl, by simp, fun i _ hi => setObj_other w b o i (fun e => hi (by rw [e]))⟩
  have hok' := mput_ok hok k v
  simp only [Instr.mapUpdate, Sem.run_bind, run_underlying ht, Result.andThen, hg, hc, hf]
  cases hm : mfind L k with
  | none =>
    refine ⟨{ w with heap := w.heap.setIfInBounds b (.map ((L.map MEnt.obj).toArray.push { key := .int .i64 k, val := v, born := clock }) (clock + 1)) }, clock, by simp [hc, hf, hm, hset, Result.andThen], ⟨clock + 1, ?_, hok'⟩, hgr _, by simp⟩
    rw [setObj_same w b _ _ hb]
    congr 2
    simp [mput, hm, MEnt.obj]
  | some i =>
    obtain ⟨e, he, hek⟩ := mfind_some hm
    refine ⟨{ w with heap := w.heap.setIfInBounds b (.map ((L.map MEnt.obj).toArray.modify i fun e => { e with key := .int .i64 k, val := v }) clock) }, clock, ?_, ⟨clock, ?_, ?_⟩, hgr _, by simp⟩
    · simp [hc, hf, hm, he, Result.andThen, MEnt.obj, hek, Instr.keyThatStays, Instr.sameBits, hset]
    · rw [setObj_same w b _ _ hb]
      congr 2
      apply Array.toList_inj.1
      apply List.ext_getElem?
      intro j
      simp only [mput, hm, Array.getElem?_toList, Array.getElem?_modify, List.getElem?_map, List.getElem?_modify, List.getElem?_toArray]
      by_cases hij : i = j
      · subst hij
        simp [he, MEnt.obj, hek]
      · simp [hij]
    · have h2 := hok'
      refine ⟨?_, h2.born, h2.keys⟩
      intro e' he'
      have hb2 : (mput L k v clock).map MEnt.born = L.map MEnt.born := by
        simp only [mput, hm]
        apply List.ext_getElem?
        intro j
        simp only [List.getElem?_map, List.getElem?_modify]
        by_cases hij : i = j
        · subst hij; cases L[i]? <;> simp
        · simp [hij]
      have : e'.born ∈ (mput L k v clock).map MEnt.born := List.mem_map_of_mem he'
      rw [hb2] at this
      obtain ⟨e2, he2, hee⟩ := List.mem_map.1 this
      have := hok.lt e2 he2
      omega

theorem run_delete_map {w : World} {b : Nat} {L : List MEnt} (h : IsMap w b L) {T K E : TypeId} (ht : P.underlying T = some (.map K E)) (hk : P.underlying K = some (.int .i64)) (k : Int) (ty tk : TypeId) :
    ∃ w', (Builtin.delete_ #[T, tk] ty #[.map (some b), .int .i64 k]).run P w = .ok (.tuple #[]) w' ∧ IsMap w' b (mdel L k) ∧ w.grownBy w' (some b) ∧ w'.heap.size = w.heap.size := by
  obtain ⟨clock, hb, hok⟩ := h
  have hg : (getObj b).run P w = .ok (.map (L.map MEnt.obj).toArray clock) w := by simp [getObj, Sem.run, hb]
  have hf := run_findKey_int (P := P) w hk L k
  have hc := run_checkKey_int' (P := P) w hk k
  have hset : ∀ o, (setObj b o).run P w = .ok () { w with heap := w.heap.setIfInBounds b o } := fun o => by simp [setObj, Sem.run, hb]
  have hgr : ∀ o, w.grownBy { w with heap := w.heap.setIfInBounds b o } (some b) := fun o => ⟨rfl, rfl, rfl, by simp, fun i _ hi => setObj_other w b o i (fun e => hi (by rw [e]))⟩
  have hok' := mdel_ok hok k
  cases hm : mfind L k with
  | none =>
    refine ⟨{ w with heap := w.heap.setIfInBounds b (.map (L.map MEnt.obj).toArray clock) }, ?_, ⟨clock, ?_, hok'⟩, hgr _, by simp⟩
    · simp only [Builtin.delete_, Sem.run_bind, run_underlying ht, Result.andThen, hg, hc, hf, hm, List.getElem?_toArray, List.getElem?_cons_zero, List.getElem?_cons_succ]
      simp [run_underlying ht, hg, hc, hf, hm, hset]
    · rw [setObj_same w b _ _ hb]; simp [mdel, hm]
  | some i =>
    obtain ⟨e, he, hek⟩ := mfind_some hm
    refine ⟨{ w with heap := w.heap.setIfInBounds b (.map ((L.map MEnt.obj).toArray.eraseIdxIfInBounds i) clock) }, ?_, ⟨clock, ?_, hok'⟩, hgr _, by simp⟩
    · simp only [Builtin.delete_, Sem.run_bind, run_underlying ht, Result.andThen, hg, hc, hf, hm, List.getElem?_toArray, List.getElem?_cons_zero, List.getElem?_cons_succ]
      simp [run_underlying ht, hg, hc, hf, hm, hset, he]
    · rw [setObj_same w b _ _ hb]
      congr 2
      have hlt : i < L.length := (List.getElem?_eq_some_iff.1 he).1
      simp only [mdel, hm]
      apply Array.toList_inj.1
      rw [Array.eraseIdxIfInBounds_eq]
      simp [hlt, map_eraseIdx']
end
end Go.Proofs.YtbnobgoenoppkaaDoor
