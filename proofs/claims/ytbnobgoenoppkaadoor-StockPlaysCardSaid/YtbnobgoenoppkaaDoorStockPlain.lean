/- StockPlays: the arrays of the law, the map of the program, and how they go together. No program in sight. -/
import Derived.Test.YtbnobgoenoppkaaDoorStock3
namespace Go.Proofs.YtbnobgoenoppkaaDoor
open Go.RowKit
set_option linter.unusedSimpArgs false
set_option linter.unusedVariables false

/-- An array of seven numbers. -/
def arr7 (A : Int → Int) : Array Value := #[.int .i64 (A 0), .int .i64 (A 1), .int .i64 (A 2), .int .i64 (A 3), .int .i64 (A 4), .int .i64 (A 5), .int .i64 (A 6)]
def upd (A : Int → Int) (i v : Int) : Int → Int := fun k => if k = i then v else A k
theorem arr7_at (A : Int → Int) (i : Int) (h0 : 0 ≤ i) (h1 : i ≤ 6) : (arr7 A)[i.toNat]? = some (.int .i64 (A i)) := by
  have : i = 0 ∨ i = 1 ∨ i = 2 ∨ i = 3 ∨ i = 4 ∨ i = 5 ∨ i = 6 := by omega
  rcases this with rfl | rfl | rfl | rfl | rfl | rfl | rfl <;> rfl
theorem arr7_set (A : Int → Int) (i v : Int) (h0 : 0 ≤ i) (h1 : i ≤ 6) : (arr7 A).setIfInBounds i.toNat (.int .i64 v) = arr7 (upd A i v) := by
  have : i = 0 ∨ i = 1 ∨ i = 2 ∨ i = 3 ∨ i = 4 ∨ i = 5 ∨ i = 6 := by omega
  rcases this with rfl | rfl | rfl | rfl | rfl | rfl | rfl <;> simp [arr7, upd]
/-- The first so many of the numbers from 1 on, added up. -/
def upto (A : Int → Int) : Nat → Int
  | 0 => 0
  | n + 1 => upto A n + A (n + 1)
theorem upto_upd (A : Int → Int) (i v : Int) (n : Nat) (h1 : 1 ≤ i) : upto (upd A i v) n = upto A n + (if i ≤ n then v - A i else 0) := by
  induction n with
  | zero => simp [upto]; omega
  | succ n ih =>
    simp only [upto, ih, upd]
    by_cases e : (n : Int) + 1 = i
    · subst e
      simp
      omega
    · have : ((n + 1 : Nat) : Int) = n + 1 := by omega
      rw [if_neg e]
      by_cases h : i ≤ n
      · rw [if_pos h, if_pos (by omega)]; omega
      · rw [if_neg h, if_neg (by omega)]; omega

/-- How the map and the arrays go together. -/
structure Coh (L : List MEnt) (A T : Int → Int) : Prop where
  asked : Askeds L
  keys : (L.map MEnt.k).Nodup
  range : ∀ e ∈ L, 1 ≤ e.k ∧ e.k ≤ 6
  add : ∀ e ∈ L, A e.k = addV e.v
  take : ∀ e ∈ L, T e.k = takeV e.v
  some : ∀ e ∈ L, ¬ (A e.k = 0 ∧ T e.k = 0)
  none : ∀ d, 1 ≤ d → d ≤ 6 → (∀ e ∈ L, e.k ≠ d) → A d = 0 ∧ T d = 0

theorem upto_nonneg (A : Int → Int) (n : Nat) (h : ∀ d : Int, 1 ≤ d → d ≤ n → 0 ≤ A d) : 0 ≤ upto A n := by
  induction n with
  | zero => simp [upto]
  | succ n ih =>
    have h1 := ih fun d h1 h2 => h d h1 (by omega)
    have h2 := h ((n : Int) + 1) (by omega) (by omega)
    simp only [upto]
    omega
theorem upto_congr (A B : Int → Int) (n : Nat) (h : ∀ d : Int, 1 ≤ d → d ≤ n → A d = B d) : upto A n = upto B n := by
  induction n with
  | zero => rfl
  | succ n ih =>
    simp only [upto]
    rw [ih fun d h1 h2 => h d h1 (by omega), h ((n : Int) + 1) (by omega) (by omega)]

/-- A sum over keys that are all unlike and among 1 to n is the sum over 1 to n of what they have. -/
theorem sum_keys (f : MEnt → Int) : ∀ (L : List MEnt) (F : Int → Int) (n : Nat), (L.map MEnt.k).Nodup → (∀ e ∈ L, 1 ≤ e.k ∧ e.k ≤ n) → (∀ e ∈ L, F e.k = f e) → (∀ d, 1 ≤ d → d ≤ (n : Int) → (∀ e ∈ L, e.k ≠ d) → F d = 0) → (L.map f).sum = upto F n
  | [], F, n, _, _, _, hz => by
    have : upto F n = upto (fun _ => 0) n := upto_congr _ _ _ fun d h1 h2 => hz d h1 h2 (by simp)
    rw [this]
    clear this hz
    induction n with
    | zero => rfl
    | succ n ih => simp only [upto] at *; simp at *; omega
  | e :: L, F, n, hn, hr, hf, hz => by
    have hn' : e.k ∉ L.map MEnt.k ∧ (L.map MEnt.k).Nodup := List.nodup_cons.1 hn
    have he := hr e (List.mem_cons.2 (.inl rfl))
    have ih := sum_keys f L (upd F e.k 0) n hn'.2 (fun x hx => hr x (List.mem_cons.2 (.inr hx))) (fun x hx => by
        unfold upd
        rw [if_neg (fun q => hn'.1 (by rw [← q]; exact List.mem_map_of_mem hx))]
        exact hf x (List.mem_cons.2 (.inr hx))) (fun d h1 h2 h3 => by
        unfold upd
        by_cases q : d = e.k
        · rw [if_pos q]
        · rw [if_neg q]
          exact hz d h1 h2 fun x hx => by
            rcases List.mem_cons.1 hx with rfl | hx
            · exact fun q' => q q'.symm
            · exact h3 x hx)
    rw [upto_upd F e.k 0 n he.1, if_pos he.2] at ih
    have hfe := hf e (List.mem_cons.2 (.inl rfl))
    simp only [List.map_cons, List.sum_cons, ih]
    omega

theorem Coh.ads {L : List MEnt} {A T : Int → Int} (h : Coh L A T) : ads L = upto A 6 :=
  sum_keys (fun e => addV e.v) L A 6 h.keys h.range h.add fun d h1 h2 h3 => (h.none d h1 h2 h3).1
theorem Coh.tks {L : List MEnt} {A T : Int → Int} (h : Coh L A T) : tks L = upto T 6 :=
  sum_keys (fun e => takeV e.v) L T 6 h.keys h.range h.take fun d h1 h2 h3 => (h.none d h1 h2 h3).2

theorem mget_some {L : List MEnt} {k : Int} {v : Value} (h : mget L k = some v) : ∃ e ∈ L, e.k = k ∧ e.v = v := by
  unfold mget at h
  obtain ⟨e, he, rfl⟩ := Option.map_eq_some_iff.1 h
  exact ⟨e, List.mem_of_find?_eq_some he, by simpa using List.find?_some he, rfl⟩
theorem mget_none {L : List MEnt} {k : Int} (h : mget L k = none) : ∀ e ∈ L, e.k ≠ k := by
  unfold mget at h
  intro e he hk
  have := List.find?_eq_none.1 (Option.map_eq_none_iff.1 h) e he
  simp [hk] at this
theorem Coh.get {L : List MEnt} {A T : Int → Int} (h : Coh L A T) {d : Int} (h1 : 1 ≤ d) (h2 : d ≤ 6) : addV (askedOf L d) = A d ∧ takeV (askedOf L d) = T d ∧ ((mget L d).isSome = true ↔ ¬ (A d = 0 ∧ T d = 0)) := by
  unfold askedOf
  cases hm : mget L d with
  | none =>
    obtain ⟨q1, q2⟩ := h.none d h1 h2 (mget_none hm)
    simp [addV, takeV, intV, q1, q2]
  | some v =>
    obtain ⟨e, he, rfl, rfl⟩ := mget_some hm
    simp [h.add e he, h.take e he]
    have := h.some e he
    rw [h.add e he, h.take e he] at this
    exact fun q1 q2 => this ⟨q1, q2⟩
theorem nodup_inj {α : Type} {l : List α} (h : l.Nodup) {i j : Nat} {x : α} (hi : l[i]? = some x) (hj : l[j]? = some x) : i = j := by
  obtain ⟨a, ha⟩ := List.getElem?_eq_some_iff.1 hi
  obtain ⟨b, hb⟩ := List.getElem?_eq_some_iff.1 hj
  have hp := List.pairwise_iff_getElem.1 h
  rcases Nat.lt_trichotomy i j with q | q | q
  · exact absurd (ha.trans hb.symm) (hp i j a b q)
  · exact q
  · exact absurd (hb.trans ha.symm) (hp j i b a q)
theorem mfind_put {L : List MEnt} {k : Int} {v : Value} {clock : Nat} (hk : (L.map MEnt.k).Nodup) :
    (∀ e ∈ mput L k v clock, (e ∈ L ∧ e.k ≠ k) ∨ (e.k = k ∧ e.v = v)) ∧ (∀ e ∈ L, e.k ≠ k → e ∈ mput L k v clock) ∧ (∃ e ∈ mput L k v clock, e.k = k) := by
  unfold mput
  cases hm : mfind L k with
  | none =>
    have hn := mfind_none hm
    refine ⟨fun e he => ?_, fun e he _ => List.mem_append.2 (.inl he), ⟨k, v, clock⟩, by simp, rfl⟩
    rcases List.mem_append.1 he with h | h
    · exact .inl ⟨h, hn e h⟩
    · rw [List.mem_singleton.1 h]; exact .inr ⟨rfl, rfl⟩
  | some i =>
    obtain ⟨x, hx, hxk⟩ := mfind_some hm
    have hone : ∀ j e, L[j]? = some e → e.k = k → j = i := by
      intro j e hj he
      have h1 : (L.map MEnt.k)[j]? = some k := by simp [hj, he]
      have h2 : (L.map MEnt.k)[i]? = some k := by simp [hx, hxk]
      exact nodup_inj hk h1 h2
    refine ⟨fun e he => ?_, fun e he hne => ?_, { x with v := v }, ?_, hxk⟩
    · obtain ⟨j, hj⟩ := List.getElem?_of_mem he
      rw [List.getElem?_modify] at hj
      by_cases hij : i = j
      · subst hij
        rw [hx] at hj
        simp at hj
        subst hj
        exact .inr ⟨hxk, rfl⟩
      · simp [hij] at hj
        exact .inl ⟨List.mem_of_getElem? hj, fun q => hij (hone j e hj q).symm⟩
    · obtain ⟨j, hj⟩ := List.getElem?_of_mem he
      have hij : i ≠ j := fun q => hne (by subst q; rw [hx] at hj; injection hj with hj; rw [← hj]; exact hxk)
      exact List.mem_of_getElem? (i := j) (by rw [List.getElem?_modify]; simp [hij, hj])
    · exact List.mem_of_getElem? (i := i) (by rw [List.getElem?_modify]; simp [hx])

theorem Coh.put {L : List MEnt} {A T : Int → Int} (h : Coh L A T) {d a t : Int} (h1 : 1 ≤ d) (h2 : d ≤ 6) (ha : 0 ≤ a) (ht : 0 ≤ t) (hne : ¬ (a = 0 ∧ t = 0)) (clock : Nat) (hc : ((mput L d (.agg #[.int .i64 a, .int .i64 t]) clock).map MEnt.k).Nodup) :
    Coh (mput L d (.agg #[.int .i64 a, .int .i64 t]) clock) (upd A d a) (upd T d t) := by
  obtain ⟨m1, m2, m3⟩ := mfind_put (v := .agg #[.int .i64 a, .int .i64 t]) (clock := clock) (k := d) h.keys
  refine ⟨askeds_put h.asked d a t clock ha ht, hc, ?_, ?_, ?_, ?_, ?_⟩
  · intro e he
    rcases m1 e he with q | q
    · exact h.range e q.1
    · rw [q.1]; exact ⟨h1, h2⟩
  · intro e he
    rcases m1 e he with q | q
    · simp only [upd, if_neg q.2]; exact h.add e q.1
    · simp [upd, q.1, q.2, addV, intV]
  · intro e he
    rcases m1 e he with q | q
    · simp only [upd, if_neg q.2]; exact h.take e q.1
    · simp [upd, q.1, q.2, takeV, intV]
  · intro e he
    rcases m1 e he with q | q
    · simp only [upd, if_neg q.2]; exact h.some e q.1
    · simpa [upd, q.1] using hne
  · intro d' g1 g2 g3
    have hd : d' ≠ d := by
      rintro rfl
      obtain ⟨e, he, hk⟩ := m3
      exact g3 e he hk
    simp only [upd, if_neg hd]
    refine h.none d' g1 g2 fun e he hk => ?_
    exact g3 e (m2 e he (by rw [hk]; exact hd)) hk

theorem mdel_mem {L : List MEnt} {k : Int} (hk : (L.map MEnt.k).Nodup) : (∀ e ∈ mdel L k, e ∈ L ∧ e.k ≠ k) ∧ (∀ e ∈ L, e.k ≠ k → e ∈ mdel L k) := by
  unfold mdel
  cases hm : mfind L k with
  | none => exact ⟨fun e he => ⟨he, mfind_none hm e he⟩, fun e he _ => he⟩
  | some i =>
    obtain ⟨x, hx, hxk⟩ := mfind_some hm
    have hlt : i < L.length := (List.getElem?_eq_some_iff.1 hx).1
    have hxi : L[i] = x := (List.getElem?_eq_some_iff.1 hx).2
    constructor
    · intro e he
      refine ⟨(List.eraseIdx_sublist L i).subset he, fun q => ?_⟩
      have hs : ((L.eraseIdx i).map MEnt.k) = (L.map MEnt.k).eraseIdx i := (map_eraseIdx' MEnt.k L i).symm
      have hin : k ∈ (L.map MEnt.k).eraseIdx i := by rw [← hs, ← q]; exact List.mem_map_of_mem he
      have hlt' : i < (L.map MEnt.k).length := by simpa using hlt
      have hki : (L.map MEnt.k)[i] = k := by simp [hxi, hxk]
      rw [List.mem_eraseIdx_iff_getElem] at hin
      obtain ⟨j, hj, hne, hjk⟩ := hin
      exact hne (nodup_inj hk (List.getElem?_eq_some_iff.2 ⟨hj, hjk⟩) (List.getElem?_eq_some_iff.2 ⟨hlt', hki⟩))
    · intro e he hne
      rw [List.mem_eraseIdx_iff_getElem]
      obtain ⟨j, hj, hje⟩ := List.getElem_of_mem he
      refine ⟨j, hj, fun q => ?_, hje⟩
      subst q
      exact hne (by rw [← hje, hxi]; exact hxk)

theorem Coh.del {L : List MEnt} {A T : Int → Int} (h : Coh L A T) {d : Int} (clock : Nat) (hc : MapOk L clock) : Coh (mdel L d) (upd A d 0) (upd T d 0) := by
  obtain ⟨m1, m2⟩ := mdel_mem (k := d) h.keys
  refine ⟨fun e he => h.asked e (m1 e he).1, (mdel_ok hc d).keys, fun e he => h.range e (m1 e he).1, ?_, ?_, ?_, ?_⟩
  · intro e he; simp only [upd, if_neg (m1 e he).2]; exact h.add e (m1 e he).1
  · intro e he; simp only [upd, if_neg (m1 e he).2]; exact h.take e (m1 e he).1
  · intro e he; simp only [upd, if_neg (m1 e he).2]; exact h.some e (m1 e he).1
  · intro d' g1 g2 g3
    by_cases hd : d' = d
    · simp [upd, hd]
    · simp only [upd, if_neg hd]
      refine h.none d' g1 g2 fun e he hk => ?_
      exact g3 e (m2 e he (by rw [hk]; exact hd)) hk
theorem Coh.nonneg {L : List MEnt} {A T : Int → Int} (h : Coh L A T) {d : Int} (h1 : 1 ≤ d) (h2 : d ≤ 6) : 0 ≤ A d ∧ 0 ≤ T d := by
  obtain ⟨q1, q2, _⟩ := h.get h1 h2
  obtain ⟨_, a1, a2, _⟩ := askedOf_form h.asked d
  omega
theorem Coh.upto_nonneg {L : List MEnt} {A T : Int → Int} (h : Coh L A T) (n : Nat) (hn : n ≤ 6) : 0 ≤ upto A n ∧ 0 ≤ upto T n :=
  ⟨Go.Proofs.YtbnobgoenoppkaaDoor.upto_nonneg A n fun d h1 h2 => (h.nonneg h1 (by omega)).1, Go.Proofs.YtbnobgoenoppkaaDoor.upto_nonneg T n fun d h1 h2 => (h.nonneg h1 (by omega)).2⟩
theorem coh_empty : Coh [] (fun _ => 0) (fun _ => 0) := ⟨by simp [Askeds], by simp, by simp, by simp, by simp, by simp, by simp⟩
end Go.Proofs.YtbnobgoenoppkaaDoor
