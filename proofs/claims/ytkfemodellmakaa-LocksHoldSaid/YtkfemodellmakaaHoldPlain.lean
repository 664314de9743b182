/- LocksHold's plain law: what Ask and Free keep of a table. No program in sight (but the functions' answers). -/
import Derived.Test.YtkfemodellmakaaFor
import Derived.Test.YtkfemodellmakaaFree
namespace Go.Proofs.Ytkfemodellmakaa
set_option linter.unusedSimpArgs false
set_option linter.unusedVariables false

theorem odds_iff (a b : OpV) : oddsB a b = true ↔ a.tx ≠ b.tx ∧ a.what = b.what ∧ (a.item = 2 ∨ b.item = 2) := by simp [oddsB]
theorem odds_symm (a b : OpV) : oddsB a b = oddsB b a := by
  rw [Bool.eq_iff_iff, odds_iff, odds_iff]
  constructor <;> (rintro ⟨h1, h2, h3⟩; exact ⟨fun e => h1 e.symm, h2.symm, h3.symm⟩)
theorem lright_iff (l : OpV) : lrightB l = true ↔ (1 ≤ l.tx ∧ l.tx ≤ 6) ∧ (1 ≤ l.what ∧ l.what ≤ 6) ∧ (l.item = 1 ∨ l.item = 2) := by simp [lrightB]
/-- Of two locks: not at odds, and not one deal's on one item. -/
def Apart (a b : OpV) : Prop := oddsB a b = false ∧ ¬ (a.tx = b.tx ∧ a.what = b.what)
/-- What holds of a table: held are apart; who waits is at odds with some that is held, or waits ahead; deals wait once; what waits is more than what its deal holds. R: those that are still to be looked at. -/
structure InvR (H W R : List OpV) : Prop where
  apart : H.Pairwise Apart
  rH : ∀ x ∈ H, lrightB x = true
  rW : ∀ x ∈ W ++ R, lrightB x = true
  once : (W ++ R).Pairwise fun a b => a.tx ≠ b.tx
  less : ∀ x ∈ H, ∀ y ∈ W ++ R, x.tx = y.tx → x.what = y.what → x.item = 1 ∧ y.item = 2
  why : ∀ k (h : k < W.length), ∃ x ∈ H ++ W.take k, oddsB x W[k] = true
def Inv (H W : List OpV) : Prop := InvR H W []
theorem inv0 : Inv [] [] := ⟨.nil, by simp, by simp, by simp, by simp, by simp⟩

theorem holdV_mem {H : List OpV} {l x : OpV} (h : x ∈ holdV H l) : x = l ∨ (x ∈ H ∧ ¬ (x.tx = l.tx ∧ x.what = l.what)) ∨ x ∈ H := by
  unfold holdV at h
  split at h
  · rcases List.mem_or_eq_of_mem_set h with h | h
    · exact .inr (.inr h)
    · exact .inl h
  · rcases List.mem_append.1 h with h | h
    · exact .inr (.inr h)
    · exact .inl (by simpa using h)
/-- What was held and is not its deal's on the item is held still. -/
theorem holdV_keeps {H : List OpV} {l x : OpV} (hx : x ∈ H) (hne : ¬ (x.tx = l.tx ∧ x.what = l.what)) : x ∈ holdV H l := by
  unfold holdV
  split
  · rename_i i hf
    obtain ⟨hi, hp, _⟩ := List.findIdx?_eq_some_iff_getElem.1 hf
    obtain ⟨j, hj, rfl⟩ := List.mem_iff_getElem.1 hx
    have hij : i ≠ j := by
      rintro rfl
      simp [atB] at hp
      exact hne hp
    rw [List.mem_iff_getElem]
    exact ⟨j, by simpa using hj, by rw [List.getElem_set_ne hij]⟩
  · simp [hx]
theorem holdV_self (H : List OpV) (l : OpV) : l ∈ holdV H l := by
  unfold holdV
  split
  · rename_i i hf
    obtain ⟨hi, _⟩ := List.findIdx?_eq_some_iff_getElem.1 hf
    exact List.mem_iff_getElem.2 ⟨i, by simpa using hi, by simp⟩
  · simp
theorem apart_symm {a b : OpV} (h : Apart a b) : Apart b a := ⟨by rw [odds_symm]; exact h.1, fun e => h.2 ⟨e.1.symm, e.2.symm⟩⟩
theorem pairwise_set {H : List OpV} {i : Nat} {l : OpV} (hp : H.Pairwise Apart) (h : ∀ j (hj : j < H.length), j ≠ i → Apart l H[j]) : (H.set i l).Pairwise Apart := by
  rw [List.pairwise_iff_getElem] at hp ⊢
  intro a b ha hb hab
  simp only [List.length_set] at ha hb
  rw [List.getElem_set, List.getElem_set]
  split
  · split
    · omega
    · exact h b hb (by omega)
  · split
    · exact apart_symm (h a ha (by omega))
    · exact hp a b ha hb hab
/-- A free lock goes to those that are held. -/
theorem holdV_apart {H : List OpV} {l : OpV} (hp : H.Pairwise Apart) (hf : H.any (oddsB l) = false) : (holdV H l).Pairwise Apart := by
  have hno : ∀ x ∈ H, oddsB l x = false := fun x hx => by
    rw [List.any_eq_false] at hf
    simpa using hf x hx
  unfold holdV
  split
  · rename_i i hfi
    obtain ⟨hi, hpi, hlt⟩ := List.findIdx?_eq_some_iff_getElem.1 hfi
    refine pairwise_set hp fun j hj hne => ⟨hno _ (List.getElem_mem hj), fun e => ?_⟩
    simp [atB] at hpi
    rw [List.pairwise_iff_getElem] at hp
    rcases Nat.lt_or_gt_of_ne hne with h | h
    · exact (hp j i hj hi h).2 ⟨by rw [← e.1, hpi.1], by rw [← e.2, hpi.2]⟩
    · exact (hp i j hi hj h).2 ⟨by rw [← e.1, hpi.1], by rw [← e.2, hpi.2]⟩
  · rename_i hfn
    rw [List.pairwise_append]
    refine ⟨hp, by simp, fun a ha b hb => ?_⟩
    obtain rfl : b = l := by simpa using hb
    refine ⟨by rw [odds_symm]; exact hno a ha, fun e => ?_⟩
    have := List.findIdx?_eq_none_iff.1 hfn a ha
    simp [atB] at this
    exact this e.1 e.2

/-- One of those that are still to be looked at is held. -/
theorem InvR.held {H W R : List OpV} {l : OpV} (h : InvR H W (l :: R)) (hk : okB H W l = true) : InvR (holdV H l) W R := by
  have hk' : H.any (oddsB l) = false ∧ W.any (oddsB l) = false := by simpa [okB] using hk
  have hnoW : ∀ x ∈ W, oddsB l x = false := fun x hx => by
    have := hk'.2
    rw [List.any_eq_false] at this
    simpa using this x hx
  have hrl : lrightB l = true := h.rW l (by simp)
  have honce := h.once
  rw [List.pairwise_append, List.pairwise_cons] at honce
  obtain ⟨o1, ⟨o2, o3⟩, o4⟩ := honce
  refine ⟨holdV_apart h.apart hk'.1, fun x hx => ?_, fun x hx => h.rW x (by simp at hx ⊢; rcases hx with hx | hx <;> simp [hx]), ?_, fun x hx y hy e1 e2 => ?_, fun k hkl => ?_⟩
  · rcases holdV_mem hx with rfl | ⟨hx, _⟩ | hx
    · exact hrl
    · exact h.rH x hx
    · exact h.rH x hx
  · rw [List.pairwise_append]
    exact ⟨o1, o3, fun a ha b hb => o4 a ha b (by simp [hb])⟩
  · have hyl : l.tx ≠ y.tx := by
      rcases List.mem_append.1 hy with hy | hy
      · exact fun e => o4 y hy l (by simp) e.symm
      · exact o2 y hy
    have hy' : y ∈ W ++ l :: R := by simp at hy ⊢; rcases hy with hy | hy <;> simp [hy]
    rcases holdV_mem hx with rfl | ⟨hx, _⟩ | hx
    · exact absurd e1 hyl
    · exact h.less x hx y hy' e1 e2
    · exact h.less x hx y hy' e1 e2
  · obtain ⟨x, hx, ho⟩ := h.why k hkl
    rcases List.mem_append.1 hx with hx | hx
    · by_cases hs : x.tx = l.tx ∧ x.what = l.what
      · obtain ⟨h1, h2⟩ := h.less x hx l (by simp) hs.1 hs.2
        rw [odds_iff] at ho
        have : oddsB l W[k] = true := by
          rw [odds_iff]
          exact ⟨by rw [← hs.1]; exact ho.1, by rw [← hs.2]; exact ho.2.1, .inl h2⟩
        rw [hnoW _ (List.getElem_mem hkl)] at this
        cases this
      · exact ⟨x, List.mem_append.2 (.inl (holdV_keeps hx hs)), ho⟩
    · exact ⟨x, List.mem_append.2 (.inr hx), ho⟩
/-- One of those waits on. -/
theorem InvR.wait {H W R : List OpV} {l : OpV} (h : InvR H W (l :: R)) (hk : okB H W l = false) : InvR H (W ++ [l]) R := by
  have hassoc : W ++ [l] ++ R = W ++ l :: R := by simp
  refine ⟨h.apart, h.rH, by rw [hassoc]; exact h.rW, by rw [hassoc]; exact h.once, by rw [hassoc]; exact h.less, fun k hkl => ?_⟩
  by_cases hlt : k < W.length
  · obtain ⟨x, hx, ho⟩ := h.why k hlt
    refine ⟨x, ?_, by rw [List.getElem_append_left hlt]; exact ho⟩
    rw [List.take_append_of_le_length (by omega)]
    exact hx
  · obtain rfl : k = W.length := by simp at hkl; omega
    have hex : H.any (oddsB l) = true ∨ W.any (oddsB l) = true := by
      cases h1 : H.any (oddsB l) <;> cases h2 : W.any (oddsB l) <;> simp_all [okB]
    rw [List.take_left]
    simp only [List.getElem_append_right (Nat.le_refl _), Nat.sub_self, List.getElem_cons_zero]
    rcases hex with h1 | h1
    · obtain ⟨x, hx, ho⟩ := List.any_eq_true.1 h1
      exact ⟨x, List.mem_append.2 (.inl hx), by rw [odds_symm]; exact ho⟩
    · obtain ⟨x, hx, ho⟩ := List.any_eq_true.1 h1
      exact ⟨x, List.mem_append.2 (.inr hx), by rw [odds_symm]; exact ho⟩
theorem InvR.fold : ∀ (R : List OpV) (s : FreeS), InvR s.H s.left R → Inv (R.foldl freeStep s).H (R.foldl freeStep s).left
  | [], s, h => h
  | l :: R, s, h => by
    refine InvR.fold R (freeStep s l) ?_
    unfold freeStep
    cases hk : okB s.H s.left l with
    | true => simpa [hk] using h.held hk
    | false => simpa [hk] using h.wait hk
theorem inv_free {H W : List OpV} (h : Inv H W) (tx : Int) : Inv (freeV H W tx).H (freeV H W tx).left := by
  refine InvR.fold _ _ ⟨h.apart.sublist List.filter_sublist, fun x hx => h.rH x (List.mem_filter.1 hx).1, fun x hx => h.rW x (by simp at hx ⊢; exact (List.mem_filter.1 hx).1), ?_, fun x hx y hy => h.less x (List.mem_filter.1 hx).1 y (by simp at hy ⊢; exact (List.mem_filter.1 hy).1), by simp⟩
  have := h.once
  simp only [List.append_nil] at this
  simp only [List.nil_append]
  exact this.sublist List.filter_sublist
theorem inv_ask {H W : List OpV} (h : Inv H W) (l : OpV) : Inv (askV H W l).H (askV H W l).W := by
  by_cases h1 : lrightB l = false
  · simpa [askV, h1] using h
  by_cases h2 : W.any (ofB l.tx) = true
  · rw [askV, if_neg h1, if_pos h2]; exact h
  by_cases h3 : heldB H l = true
  · rw [askV, if_neg h1, if_neg h2, if_pos h3]; exact h
  have hr : lrightB l = true := by simpa using h1
  have hW : ∀ y ∈ W, y.tx ≠ l.tx := fun y hy e => h2 (List.any_eq_true.2 ⟨y, hy, by simp [ofB, e]⟩)
  have hin : InvR H W [l] := by
    refine ⟨h.apart, h.rH, fun x hx => ?_, ?_, fun x hx y hy e1 e2 => ?_, h.why⟩
    · rcases List.mem_append.1 hx with hx | hx
      · exact h.rW x (by simp [hx])
      · obtain rfl : x = l := by simpa using hx
        exact hr
    · rw [List.pairwise_append]
      have := h.once
      simp only [List.append_nil] at this
      exact ⟨this, by simp, fun a ha b hb => by obtain rfl : b = l := by simpa using hb
                                                exact hW a ha⟩
    · rcases List.mem_append.1 hy with hy | hy
      · exact h.less x hx y (by simp [hy]) e1 e2
      · obtain rfl : y = l := by simpa using hy
        have hx1 := (lright_iff x).1 (h.rH x hx)
        have hl1 := (lright_iff y).1 hr
        have hlt : x.item < y.item := by
          refine Int.not_le.1 fun hle => h3 ?_
          unfold heldB
          cases hf : H.findIdx? (atB y.tx y.what) with
          | none =>
            have := List.findIdx?_eq_none_iff.1 hf x hx
            simp [atB, e1, e2] at this
          | some i =>
            obtain ⟨hi, hp, _⟩ := List.findIdx?_eq_some_iff_getElem.1 hf
            simp [atB] at hp
            obtain ⟨j, hj, rfl⟩ := List.mem_iff_getElem.1 hx
            have hij : i = j := by
              have hpw := h.apart
              rw [List.pairwise_iff_getElem] at hpw
              rcases Nat.lt_trichotomy i j with q | q | q
              · exact absurd ⟨by rw [hp.1, e1], by rw [hp.2, e2]⟩ (hpw i j hi hj q).2
              · exact q
              · exact absurd ⟨by rw [hp.1, e1], by rw [hp.2, e2]⟩ (hpw j i hj hi q).2
            subst hij
            simp [List.getD, List.getElem?_eq_getElem hi, hle]
        omega
  cases hk : okB H W l with
  | true =>
    rw [askV, if_neg h1, if_neg h2, if_neg h3, if_pos hk]
    exact hin.held hk
  | false =>
    rw [askV, if_neg h1, if_neg h2, if_neg h3, if_neg (by simp [hk])]
    exact hin.wait hk
end Go.Proofs.Ytkfemodellmakaa
