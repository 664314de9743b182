/- LocksHold: the walk. -/
import Derived.Test.YtkfemodellmakaaHoldPlain
import Derived.Test.YtkfemodellmakaaCloneL
import Derived.Test.YtkfemodellmakaaLocksTog
namespace Go.Proofs.Ytkfemodellmakaa
open Go.RowKit Go.Sort
set_option linter.unusedSimpArgs false
set_option linter.unusedVariables false
attribute [local go_sem ↓] Go.wp_at_zero Go.wp_at_succ

set_option maxRecDepth 100000 in
theorem rodds_any (a b : OpV) (w : World) : Calls Try.prog 10 #[a.agg, b.agg] w fun e w' => e = .returned (.bool (oddsB a b)) ∧ Below w.heap.size w w' := by
  obtain ⟨at', ai, am⟩ := a
  obtain ⟨bt, bi, bm⟩ := b
  show Calls Try.prog 10 #[.agg #[.int .i64 at', .int .i64 ai, .int .i64 am], .agg #[.int .i64 bt, .int .i64 bi, .int .i64 bm]] w _
  have hn : Below w.heap.size w ((w.alloc (.cells #[.int .i64 at', .int .i64 ai, .int .i64 am] 29)).alloc (.cells #[.int .i64 bt, .int .i64 bi, .int .i64 bm] 29)) := ((Below.refl _ w).alloc (Nat.le_refl _) _).alloc (by simp) _
  have HN := Lib.hid hn
  clear hn
  cases e1 : (at' != bt) with
  | false =>
    have hr : oddsB ⟨at', ai, am⟩ ⟨bt, bi, bm⟩ = false := by simp [oddsB]; intro h; simp at e1; exact absurd e1 h
    rw [hr]; clear hr
    go_enter Try.func10, Try.ntmps10
    go_wp2
    go_ret
    exact ⟨rfl, HN.out⟩
  | true =>
    cases e2 : (ai == bi) with
    | false =>
      have hr : oddsB ⟨at', ai, am⟩ ⟨bt, bi, bm⟩ = false := by simp [oddsB]; intro h h2; simp at e2; exact absurd h2 e2
      rw [hr]; clear hr
      go_enter Try.func10, Try.ntmps10
      go_wp2
      go_ret
      exact ⟨rfl, HN.out⟩
    | true =>
      cases e3 : (am == 2) with
      | true =>
        have hr : oddsB ⟨at', ai, am⟩ ⟨bt, bi, bm⟩ = true := by simp [oddsB]; simp at e1 e2 e3; exact ⟨e1, e2, .inl e3⟩
        rw [hr]; clear hr
        go_enter Try.func10, Try.ntmps10
        go_wp2
        go_ret
        exact ⟨rfl, HN.out⟩
      | false =>
        cases e4 : (bm == 2) with
        | true =>
          have hr : oddsB ⟨at', ai, am⟩ ⟨bt, bi, bm⟩ = true := by simp [oddsB]; simp at e1 e2 e4; exact ⟨e1, e2, .inr e4⟩
          rw [hr]; clear hr
          go_enter Try.func10, Try.ntmps10
          go_wp2
          go_ret
          exact ⟨rfl, HN.out⟩
        | false =>
          have hr : oddsB ⟨at', ai, am⟩ ⟨bt, bi, bm⟩ = false := by simp [oddsB]; simp at e1 e2 e3 e4; intro _ _; exact ⟨e3, e4⟩
          rw [hr]; clear hr
          go_enter Try.func10, Try.ntmps10
          go_wp2
          go_ret
          exact ⟨rfl, HN.out⟩

theorem compact_pos (zs : List Int) (h : 0 < zs.length) : 0 < (Lib.compact zs).length := by
  unfold Lib.compact Lib.compactUpTo
  rw [List.length_map]
  refine List.length_pos_of_mem (a := 0) ?_
  rw [List.mem_filter]
  exact ⟨List.mem_range.2 h, by simp [Lib.keeps]⟩
theorem for_ne {H W : List OpV} (h : Inv H W) (k : Nat) (hk : k < W.length) : 0 < (forV H W W[k]).length ∧ lrightB W[k] = true := by
  refine ⟨?_, h.rW _ (by simp)⟩
  have ha : aheadV W W[k].tx = W.take k := by
    have hf : W.findIdx? (ofB W[k].tx) = some k := by
      rw [List.findIdx?_eq_some_iff_getElem]
      refine ⟨hk, by simp [ofB], fun j hj => ?_⟩
      have := h.once
      simp only [List.append_nil] at this
      rw [List.pairwise_iff_getElem] at this
      have := this j k (by omega) hk hj
      simp [ofB, this]
    simp [aheadV, hf]
  refine compact_pos _ ?_
  rw [sortI_length, ha]
  obtain ⟨x, hx, ho⟩ := h.why k hk
  unfold whoV
  rw [List.length_map]
  exact List.length_pos_of_mem (List.mem_filter.2 ⟨hx, ho⟩)
theorem held_apart {H W : List OpV} (h : Inv H W) (k j : Nat) (hk : k < H.length) (hj : j < k) : oddsB H[k] (H[j]'(by omega)) = false ∧ (((H[k].tx == (H[j]'(by omega)).tx) = false) ∨ ((H[k].tx == (H[j]'(by omega)).tx) = true ∧ (H[k].what == (H[j]'(by omega)).what) = false)) := by
  have := h.apart
  rw [List.pairwise_iff_getElem] at this
  have := apart_symm (this j k (by omega) hk hj)
  refine ⟨this.1, ?_⟩
  cases h1 : (H[k].tx == (H[j]'(by omega)).tx) with
  | false => exact .inl rfl
  | true =>
    right
    refine ⟨rfl, ?_⟩
    cases h2 : (H[k].what == (H[j]'(by omega)).what) with
    | false => rfl
    | true => exact absurd ⟨by simpa using h1, by simpa using h2⟩ this.2
theorem waits_once {H W : List OpV} (h : Inv H W) (k j : Nat) (hk : k < W.length) (hj : j < k) : ((W[j]'(by omega)).tx == W[k].tx) = false := by
  have := h.once
  simp only [List.append_nil] at this
  rw [List.pairwise_iff_getElem] at this
  simpa using this j k (by omega) hk hj
theorem fold_sum : ∀ (L : List OpV) (s : FreeS), (L.foldl freeStep s).H.length + (L.foldl freeStep s).left.length ≤ s.H.length + s.left.length + L.length
  | [], s => by simp
  | x :: r, s => by
    have h1 := fold_sum r (freeStep s x)
    have h2 : (freeStep s x).H.length + (freeStep s x).left.length ≤ s.H.length + s.left.length + 1 := by
      unfold freeStep
      have := holdV_len s.H x
      split <;> simp <;> omega
    simp only [List.foldl_cons, List.length_cons]
    omega
theorem free_sum (H W : List OpV) (tx : Int) : (freeV H W tx).H.length + (freeV H W tx).left.length ≤ H.length + W.length := by
  have := fold_sum (noB tx W) ⟨noB tx H, [], []⟩
  have h1 : (noB tx H).length ≤ H.length := List.length_filter_le _ _
  have h2 : (noB tx W).length ≤ W.length := List.length_filter_le _ _
  simp only [List.length_nil] at this
  unfold freeV
  omega
theorem ask_sum (H W : List OpV) (l : OpV) : (askV H W l).H.length + (askV H W l).W.length ≤ H.length + W.length + 1 := by
  have := holdV_len H l
  unfold askV
  split
  · simp
  · split
    · simp
    · split
      · simp
      · split
        · simp; omega
        · simp; omega
theorem free_of (B g : Nat) (H W : List OpV) (tx : Int) (w : World) (hT : TabOf w B g H W) (hI : Inv H W) (hB : B ≤ w.heap.size) (hH : H.length + W.length ≤ 400000) :
    Calls Try.prog 8 #[.pointer (some ⟨g, 0, none⟩), .int .i64 tx] w fun e w' => ∃ v H' W', e = .returned v ∧ TabOf w' B g H' W' ∧ Inv H' W' ∧ H'.length + W'.length ≤ H.length + W.length ∧ Below B w w' := by
  obtain ⟨v1, v2, hT, hS⟩ := hT
  cases hn : numB tx with
  | false =>
    refine (free_no g tx w hn).mono ?_
    rintro e w' ⟨he, h2⟩
    exact ⟨_, H, W, he, ⟨v1, v2, hT.new h2, hS⟩, hI, Nat.le_refl _, h2.mono hB⟩
  | true =>
    refine (free_yes g v1 v2 H W tx w hT (by omega) (by omega) hn).mono ?_
    rintro e w' ⟨v1', v2', vo, he, hT', _, hF, g1, g2, _, _⟩
    refine ⟨_, _, _, he, ⟨v1', v2', hT', fun k hk => ?_⟩, inv_free hI tx, free_sum H W tx, hF.below hB hS⟩
    rcases hk with hk | hk | hk
    · exact hS k (.inl hk)
    · rcases g1 k hk with e | e
      · exact hS k (.inr (.inl e))
      · omega
    · have := g2 k hk; omega
theorem held_of (B g : Nat) (H W : List OpV) (w : World) (hT : TabOf w B g H W) (hH : H.length + W.length ≤ 400000) :
    Calls Try.prog 9 #[.pointer (some ⟨g, 0, none⟩)] w fun e w' => ∃ A c, e = .returned (.slice A H.length c) ∧ RdO w' w'.heap.size A H ∧ TabOf w' B g H W ∧ Below w.heap.size w w' := by
  obtain ⟨v1, v2, hT, hS⟩ := hT
  refine (held_any g v1 v2 H W w hT (by omega)).mono ?_
  rintro e w' ⟨A, c, he, hR, h2⟩
  exact ⟨A, c, he, hR, ⟨v1, v2, hT.new h2, hS⟩, h2⟩
theorem waits_of (B g : Nat) (H W : List OpV) (w : World) (hT : TabOf w B g H W) (hH : H.length + W.length ≤ 400000) :
    Calls Try.prog 11 #[.pointer (some ⟨g, 0, none⟩)] w fun e w' => ∃ A c, e = .returned (.slice A W.length c) ∧ RdO w' w'.heap.size A W ∧ TabOf w' B g H W ∧ Below w.heap.size w w' := by
  obtain ⟨v1, v2, hT, hS⟩ := hT
  refine (waits_any g v1 v2 H W w hT (by omega)).mono ?_
  rintro e w' ⟨A, c, he, hR, h2⟩
  exact ⟨A, c, he, hR, ⟨v1, v2, hT.new h2, hS⟩, h2⟩
theorem TabOf.new {w w' : World} {B g : Nat} {H W : List OpV} (h : TabOf w B g H W) (hB : Below w.heap.size w w') : TabOf w' B g H W := by
  obtain ⟨v1, v2, hT, hS⟩ := h
  exact ⟨v1, v2, hT.new hB, hS⟩
theorem tabOf0 (w : World) : TabOf (w.alloc (.cells #[.slice none 0 0, .slice none 0 0] 41)) w.heap.size w.heap.size [] [] := ⟨_, _, tabNew w, fun k hk => by rcases hk with rfl | hk | hk <;> simp_all [Value.ownBlock]⟩
/-- The law's own fact: of two asked and one freed. -/
theorem fact_of (B g : Nat) (w : World) (hT : TabOf w B g [⟨1, 1, 2⟩] [⟨2, 1, 1⟩]) (hB : B ≤ w.heap.size) :
    Calls Try.prog 8 #[.pointer (some ⟨g, 0, none⟩), .int .i64 1] w fun e w' => ∃ b c, e = .returned (.tuple #[.slice (some ⟨b, 0, none⟩) 1 c, .nilIface]) ∧ w'.cell? ⟨b, 0, none⟩ = some (.int .i64 2) ∧ Below B w w' := by
  obtain ⟨v1, v2, hT, hS⟩ := hT
  refine (free_yes g v1 v2 _ _ 1 w hT (by simp) (by simp) (by decide)).mono ?_
  rintro e w' ⟨v1', v2', vo, he, _, ho, hF, _⟩
  have hv : (freeV [⟨1, 1, 2⟩] [⟨2, 1, 1⟩] 1).out = [(⟨2, 1, 1⟩ : OpV)] := by simp [freeV, noB, ofB, freeStep, okB]
  rw [hv] at ho
  obtain ⟨b, cap, hvo, _, _⟩ := ho.form (by simp)
  subst hvo
  refine ⟨b, cap, he, ?_, hF.below hB hS⟩
  rw [ho.cellAt 0 (by simp)]
  rfl
end Go.Proofs.Ytkfemodellmakaa
