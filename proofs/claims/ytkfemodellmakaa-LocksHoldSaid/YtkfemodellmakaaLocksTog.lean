/- LocksTogether: shared locks are all held; one alone waits for all, and who comes behind it waits for it. The walk. -/
import Derived.Test.YtkfemodellmakaaFor
namespace Go.Proofs.Ytkfemodellmakaa
open Go.RowKit
set_option linter.unusedSimpArgs false
set_option linter.unusedVariables false

theorem locksNew (w : World) : Calls Try.prog 5 #[] w fun e w' => e = .returned (.pointer (some ⟨w.heap.size, 0, none⟩)) ∧ w.alloc (.cells #[.slice none 0 0, .slice none 0 0] 41) = w' := by
  go_enter Try.func5, Try.ntmps5
  go_wp2
  go_ret
  exact ⟨rfl, rfl⟩
theorem tabNew (w : World) : TabIs 41 (w.alloc (.cells #[.slice none 0 0, .slice none 0 0] 41)) w.heap.size (.slice none 0 0) (.slice none 0 0) [] [] :=
  ⟨heap_alloc_new _ _, ⟨rfl, .inl ⟨rfl, rfl⟩⟩, ⟨rfl, .inl ⟨rfl, rfl⟩⟩, (fun k hk => by simp [Value.ownBlock] at hk)⟩

/-- A table at g, all of it from block B on. -/
def TabOf (w : World) (B g : Nat) (H W : List OpV) : Prop := ∃ v1 v2, TabIs 41 w g v1 v2 H W ∧ ∀ k, (k = g ∨ v1.ownBlock = some k ∨ v2.ownBlock = some k) → B ≤ k
theorem ask_of (B g : Nat) (H W : List OpV) (l : OpV) (w : World) (hT : TabOf w B g H W) (hB : B ≤ w.heap.size) (hH : H.length ≤ 1000000) (hW : W.length ≤ 1000000) :
    Calls Try.prog 6 #[.pointer (some ⟨g, 0, none⟩), l.agg] w fun e w' => e = .returned (.tuple #[.bool (askV H W l).is, errV (askV H W l).e]) ∧ TabOf w' B g (askV H W l).H (askV H W l).W ∧ Below B w w' := by
  obtain ⟨v1, v2, hT, hS⟩ := hT
  by_cases hr : lrightB l = true ∧ W.any (ofB l.tx) = false
  · refine (ask_yes g v1 v2 H W l w hT hH hW hr.1 hr.2).mono ?_
    rintro e w' ⟨he, v1', v2', hT', hF, g1, g2⟩
    refine ⟨he, ⟨v1', v2', hT', fun k hk => ?_⟩, hF.below hB hS⟩
    rcases hk with hk | hk | hk
    · exact hS k (.inl hk)
    · rcases g1 with e | ⟨j, e, h1, _⟩
      · exact hS k (.inr (.inl (e ▸ hk)))
      · rw [e] at hk; cases hk; omega
    · rcases g2 with e | ⟨j, e, h1, _⟩
      · exact hS k (.inr (.inr (e ▸ hk)))
      · rw [e] at hk; cases hk; omega
  · have hr' : lrightB l = false ∨ (lrightB l = true ∧ W.any (ofB l.tx) = true) := by
      cases h1 : lrightB l <;> cases h2 : W.any (ofB l.tx) <;> simp_all
    have he : (askV H W l).H = H ∧ (askV H W l).W = W := by
      rcases hr' with h | ⟨h, h'⟩
      · simp [askV, h]
      · rw [askV, if_neg (by simp [h]), if_pos h']; exact ⟨rfl, rfl⟩
    refine (ask_no g v1 v2 H W l w hT hW hr').mono ?_
    rintro e w' ⟨h1, h2⟩
    rw [he.1, he.2]
    exact ⟨h1, ⟨v1, v2, hT.new h2, hS⟩, h2.mono hB⟩
theorem for_of (B g : Nat) (H W : List OpV) (l : OpV) (w : World) (hT : TabOf w B g H W) (hB : B ≤ w.heap.size) (hH : H.length ≤ 1000000) (hW : W.length ≤ 1000000) (hr : lrightB l = true) :
    Calls Try.prog 7 #[.pointer (some ⟨g, 0, none⟩), l.agg] w fun e w' => ∃ A c, e = .returned (.tuple #[.slice A (forV H W l).length c, .nilIface]) ∧ RdI w' w'.heap.size A (forV H W l) ∧ TabOf w' B g H W ∧ Below w.heap.size w w' := by
  obtain ⟨v1, v2, hT, hS⟩ := hT
  refine (for_yes g v1 v2 H W l w hT hH hW hr).mono ?_
  rintro e w' ⟨v, rfl, ho, h2⟩
  obtain ⟨A, c, rfl, _, _⟩ := own_slice ho
  refine ⟨A, c, rfl, fun hn => ?_, ⟨v1, v2, hT.new h2, hS⟩, h2⟩
  obtain ⟨g', cap, hv, _, hlt⟩ := ho.form hn
  cases hv
  refine ⟨g', 0, rfl, hlt, hlt, fun i hi j u hu => ?_⟩
  have hj : j = 0 := by have := (List.getElem?_eq_some_iff.1 hu).1; simp [encI] at this; exact this
  subst hj
  have hu' : Value.int .i64 (forV H W l)[i] = u := by simpa [encI] using hu
  have := ho.cellAt i (by omega)
  rw [show 0 + i * 1 + 0 = i by omega, this, List.getElem?_map, List.getElem?_eq_getElem hi, ← hu']
  rfl

/-- The locks of the first i deals, shared. -/
def sh (item : Int) (i : Nat) : List OpV := (List.range i).map fun (k : Nat) => ⟨(k : Int) + 1, item, 1⟩
theorem sh_len (item : Int) (i : Nat) : (sh item i).length = i := by simp [sh]
theorem ask_sh (item : Int) (i : Nat) (hi : i < 4) (h1 : 1 ≤ item) (h2 : item ≤ 6) : askV (sh item i) [] ⟨(i : Int) + 1, item, 1⟩ = ⟨sh item (i + 1), [], true, none⟩ := by
  have hr : lrightB ⟨(i : Int) + 1, item, 1⟩ = true := by simp [lrightB]; omega
  have : i = 0 ∨ i = 1 ∨ i = 2 ∨ i = 3 := by omega
  rcases this with rfl | rfl | rfl | rfl <;> (simp [askV, sh, heldB, okB, oddsB, holdV, atB, List.range_succ, List.findIdx?_cons]; simpa using hr)
theorem ask_alone (item : Int) (n : Nat) (h0 : 0 < n) (hn : n ≤ 4) (h1 : 1 ≤ item) (h2 : item ≤ 6) : askV (sh item n) [] ⟨5, item, 2⟩ = ⟨sh item n, [⟨5, item, 2⟩], false, none⟩ := by
  have hr : lrightB ⟨5, item, 2⟩ = true := by simp [lrightB]; omega
  have : n = 1 ∨ n = 2 ∨ n = 3 ∨ n = 4 := by omega
  rcases this with rfl | rfl | rfl | rfl <;> simp [askV, hr, sh, heldB, okB, oddsB, holdV, atB, List.range_succ, List.findIdx?_cons]
theorem ask_behind (item : Int) (n : Nat) (h0 : 0 < n) (hn : n ≤ 4) (h1 : 1 ≤ item) (h2 : item ≤ 6) : askV (sh item n) [⟨5, item, 2⟩] ⟨6, item, 1⟩ = ⟨sh item n, [⟨5, item, 2⟩, ⟨6, item, 1⟩], false, none⟩ := by
  have hr : lrightB ⟨6, item, 1⟩ = true := by simp [lrightB]; omega
  have : n = 1 ∨ n = 2 ∨ n = 3 ∨ n = 4 := by omega
  rcases this with rfl | rfl | rfl | rfl <;> simp [askV, hr, sh, heldB, okB, oddsB, holdV, atB, ofB, List.range_succ, List.findIdx?_cons]
theorem sortI_id (l : List Int) (h : l.Pairwise fun a b => decide (a ≤ b) = true) : sortI l = l := List.mergeSort_of_pairwise h
theorem for_alone (item : Int) (n : Nat) (h0 : 0 < n) (hn : n ≤ 4) : (forV (sh item n) [⟨5, item, 2⟩, ⟨6, item, 1⟩] ⟨5, item, 2⟩).length = n := by
  have : n = 1 ∨ n = 2 ∨ n = 3 ∨ n = 4 := by omega
  rcases this with rfl | rfl | rfl | rfl <;> simp [forV, whoV, aheadV, sh, oddsB, ofB, List.range_succ, List.findIdx?_cons] <;> rw [sortI_id _ (by decide)] <;> decide +kernel
theorem for_behind (item : Int) (n : Nat) (h0 : 0 < n) (hn : n ≤ 4) : forV (sh item n) [⟨5, item, 2⟩, ⟨6, item, 1⟩] ⟨6, item, 1⟩ = [5] := by
  have : n = 1 ∨ n = 2 ∨ n = 3 ∨ n = 4 := by omega
  rcases this with rfl | rfl | rfl | rfl <;> simp [forV, whoV, aheadV, sh, oddsB, ofB, List.range_succ, List.findIdx?_cons] <;> rw [sortI_id _ (by decide)] <;> decide +kernel

set_option maxRecDepth 100000 in
set_option maxHeartbeats 2000000 in
theorem tog_out (n item : Int) (w : World) (h : n < 1 ∨ (1 ≤ n ∧ 4 < n) ∨ (1 ≤ n ∧ n ≤ 4 ∧ item < 1) ∨ (1 ≤ n ∧ n ≤ 4 ∧ 1 ≤ item ∧ 6 < item)) :
    Calls Try.prog 3 #[.int .i64 n, .int .i64 item] w fun e w' => e = .returned (.bool true) ∧ Below w.heap.size w w' := by
  rcases h with h | ⟨h1, h⟩ | ⟨h1, h2, h⟩ | ⟨h1, h2, h3, h⟩
  all_goals
    go_enter Try.func3, Try.ntmps3
    go_wp2
    go_ret
    exact ⟨rfl, Below.refl _ _⟩
set_option maxRecDepth 100000 in
set_option maxHeartbeats 4000000 in
theorem tog_in (n : Nat) (item : Int) (w : World) (h0 : 0 < n) (h4 : n ≤ 4) (h1 : 1 ≤ item) (h6 : item ≤ 6) :
    Calls Try.prog 3 #[.int .i64 n, .int .i64 item] w fun e w' => e = .returned (.bool true) ∧ Below w.heap.size w w' := by
  have n1 : (1 : Int) ≤ (n : Int) := by omega
  have n4 : (n : Int) ≤ 4 := by omega
  have hT0 : TabOf (w.alloc (.cells #[.slice none 0 0, .slice none 0 0] 41)) w.heap.size w.heap.size [] [] := ⟨_, _, tabNew w, fun k hk => by rcases hk with rfl | hk | hk <;> simp_all [Value.ownBlock]⟩
  have HT0 := Lib.hid hT0
  have H1 : Hid (∀ (w1 : World) (i : Nat), i < 4 → TabOf w1 w.heap.size w.heap.size (sh item i) [] → w.heap.size ≤ w1.heap.size → Calls Try.prog 6 #[.pointer (some ⟨w.heap.size, 0, none⟩), (⟨(i : Int) + 1, item, 1⟩ : OpV).agg] w1 fun e w' => e = .returned (.tuple #[.bool true, .nilIface]) ∧ TabOf w' w.heap.size w.heap.size (sh item (i + 1)) [] ∧ Below w.heap.size w1 w') := Lib.hid fun w1 i hi hT hB => by
    have := ask_of w.heap.size w.heap.size (sh item i) [] ⟨(i : Int) + 1, item, 1⟩ w1 hT hB (by rw [sh_len]; omega) (by simp)
    rw [ask_sh item i hi h1 h6] at this
    exact this
  have H2 : Hid (∀ (w1 : World), TabOf w1 w.heap.size w.heap.size (sh item n) [] → w.heap.size ≤ w1.heap.size → Calls Try.prog 6 #[.pointer (some ⟨w.heap.size, 0, none⟩), (⟨5, item, 2⟩ : OpV).agg] w1 fun e w' => e = .returned (.tuple #[.bool false, .nilIface]) ∧ TabOf w' w.heap.size w.heap.size (sh item n) [⟨5, item, 2⟩] ∧ Below w.heap.size w1 w') := Lib.hid fun w1 hT hB => by
    have := ask_of w.heap.size w.heap.size (sh item n) [] ⟨5, item, 2⟩ w1 hT hB (by rw [sh_len]; omega) (by simp)
    rw [ask_alone item n h0 h4 h1 h6] at this
    exact this
  have H3 : Hid (∀ (w1 : World), TabOf w1 w.heap.size w.heap.size (sh item n) [⟨5, item, 2⟩] → w.heap.size ≤ w1.heap.size → Calls Try.prog 6 #[.pointer (some ⟨w.heap.size, 0, none⟩), (⟨6, item, 1⟩ : OpV).agg] w1 fun e w' => e = .returned (.tuple #[.bool false, .nilIface]) ∧ TabOf w' w.heap.size w.heap.size (sh item n) [⟨5, item, 2⟩, ⟨6, item, 1⟩] ∧ Below w.heap.size w1 w') := Lib.hid fun w1 hT hB => by
    have := ask_of w.heap.size w.heap.size (sh item n) [⟨5, item, 2⟩] ⟨6, item, 1⟩ w1 hT hB (by rw [sh_len]; omega) (by simp)
    rw [ask_behind item n h0 h4 h1 h6] at this
    exact this
  have H4 : Hid (∀ (w1 : World), TabOf w1 w.heap.size w.heap.size (sh item n) [⟨5, item, 2⟩, ⟨6, item, 1⟩] → w.heap.size ≤ w1.heap.size → Calls Try.prog 7 #[.pointer (some ⟨w.heap.size, 0, none⟩), (⟨5, item, 2⟩ : OpV).agg] w1 fun e w' => ∃ A c, e = .returned (.tuple #[.slice A n c, .nilIface]) ∧ TabOf w' w.heap.size w.heap.size (sh item n) [⟨5, item, 2⟩, ⟨6, item, 1⟩] ∧ Below w1.heap.size w1 w') := Lib.hid fun w1 hT hB => by
    refine (for_of w.heap.size w.heap.size (sh item n) _ ⟨5, item, 2⟩ w1 hT hB (by rw [sh_len]; omega) (by simp) (by simp [lrightB]; omega)).mono ?_
    rintro e w' ⟨A, c, he, _, hT', hB'⟩
    rw [for_alone item n h0 h4] at he
    exact ⟨A, c, he, hT', hB'⟩
  have H5 : Hid (∀ (w1 : World), TabOf w1 w.heap.size w.heap.size (sh item n) [⟨5, item, 2⟩, ⟨6, item, 1⟩] → w.heap.size ≤ w1.heap.size → Calls Try.prog 7 #[.pointer (some ⟨w.heap.size, 0, none⟩), (⟨6, item, 1⟩ : OpV).agg] w1 fun e w' => ∃ b off c, e = .returned (.tuple #[.slice (some ⟨b, off, none⟩) 1 c, .nilIface]) ∧ w'.cell? ⟨b, off, none⟩ = some (.int .i64 5) ∧ Below w1.heap.size w1 w') := Lib.hid fun w1 hT hB => by
    refine (for_of w.heap.size w.heap.size (sh item n) _ ⟨6, item, 1⟩ w1 hT hB (by rw [sh_len]; omega) (by simp) (by simp [lrightB]; omega)).mono ?_
    rintro e w' ⟨A, c, he, hR, _, hB'⟩
    rw [for_behind item n h0 h4] at he hR
    obtain ⟨b, off, rfl, _, _, hc⟩ := RdI.at_ (i := 0) hR (by simp)
    exact ⟨b, off, c, he, hc, hB'⟩
  clear hT0 h0 h4
  go_enter Try.func3, Try.ntmps3
  go_wp2_with (go_at_call 5; refine (locksNew _).mono ?_; rintro e w' ⟨rfl, rfl⟩)
  go_loopg [6] n (fun k s6 wx => ∃ i : Nat, i + k = n ∧ s6 = .int .i64 ((i : Int) + 1) ∧ TabOf wx w.heap.size w.heap.size (sh item i) [] ∧ Below w.heap.size w wx)
  case atStart => exact ⟨0, by omega, rfl, HT0.out, (Below.refl _ w).alloc (Nat.le_refl _) _⟩
  case round =>
    obtain ⟨i, hk, rfl, hT, hB⟩ := hrel
    have HT := Lib.hid hT
    have HB := Lib.hid hB
    have hsz := hB.size
    clear hT hB
    by_cases hi : i < n
    · have j1 : (i : Int) + 1 ≤ (n : Int) := by omega
      go_wp2_with (go_at_call 6; refine (H1.out _ i (by omega) HT.out hsz).mono ?_; rintro e w2 ⟨rfl, hT2, hB2⟩; have HT2 := Lib.hid hT2; have HB2 := Lib.hid hB2; clear hT2 hB2)
      go_roundg (gk - 1)
      case measure => omega
      case rel => exact ⟨i + 1, by omega, by go_num, HT2.out, HB.out.trans HB2.out⟩
    · obtain rfl : i = n := by omega
      go_wp2_with (first
        | (go_at_call 6; refine (H2.out _ HT.out hsz).mono ?_; rintro e w2 ⟨rfl, hT2, hB2⟩; have hs2 := hB2.size; have HT2 := Lib.hid hT2; have HB2 := Lib.hid hB2; clear hT2 hB2 H2)
        | (go_at_call 6; refine (H3.out _ HT2.out (by omega)).mono ?_; rintro e w3 ⟨rfl, hT3, hB3⟩; have hs3 := hB3.size; have HT3 := Lib.hid hT3; have HB3 := Lib.hid hB3; clear hT3 hB3)
        | (go_at_call 7; refine (H4.out _ HT3.out (by omega)).mono ?_; rintro e w4 ⟨A4, c4, rfl, hT4, hB4⟩; have hs4 := hB4.size; have HT4 := Lib.hid hT4; have HB4 := Lib.hid hB4; clear hT4 hB4 H4)
        | (go_at_call 7; refine (H5.out _ HT4.out (by omega)).mono ?_; rintro e w5 ⟨b5, off5, c5, rfl, hc5, hB5⟩; have HB5 := Lib.hid hB5; clear hB5))
      go_ret
      exact ⟨rfl, HB.out.trans (HB2.out.trans (HB3.out.trans ((HB4.out.mono (by omega)).trans (HB5.out.mono (by omega)))))⟩
theorem tog_any (n item : Int) (w : World) :
    Calls Try.prog 3 #[.int .i64 n, .int .i64 item] w fun e w' => e = .returned (.bool true) ∧ Below w.heap.size w w' := by
  by_cases h : 1 ≤ n ∧ n ≤ 4 ∧ 1 ≤ item ∧ item ≤ 6
  · obtain ⟨m, rfl⟩ := Int.eq_ofNat_of_zero_le (show 0 ≤ n by omega)
    exact tog_in m item w (by omega) (by omega) h.2.2.1 h.2.2.2
  · exact tog_out n item w (by omega)
end Go.Proofs.Ytkfemodellmakaa
