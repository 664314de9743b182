/- LogRefuses: the walk. -/
import Derived.Test.YtkfemodellmakaaDoorLogDo
namespace Go.Proofs.YtkfemodellmakaaDoor
open Go.RowKit
set_option linter.unusedSimpArgs false
set_option linter.unusedVariables false

theorem logDo (g : Nat) (L : LogV) (o : OpV) (w : World) (hL : LogIs w g L) (hbig : L.h.length ≤ 1000000) (hsb : L.s.length ≤ 1000000000000) :
    Calls Tryd.prog 8 #[.pointer (some ⟨g, 0, none⟩), o.agg] w fun e w' => e = .returned (errV (doV L o).2) ∧ LogIs w' g (doV L o).1 ∧ Fr (fun k => k = g) w w' := by
  cases hs : L.st with
  | true =>
    have : doV L o = (L, some 6) := by simp [doV, hs]
    rw [this]
    exact do_stopped g L o w hL hs
  | false => exact do_on g L o w hL hs hbig hsb
def log0 : LogV := ⟨[], [], 0, -1, false⟩
theorem logIs0 (w : World) : LogIs (w.alloc (logRow none 0 0 ⟨#[]⟩ 0 (-1) false)) w.heap.size log0 :=
  ⟨⟨none, 0, heap_alloc_new _ _, Rd.nil _ _ _ _ _, fun _ => rfl, (fun a ha => nomatch ha)⟩, by decide, by decide⟩
theorem LogIs.new {w w' : World} {g : Nat} {L : LogV} (h : LogIs w g L) (hB : Below w.heap.size w w') : LogIs w' g L := by
  obtain ⟨A, c, hb, hR, h1, h2⟩ := h.blk
  exact ⟨⟨A, c, (hB.block g (heap_lt hb)).trans hb, (hR.below hB).mono hB.size, h1, h2⟩, h.lo, h.hi⟩
theorem LogIs.bytes {w : World} {g : Nat} {L : LogV} (h : LogIs w g L) : Calls Tryd.prog 10 #[.pointer (some ⟨g, 0, none⟩)] w fun e w' => e = .returned (.int .i64 L.s.length) ∧ w = w' := by
  obtain ⟨A, c, hb, _⟩ := h.blk
  have := logBytes g ⟨L.s.toArray⟩ w (by rw [cell_of_row _ _ _ _ _ _ hb]; rfl)
  simpa [ByteArray.size] using this
theorem LogIs.all {w : World} {g : Nat} {L : LogV} (h : LogIs w g L) (hbig : L.h.length ≤ 1000000) : Calls Tryd.prog 11 #[.pointer (some ⟨g, 0, none⟩)] w fun e w' => ∃ A c, e = .returned (.slice A L.h.length c) ∧ RdO w' w'.heap.size A L.h ∧ Below w.heap.size w w' := by
  obtain ⟨A, c, hb, hR, h1, h2⟩ := h.blk
  refine (logAll g A c L.h w (by rw [cell_of_row _ _ _ _ _ _ hb]; rfl) (by omega) hR h1 (fun a ha => (h2 a ha).1)).mono ?_
  rintro e w' ⟨v', rfl, ho, hB⟩
  obtain ⟨A', c', rfl, hR'⟩ := ownsRow_RdO ho
  exact ⟨A', c', rfl, hR', hB⟩

theorem do_range {o : OpV} (h : rightB o = false) : doV log0 o = (log0, some 1) := by
  simp [doV, log0, checkV, checkFrom, h]
theorem rightB_of {tx what item : Int} (h1 : 1 ≤ tx) (h2 : tx ≤ 6) (hw : what = 1 ∧ 1 ≤ item ∧ item ≤ 6 ∨ what = 4 ∧ item = 0) : rightB ⟨tx, what, item⟩ = true := by
  rcases hw with ⟨rfl, h3, h4⟩ | ⟨rfl, rfl⟩
  · simp [rightB, numB, endsB]; omega
  · simp [rightB, numB, endsB]; omega
theorem lineB_len (o : OpV) : 3 ≤ (lineB o).length ∧ (lineB o).length ≤ 6 := by
  unfold lineB textL; split <;> simp
theorem do_three {tx item : Int} (h1 : 1 ≤ tx) (h2 : tx ≤ 6) (h3 : 1 ≤ item) (h4 : item ≤ 6) :
    ∃ L1 L2 : LogV, doV log0 ⟨tx, 1, item⟩ = (L1, none) ∧ doV L1 ⟨tx, 4, 0⟩ = (L2, none) ∧ doV L2 ⟨tx, 1, item⟩ = (L2, some 6) ∧ L1.h.length = 1 ∧ L1.s.length ≤ 6 ∧ L2.h.length = 2 ∧ 4 ≤ L2.s.length ∧ L2.s.length ≤ 12 := by
  have r1 := rightB_of (what := 1) h1 h2 (.inl ⟨rfl, h3, h4⟩)
  have r2 := rightB_of (what := 4) (item := 0) h1 h2 (.inr ⟨rfl, rfl⟩)
  have e1 : endsB ⟨tx, 1, item⟩ = false := by simp [endsB]
  have e2 : endsB ⟨tx, 4, 0⟩ = true := by simp [endsB]
  refine ⟨⟨[⟨tx, 1, item⟩], lineB ⟨tx, 1, item⟩, 0, -1, false⟩, ⟨[⟨tx, 1, item⟩, ⟨tx, 4, 0⟩], lineB ⟨tx, 1, item⟩ ++ lineB ⟨tx, 4, 0⟩, 0, -1, false⟩, ?_, ?_, ?_, rfl, (lineB_len _).2, rfl, ?_, ?_⟩
  · simp [doV, log0, checkV, checkFrom, r1]
    try omega
  · simp [doV, checkV, checkFrom, r1, r2, e1, updB]
    try omega
  · simp [doV, checkV, checkFrom, r1, r2, e1, e2, updB]
    try omega
  · have := lineB_len ⟨tx, 1, item⟩; have := lineB_len ⟨tx, 4, 0⟩; simp; omega
  · have := lineB_len ⟨tx, 1, item⟩; have := lineB_len ⟨tx, 4, 0⟩; simp; omega

set_option maxRecDepth 100000 in
set_option maxHeartbeats 2000000 in
theorem law_out (tx item : Int) (w : World) (hE : ErrVar w) (h : tx < 1 ∨ (1 ≤ tx ∧ 6 < tx) ∨ (1 ≤ tx ∧ tx ≤ 6 ∧ item < 1) ∨ (1 ≤ tx ∧ tx ≤ 6 ∧ 1 ≤ item ∧ 6 < item)) :
    Calls Tryd.prog 3 #[.int .i64 tx, .int .i64 item] w fun e w' => e = .returned (.bool true) ∧ Below w.heap.size w w' := by
  have hr : rightB ⟨tx, 1, item⟩ = false := by
    by_cases hn : numB tx = true
    · have := numB_true.1 hn
      have hi : numB item = false := numB_false.2 (by omega)
      simp [rightB, hn, hi, endsB]
    · simp [rightB, Bool.eq_false_iff.2 hn]
  have hd := do_range hr
  have hDo := logDo w.heap.size log0 ⟨tx, 1, item⟩ _ (logIs0 w) (by decide) (by decide)
  rw [hd] at hDo
  have HDo := Lib.hid hDo
  have HBy : Hid (∀ w1 : World, LogIs w1 w.heap.size log0 → Calls Tryd.prog 10 #[.pointer (some ⟨w.heap.size, 0, none⟩)] w1 fun e w' => e = .returned (.int .i64 0) ∧ w1 = w') := Lib.hid fun w1 h => h.bytes
  have HE := Lib.hid hE
  have n0 : 0 < w.heap.size := hE.lt
  clear hDo hd hr hE
  rcases h with h | ⟨h1, h⟩ | ⟨h1, h2, h⟩ | ⟨h1, h2, h3, h⟩
  all_goals
    go_enter Tryd.func3, Tryd.ntmps3
    go_wp2_with (first
      | (go_at_call 7; refine (logNew _).mono ?_; rintro e w' ⟨rfl, rfl⟩)
      | (go_at_call 8; refine HDo.out.mono ?_; rintro e w2 ⟨rfl, hL2, hF2⟩; have HL2 := Lib.hid hL2; have HF2 := Lib.hid hF2; clear hL2 hF2)
      | (go_at_call 9; refine (error_any (some 1) 1 true _ ((HE.out.new ((Below.refl _ w).alloc (Nat.le_refl _) _)).fr HF2.out (by omega)) rfl).mono ?_; rintro e w3 ⟨rfl, hB3⟩; have HB3 := Lib.hid hB3; clear hB3)
      | (go_at_call 10; refine (HBy.out _ (HL2.out.new HB3.out)).mono ?_; rintro e w' ⟨rfl, rfl⟩))
    go_ret
    exact ⟨rfl, ((Below.refl _ w).alloc (Nat.le_refl _) _).trans ((HF2.out.below (by simp) (by intro i hi; omega)).trans (HB3.out.mono (by have := HF2.out.size; simp at this; omega)))⟩

set_option maxRecDepth 100000 in
set_option maxHeartbeats 4000000 in
theorem law_in (tx item : Int) (w : World) (hE : ErrVar w) (h1 : 1 ≤ tx) (h2 : tx ≤ 6) (h3 : 1 ≤ item) (h4 : item ≤ 6) :
    Calls Tryd.prog 3 #[.int .i64 tx, .int .i64 item] w fun e w' => e = .returned (.bool true) ∧ Below w.heap.size w w' := by
  obtain ⟨L1, L2, d1, d2, d3, n1, n2, n3, n4, n5⟩ := do_three h1 h2 h3 h4
  have hDo1 := logDo w.heap.size log0 ⟨tx, 1, item⟩ _ (logIs0 w) (by decide) (by decide)
  rw [d1] at hDo1
  dsimp only [errV] at hDo1
  have hDo2 := fun w1 h => logDo w.heap.size L1 ⟨tx, 4, 0⟩ w1 h (by omega) (by omega)
  simp only [d2] at hDo2
  dsimp only [errV] at hDo2
  have hDo3 := fun w1 h => logDo w.heap.size L2 ⟨tx, 1, item⟩ w1 h (by omega) (by omega)
  simp only [d3] at hDo3
  have hAll := fun w1 (h : LogIs w1 w.heap.size L2) => h.all (by omega)
  rw [n3] at hAll
  have HAll := Lib.hid hAll
  have HDo1 := Lib.hid hDo1
  have HDo2 := Lib.hid hDo2
  have HDo3 := Lib.hid hDo3
  have HE := Lib.hid hE
  have n0 : 0 < w.heap.size := hE.lt
  have hk4 : (4 : Int) ≤ (L2.s.length : Int) := by omega
  have hk12 : (L2.s.length : Int) ≤ 12 := by omega
  clear hDo1 hDo2 hDo3 hAll hE d1 d2 d3 n1 n2 n3 n4 n5
  go_enter Tryd.func3, Tryd.ntmps3
  go_wp2_with (first
    | (go_at_call 7; refine (logNew _).mono ?_; rintro e w' ⟨rfl, rfl⟩)
    | (go_at_call 8; refine HDo1.out.mono ?_; rintro e w2 ⟨rfl, hL2, hF2⟩; have HL2 := Lib.hid hL2; have HF2 := Lib.hid hF2; clear hL2 hF2 HDo1)
    | (go_at_call 8; refine (HDo2.out _ HL2.out).mono ?_; rintro e w3 ⟨rfl, hL3, hF3⟩; have HL3 := Lib.hid hL3; have HF3 := Lib.hid hF3; clear hL3 hF3 HDo2)
    | (go_at_call 10; refine (HL3.out.bytes).mono ?_; rintro e w' ⟨rfl, rfl⟩; have HL4 := Lib.hid HL3.out; clear HL3)
    | (go_at_call 8; refine (HDo3.out _ HL4.out).mono ?_; rintro e w5 ⟨rfl, hL5, hF5⟩; have HL5 := Lib.hid hL5; have HF5 := Lib.hid hF5; clear hL5 hF5 HDo3 HL4)
    | (go_at_call 9; refine (error_any (some 6) 6 true _ ((((HE.out.new ((Below.refl _ w).alloc (Nat.le_refl _) _)).fr HF2.out (by omega)).fr HF3.out (by omega)).fr HF5.out (by omega)) rfl).mono ?_; rintro e w6 ⟨rfl, hB6⟩; have HB6 := Lib.hid hB6; clear hB6)
    | (go_at_call 10; refine ((HL5.out.new HB6.out).bytes).mono ?_; rintro e w' ⟨rfl, rfl⟩)
    | (go_at_call 11; refine (HAll.out _ (HL5.out.new HB6.out)).mono ?_; rintro e w7 ⟨A7, c7, rfl, hR7, hB7⟩; have HB7 := Lib.hid hB7; clear hB7 hR7))
  go_ret
  have f2 := HF2.out.size
  have f3 := HF3.out.size
  have f5 := HF5.out.size
  have f6 := HB6.out.size
  simp at f2
  exact ⟨rfl, ((Below.refl _ w).alloc (Nat.le_refl _) _).trans ((HF2.out.below (by simp) (by intro i hi; omega)).trans ((HF3.out.below (by omega) (by intro i hi; omega)).trans ((HF5.out.below (by omega) (by intro i hi; omega)).trans ((HB6.out.mono (by omega)).trans (HB7.out.mono (by omega))))))⟩
theorem logLaw_any (tx item : Int) (w : World) (hE : ErrVar w) :
    Calls Tryd.prog 3 #[.int .i64 tx, .int .i64 item] w fun e w' => e = .returned (.bool true) ∧ Below w.heap.size w w' := by
  by_cases h : 1 ≤ tx ∧ tx ≤ 6 ∧ 1 ≤ item ∧ item ≤ 6
  · exact law_in tx item w hE h.1 h.2.1 h.2.2.1 h.2.2.2
  · exact law_out tx item w hE (by omega)
end Go.Proofs.YtkfemodellmakaaDoor
