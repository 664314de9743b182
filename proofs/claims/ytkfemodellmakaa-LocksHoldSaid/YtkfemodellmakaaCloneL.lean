/- slices.Clone at []api.Lock. -/
import Derived.Test.YtkfemodellmakaaOwn
import Derived.Test.YtkfemodellmakaaHold
import Derived.Lib.Walk
import Derived.Lib.SliceRun
import Derived.Laws.AppendOwn
import Derived.OwnWalk
namespace Go.Proofs.Ytkfemodellmakaa
open Go.RowKit
set_option linter.unusedSimpArgs false
set_option linter.unusedVariables false
set_option maxRecDepth 100000 in
theorem cloneL_nil (n c : Nat) (w : World) :
    Calls Try.prog 24 #[.slice none n c] w fun e w' => e = .returned (.slice none 0 0) ∧ w' = w := by
  have q : ∀ (w : World) (a : Option Addr) (n c n' c' : Nat), (binOp .eql 34 (.slice a n c) (.slice none n' c')).run Try.prog w = .ok (.bool a.isNone) w := fun w a n c n' c' => Lib.run_eql_slice_nil w _ _ a n c n' c' Try.underlying34
  go_enter Try.func24, Try.ntmps24
  go_wp2
  go_ret
  exact ⟨rfl, rfl⟩

set_option maxHeartbeats 2000000 in
set_option maxRecDepth 100000 in
theorem cloneL_some (b off c : Nat) (h : List OpV) (w : World) (hbig : h.length * 24 ≤ 140737488355328) (hR : RdO w w.heap.size (some ⟨b, off, none⟩) h) :
    Calls Try.prog 24 #[.slice (some ⟨b, off, none⟩) h.length c] w fun e w' => ∃ v', e = .returned v' ∧ w'.ownsRow w.heap.size 29 3 v' h.length (flatO h) ∧ Below w.heap.size w w' := by
  obtain ⟨i0, hi, hz0, hz1, hz2⟩ := info_parts inf1Lock
  have q : ∀ (w : World) (a : Option Addr) (n c n' c' : Nat), (binOp .eql 34 (.slice a n c) (.slice none n' c')).run Try.prog w = .ok (.bool a.isNone) w := fun w a n c n' c' => Lib.run_eql_slice_nil w _ _ a n c n' c' Try.underlying34
  have HR := Lib.hid hR
  clear hR
  go_enter Try.func24, Try.ntmps24
  go_wp2_with (at_builtin; refine wpList_append_own _ rfl _ _ 34 rfl w.heap.size 29 i0 (.agg #[.int .i64 0, .int .i64 0, .int .i64 0]) 3 24 Try.underlying34 hi hz0 hz1 hz2 rfl (by decide) _ _ _ rfl (World.ownsRow_made w #[] 0 (Nat.le_refl _) (Nat.zero_le _) rfl) ⟨b, off, none⟩ h.length c (flatO h) rfl ?qc1 ?qc2 ?qc3 ?qc4 ?qc5 ?qc6 ?_)
  case qc1 => exact flatO_length h
  case qc2 =>
    intro j u hj
    rw [Addr.add_lit]
    exact Lib.cell?_alloc_some _ (HR.out.flat j u hj)
  case qc3 => exact encO_one h
  case qc4 => unfold maxLen; omega
  case qc5 => omega
  case qc6 => simp
  intro v' w1 hown hgrow hnil
  go_wp2
  go_ret
  exact ⟨v', rfl, by simpa using hown, ((Below.refl _ w).alloc (Nat.le_refl _) _).grown hgrow (by simp) (by intro k hk; simp [Value.ownBlock] at hk; omega)⟩


theorem cloneL_own (v : Value) (n : Nat) (l : List OpV) (w : World) (B : Nat) (ho : w.ownsRow B 29 3 v n (flatO l)) (hbig : n ≤ 1000000) :
    Calls Try.prog 24 #[v] w fun e w' => ∃ A c, e = .returned (.slice A l.length c) ∧ RdO w' w'.heap.size A l ∧ Below w.heap.size w w' := by
  have hl : l.length = n := by have := ho.1; rw [flatO_length] at this; omega
  subst hl
  obtain ⟨A, c, rfl, hA, hA'⟩ := own_slice ho
  cases A with
  | none =>
    have hl0 : l = [] := List.eq_nil_of_length_eq_zero (hA rfl)
    refine (cloneL_nil _ c w).mono ?_
    rintro e w' ⟨rfl, rfl⟩
    rw [hl0]
    exact ⟨none, 0, rfl, Rd.nil _ _ _ _ _, Below.refl _ _⟩
  | some a =>
    obtain ⟨b, off, sp⟩ := a
    obtain rfl : sp = none := (hA' _ rfl).1
    refine (cloneL_some b off c l w (by omega) (of_own3 ho)).mono ?_
    rintro e w' ⟨v', rfl, ho', hB⟩
    obtain ⟨A', c', rfl, _, _⟩ := own_slice ho'
    exact ⟨A', c', rfl, of_own3 ho', hB⟩
theorem held_any (g : Nat) (v1 v2 : Value) (H W : List OpV) (w : World) (hT : TabIs 41 w g v1 v2 H W) (hH : H.length ≤ 1000000) :
    Calls Try.prog 9 #[.pointer (some ⟨g, 0, none⟩)] w fun e w' => ∃ A c, e = .returned (.slice A H.length c) ∧ RdO w' w'.heap.size A H ∧ Below w.heap.size w w' := by
  have c0 : w.cell? ⟨g, 0, none⟩ = some v1 := by rw [cell_of_row w g _ _ _ _ hT.blk]; rfl
  have HC := Lib.hid (cloneL_own v1 _ H w 0 hT.o1 hH)
  obtain ⟨A, c, rfl, _, _⟩ := own_slice hT.o1
  clear hT
  go_enter Try.func9, Try.ntmps9
  go_wp2_with (go_at_call 24; refine HC.out.mono ?_; rintro e w2 ⟨A2, c2, rfl, hR2, hB2⟩; have HR2 := Lib.hid hR2; have HB2 := Lib.hid hB2; clear hR2 hB2)
  go_ret
  exact ⟨_, _, rfl, HR2.out, HB2.out⟩
theorem waits_any (g : Nat) (v1 v2 : Value) (H W : List OpV) (w : World) (hT : TabIs 41 w g v1 v2 H W) (hW : W.length ≤ 1000000) :
    Calls Try.prog 11 #[.pointer (some ⟨g, 0, none⟩)] w fun e w' => ∃ A c, e = .returned (.slice A W.length c) ∧ RdO w' w'.heap.size A W ∧ Below w.heap.size w w' := by
  have c0 : w.cell? ⟨g, 1, none⟩ = some v2 := by rw [cell_of_row w g _ _ _ _ hT.blk]; rfl
  have HC := Lib.hid (cloneL_own v2 _ W w 0 hT.o2 hW)
  obtain ⟨A, c, rfl, _, _⟩ := own_slice hT.o2
  clear hT
  go_enter Try.func11, Try.ntmps11
  go_wp2_with (go_at_call 24; refine HC.out.mono ?_; rintro e w2 ⟨A2, c2, rfl, hR2, hB2⟩; have HR2 := Lib.hid hR2; have HB2 := Lib.hid hB2; clear hR2 hB2)
  go_ret
  exact ⟨_, _, rfl, HR2.out, HB2.out⟩
end Go.Proofs.Ytkfemodellmakaa
