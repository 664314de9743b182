/- slices.Sort, slices.Compact of numbers that the call owns. -/
import Derived.Test.YtkfemodellmakaaOwn
import Derived.Test.YtkfemodellmakaaShelf
import Derived.Lib.OwnBridge
import Derived.Sort.OwnSortedInts
namespace Go.Proofs.Ytkfemodellmakaa
open Go.RowKit Go.Sort
set_option linter.unusedSimpArgs false
set_option linter.unusedVariables false

def sortI (zs : List Int) : List Int := zs.mergeSort fun x y => decide (x ≤ y)
theorem sortI_length (zs : List Int) : (sortI zs).length = zs.length := by simp [sortI]
theorem sort_own (v : Value) (B n : Nat) (zs : List Int) (w : World) (ho : w.ownsRow B 3 1 v n (zs.map (.int .i64))) (hn : n ≤ 1000000000) :
    Calls Try.prog 19 #[v] w fun e w' => e = .returned (.tuple #[]) ∧ w'.ownsRow B 3 1 v n ((sortI zs).map (.int .i64)) ∧ Fr (fun k => v.ownBlock = some k) w w' := by
  have hl : zs.length = n := by simpa using ho.1
  rcases ho.2 with ⟨rfl, h0⟩ | ⟨g, cap, cur, rfl, hb, hg, hnc, hcm, hs, ht⟩
  · subst h0
    obtain rfl : zs = [] := List.eq_nil_of_length_eq_zero hl
    refine (Try.slices_Sort_int_none none 0 w).mono ?_
    rintro e w' ⟨rfl, rfl⟩
    exact ⟨rfl, by simpa [sortI] using ho, Fr.refl _ _⟩
  · subst hl
    refine (Try.slices_Sort_int g 0 cap zs w (holds_of_blockI hg (by simpa using ht)) (heap_lt hg) (by omega)).mono ?_
    rintro e w' ⟨rfl, q, os, rfl⟩
    exact ⟨rfl, ownsRow_sortedI (sortI_length zs) hb hg hnc hcm hs, Fr.of_grown (grownBy_sortedI _) (fun k hk => hk)⟩
theorem compact_own (v : Value) (B n : Nat) (zs : List Int) (w : World) (ho : w.ownsRow B 3 1 v n (zs.map (.int .i64))) (hn : n ≤ 1000000000) :
    Calls Try.prog 20 #[v] w fun e w' => ∃ v', e = .returned v' ∧ v'.ownBlock = v.ownBlock ∧ w'.ownsRow B 3 1 v' (Lib.compact zs).length ((Lib.compact zs).map (.int .i64)) ∧ Fr (fun k => v.ownBlock = some k) w w' := by
  have hl : zs.length = n := by simpa using ho.1
  rcases ho.2 with ⟨rfl, h0⟩ | ⟨g, cap, cur, rfl, hb, hg, hnc, hcm, hs, ht⟩
  · subst h0
    obtain rfl : zs = [] := List.eq_nil_of_length_eq_zero hl
    refine (Try.slices_Compact_int_empty none 0 w).mono ?_
    rintro e w' ⟨rfl, rfl⟩
    exact ⟨_, rfl, rfl, ⟨rfl, .inl ⟨rfl, rfl⟩⟩, Fr.refl _ _⟩
  · subst hl
    have hcl := Lib.compact_length_le zs
    refine (Try.slices_Compact_int g 0 cap zs w (holds_of_blockI hg (by simpa using ht)) (by omega) hnc).mono ?_
    rintro e w' ⟨rfl, q, rfl⟩
    refine ⟨_, rfl, rfl, ?_, ?_⟩
    · have := Lib.ownsRow_putRow (q := q) (k := (Lib.compact zs).length) (ys := Lib.compact zs ++ List.replicate (zs.length - (Lib.compact zs).length) 0) ho (by simp; omega) hcl
      rw [List.take_left] at this
      exact this
    · refine ⟨rfl, rfl, rfl, by simp [putRow, mapBlock, Sort.ahead], fun k hk hS => ?_⟩
      have : g ≠ k := fun e => hS (by rw [← e]; rfl)
      simp [putRow, mapBlock, Sort.ahead, Array.getElem?_modify, this]
end Go.Proofs.Ytkfemodellmakaa
