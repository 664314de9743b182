/- Arguments opened: []api.Lock, []int. -/
import Derived.Test.YtkfemodellmakaaPost
import Derived.Test.YtkfemodellmakaaTri
import Derived.Deep.Slices
import Derived.Deep.Strs
import Derived.Deep.Fields
import Derived.ChangeSame
import Derived.ChangeSlices
namespace Go.Proofs.Ytkfemodellmakaa
open Go.ChangeShapes Go.WideShapes Go.ChangeAt Go.RowKit
set_option linter.unusedSimpArgs false
set_option linter.unusedVariables false

theorem rdI_of_trod {H : Type} {enc : TypeId × Value → H} {W : World} {a0 : Option Addr} {len cap : Nat} {d : DataW H} {p : List MemPlace} (h : DataW.Trod enc Try.prog W 0 (fun _ => true) true 30 (.slice a0 len cap) d p) :
    ∃ l : List Int, l.length = len ∧ l.length ≤ 9223372036854775807 ∧ RdI W W.heap.size a0 l := by
  obtain ⟨fuel, hf⟩ := h
  have hmx : maxLen ≤ 9223372036854775807 := by decide
  rcases open_ints Try.underlying30 Try.underlying3 (by kernel_rfl) hf with ⟨hcs0, _⟩ | ⟨a, len', cap', zs, hcs0, _, hl, hm, hz, hx, hcell, _⟩
  · simp [Value.cells] at hcs0
    obtain ⟨rfl, rfl, rfl⟩ := hcs0
    exact ⟨[], rfl, by simp, Rd.nil _ _ _ _ _⟩
  · simp [Value.cells] at hcs0
    obtain ⟨rfl, rfl, rfl⟩ := hcs0
    simp only [if_true] at hz
    refine ⟨zs.take len, by simp; omega, by simp; omega, fun hn => ?_⟩
    simp at hn
    obtain ⟨b, off, spot⟩ := a
    have hspot : spot = none := by simpa [Addr.add] using World.cell?_spot (hcell 0 (by omega))
    subst hspot
    have hb : b < W.heap.size := by simpa [Addr.add] using World.block_lt_of_cell? _ _ (hcell 0 (by omega))
    refine ⟨b, off, rfl, hb, hb, fun i hi j u hu => ?_⟩
    simp at hi
    have hj : j = 0 := by have := (List.getElem?_eq_some_iff.1 hu).1; simp [encI] at this; exact this
    subst hj
    have hc := hcell i (by omega)
    rw [addr_plain] at hc
    rw [show off + i * 1 + 0 = off + i by omega, hc]
    simp [encI] at hu
    rw [← hu]
    simp [List.getD, List.getElem?_eq_getElem (show i < zs.length by omega)]

theorem rdL_of_trod {H : Type} {enc : TypeId × Value → H} {W : World} {a0 : Option Addr} {len cap : Nat} {d : DataW H} {p : List MemPlace} (h : DataW.Trod enc Try.prog W 0 (fun _ => true) true 34 (.slice a0 len cap) d p) :
    ∃ l : List OpV, l.length = len ∧ l.length ≤ 9223372036854775807 ∧ RdO W W.heap.size a0 l := by
  obtain ⟨fuel, hf⟩ := h
  have hmx : maxLen ≤ 9223372036854775807 := by decide
  have hC : Try.prog.cellsOf 29 = 3 := by kernel_rfl
  have hC1 : Try.prog.cellsOf 3 = 1 := by kernel_rfl
  rcases Deep.open_slice Try.underlying34 hf with ⟨hcs0, _⟩ | ⟨a, len', cap', m, n, D, Pl, hcs0, _, hl, hm, hmm, hx, hi⟩
  · simp [Value.cells] at hcs0
    obtain ⟨rfl, rfl, rfl⟩ := hcs0
    exact ⟨[], rfl, by simp, Rd.nil _ _ _ _ _⟩
  · simp [Value.cells] at hcs0
    obtain ⟨rfl, rfl, rfl⟩ := hcs0
    simp only [if_true] at hmm
    subst hmm
    have each : ∀ i, i < len → ∃ o : OpV, ∀ j u, (encO o)[j]? = some u → W.cell? ((a.add (i * 3)).add j) = some u := by
      intro i hil
      obtain ⟨cs', hc, ht⟩ := hi i (by omega)
      rw [hC] at hc
      obtain ⟨_, hcl, hat⟩ := World.cells?_some hc
      obtain ⟨y0, y1, y2, n', _, _, t0, t1, t2⟩ := Deep.trod_struct3 Try.underlying29 ht
      simp only [hC1] at t0 t1 t2
      obtain ⟨x0, e0, _⟩ := DataW.trod_int Try.underlying3 t0
      obtain ⟨x1, e1, _⟩ := DataW.trod_int Try.underlying3 t1
      obtain ⟨x2, e2, _⟩ := DataW.trod_int Try.underlying3 t2
      refine ⟨⟨x0, x1, x2⟩, fun j u hu => ?_⟩
      have hj : j < 3 := (List.getElem?_eq_some_iff.1 hu).1
      rw [hat j hj]
      match cs', hcl with
      | [z0, z1, z2], _ =>
        simp at e0 e1 e2
        subst e0 e1 e2
        exact hu
    obtain ⟨f, hf'⟩ : ∃ f : Nat → OpV, ∀ i, i < len → ∀ j u, (encO (f i))[j]? = some u → W.cell? ((a.add (i * 3)).add j) = some u := by
      refine ⟨fun i => if h : i < len then Classical.choose (each i h) else ⟨0, 0, 0⟩, fun i h => ?_⟩
      simp only [dif_pos h]
      exact Classical.choose_spec (each i h)
    refine ⟨(List.range len).map f, by simp, by simp; omega, fun hn => ?_⟩
    simp at hn
    obtain ⟨b, off, spot⟩ := a
    have h00 := hf' 0 hn 0 _ rfl
    have hspot : spot = none := by simpa [Addr.add] using World.cell?_spot h00
    subst hspot
    have hb : b < W.heap.size := by simpa [Addr.add] using World.block_lt_of_cell? _ _ h00
    refine ⟨b, off, rfl, hb, hb, fun i hi' j u hu => ?_⟩
    simp at hi'
    have := hf' i hi' j u (by simpa using hu)
    rw [addr_plain, addr_plain] at this
    exact this
end Go.Proofs.Ytkfemodellmakaa
