/- Slices that read as lists. Plain lemmas over any program. -/
import Derived.Test.YtkfemodellmakaaFrame
namespace Go.Proofs.Ytkfemodellmakaa
open Go.RowKit
set_option linter.unusedSimpArgs false
set_option linter.unusedVariables false

/-- The slice at A reads as the list xs, k cells an element; it lies below block B. -/
def Rd {α : Type} (enc : α → List Value) (k : Nat) (w : World) (B : Nat) (A : Option Addr) (xs : List α) : Prop :=
  0 < xs.length → ∃ b off, A = some ⟨b, off, none⟩ ∧ b < B ∧ b < w.heap.size ∧ ∀ i (h : i < xs.length) j u, (enc xs[i])[j]? = some u → w.cell? ⟨b, off + i * k + j, none⟩ = some u
section
variable {α : Type} {enc : α → List Value} {k B B' : Nat} {w w' : World} {A : Option Addr} {xs : List α}
theorem Rd.nil (enc : α → List Value) (k : Nat) (w : World) (B : Nat) (A : Option Addr) : Rd enc k w B A [] := fun h => absurd h (by simp)
theorem Rd.below (h : Rd enc k w B A xs) (hb : Below B w w') : Rd enc k w' B A xs := fun hn => by
  obtain ⟨b, off, e, h1, h2, hc⟩ := h hn
  exact ⟨b, off, e, h1, Nat.lt_of_lt_of_le h2 hb.size, fun i hi j u hu => (hb.cell (p := ⟨b, off + i * k + j, none⟩) h1).trans (hc i hi j u hu)⟩
theorem Rd.mono (h : Rd enc k w B A xs) (hB : B ≤ B') : Rd enc k w B' A xs := fun hn => by
  obtain ⟨b, off, e, h1, h2, hc⟩ := h hn
  exact ⟨b, off, e, by omega, h2, hc⟩
/-- Whatever lies there lies below the heap's end. -/
theorem Rd.size (h : Rd enc k w B A xs) : Rd enc k w w.heap.size A xs := fun hn => by
  obtain ⟨b, off, e, h1, h2, hc⟩ := h hn
  exact ⟨b, off, e, h2, h2, hc⟩
theorem Rd.at_ (h : Rd enc k w B A xs) {i : Nat} (hi : i < xs.length) : ∃ b off, A = some ⟨b, off, none⟩ ∧ b < B ∧ b < w.heap.size ∧ ∀ j u, (enc xs[i])[j]? = some u → w.cell? ⟨b, off + i * k + j, none⟩ = some u := by
  obtain ⟨b, off, e, h1, h2, hc⟩ := h (by omega)
  exact ⟨b, off, e, h1, h2, hc i hi⟩
end
/-- Numbers. -/
def encI (x : Int) : List Value := [.int .i64 x]
abbrev RdI (w : World) (B : Nat) (A : Option Addr) (xs : List Int) : Prop := Rd encI 1 w B A xs
theorem RdI.at_ {w : World} {B : Nat} {A : Option Addr} {xs : List Int} (h : RdI w B A xs) {i : Nat} (hi : i < xs.length) :
    ∃ b off, A = some ⟨b, off, none⟩ ∧ b < B ∧ b < w.heap.size ∧ w.cell? ⟨b, off + i, none⟩ = some (.int .i64 xs[i]) := by
  obtain ⟨b, off, e, h1, h2, hc⟩ := Rd.at_ h hi
  have := hc 0 _ rfl
  simp only [Nat.mul_one, Nat.add_zero] at this
  exact ⟨b, off, e, h1, h2, this⟩
/-- Slices of slices of numbers. -/
def RdSS (w : World) (B : Nat) (A : Option Addr) (xs : List (List Int)) : Prop :=
  0 < xs.length → ∃ b off, A = some ⟨b, off, none⟩ ∧ b < B ∧ b < w.heap.size ∧ ∀ i (h : i < xs.length), ∃ A' c', w.cell? ⟨b, off + i, none⟩ = some (.slice A' xs[i].length c') ∧ RdI w B A' xs[i]
theorem RdSS.below {w w' : World} {B : Nat} {A : Option Addr} {xs : List (List Int)} (h : RdSS w B A xs) (hb : Below B w w') : RdSS w' B A xs := fun hn => by
  obtain ⟨b, off, e, h1, h2, hc⟩ := h hn
  refine ⟨b, off, e, h1, Nat.lt_of_lt_of_le h2 hb.size, fun i hi => ?_⟩
  obtain ⟨A', c', g1, g2⟩ := hc i hi
  exact ⟨A', c', (hb.cell (p := ⟨b, off + i, none⟩) h1).trans g1, g2.below hb⟩
theorem RdSS.at_ {w : World} {B : Nat} {A : Option Addr} {xs : List (List Int)} (h : RdSS w B A xs) {i : Nat} (hi : i < xs.length) :
    ∃ b off A' c', A = some ⟨b, off, none⟩ ∧ b < B ∧ w.cell? ⟨b, off + i, none⟩ = some (.slice A' xs[i].length c') ∧ RdI w B A' xs[i] := by
  obtain ⟨b, off, e, h1, h2, hc⟩ := h (by omega)
  obtain ⟨A', c', g1, g2⟩ := hc i hi
  exact ⟨b, off, A', c', e, h1, g1, g2⟩
end Go.Proofs.Ytkfemodellmakaa
