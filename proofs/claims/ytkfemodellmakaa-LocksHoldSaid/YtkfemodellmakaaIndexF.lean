/- slices.IndexFunc, ContainsFunc at []api.Lock. -/
import Derived.Test.YtkfemodellmakaaLocks
import Derived.Test.YtkfemodellmakaaOwn
namespace Go.Proofs.Ytkfemodellmakaa
open Go.RowKit
set_option linter.unusedSimpArgs false
set_option linter.unusedVariables false

def idxV (p : OpV → Bool) (l : List OpV) : Int := match l.findIdx? p with | some i => (i : Int) | none => -1
/-- A function value that tells p of a triple. -/
structure Pred (F : FuncId) (cap : Array Value) (p : OpV → Bool) (w : World) : Prop where
  ent : ∀ args w, (callFunc F args).run Try.prog w = .ok (.enter F args) w
  tells : ∀ (x : OpV) (w1 : World), Below w.heap.size w w1 → Calls Try.prog F (#[x.agg] ++ cap) w1 fun e w2 => e = .returned (.bool (p x)) ∧ Below w1.heap.size w1 w2

theorem idxV_go (p : OpV → Bool) (l : List OpV) (i : Nat) (hi : i < l.length) (hn : ∀ o ∈ l.take i, p o = false) (hp : p l[i] = true) : idxV p l = i := by
  have : l.findIdx? p = some i := by
    rw [List.findIdx?_eq_some_iff_getElem]
    refine ⟨hi, hp, fun j hj => ?_⟩
    have := hn l[j] (by rw [List.mem_take_iff_getElem]; exact ⟨j, by omega, rfl⟩)
    simp [this]
  simp [idxV, this]
theorem idxV_none (p : OpV → Bool) (l : List OpV) (hn : ∀ o ∈ l, p o = false) : idxV p l = -1 := by
  have : l.findIdx? p = none := by rw [List.findIdx?_eq_none_iff]; intro x hx; exact hn x hx
  simp [idxV, this]

set_option maxRecDepth 100000 in
set_option maxHeartbeats 1000000 in
theorem indexFunc_Lock (F : FuncId) (cap : Array Value) (p : OpV → Bool) (l : List OpV) (A : Option Addr) (c : Nat) (w : World) (hR : RdO w w.heap.size A l) (hl : l.length ≤ 4611686018427387904) (hF : Pred F cap p w) :
    Calls Try.prog 26 #[.slice A l.length c, .func (.func F) #[] cap] w fun e w' => e = .returned (.int .i64 (idxV p l)) ∧ Below w.heap.size w w' := by
  have hent := hF.ent
  have HT := Lib.hid hF.tells
  have HR := Lib.hid hR
  clear hF hR
  go_enter Try.func26, Try.ntmps26
  go_wp2
  go_loopg [8] l.length (fun k s8 wx => ∃ i : Nat, i + k = l.length ∧ s8 = .int .i64 i ∧ (∀ o ∈ l.take i, p o = false) ∧ Below w.heap.size w wx)
  case atStart => exact ⟨0, by omega, rfl, by simp, Below.refl _ _⟩
  case round =>
    obtain ⟨i, hk, rfl, hn, hB⟩ := hrel
    by_cases hi : i < l.length
    · obtain ⟨b, off, rfl, hb, hb2, hcell⟩ := (HR.out.below hB).at_ hi
      have hd := idxV_go p l i hi hn
      have hn' : p l[i] = false → ∀ o ∈ l.take (i + 1), p o = false := by
        intro h o ho
        rw [List.take_succ_eq_append_getElem hi, List.mem_append] at ho
        rcases ho with ho | ho
        · exact hn o ho
        · simp at ho; rw [ho]; exact h
      generalize l[i] = o at *
      have c0 : wr.cell? ⟨b, off + i * 3, none⟩ = some (.int .i64 o.tx) := hcell 0 _ rfl
      have c1 : wr.cell? ⟨b, off + i * 3 + 1, none⟩ = some (.int .i64 o.what) := hcell 1 _ rfl
      have c2 : wr.cell? ⟨b, off + i * 3 + 2, none⟩ = some (.int .i64 o.item) := hcell 2 _ rfl
      have hsz : w.heap.size ≤ wr.heap.size := hB.size
      have HB := Lib.hid hB
      have HD := Lib.hid hd
      have HN := Lib.hid hn'
      clear hB hcell hn hd hn'
      cases hp : p o with
      | true =>
        have HP := Lib.hid (HD.out hp)
        have HPP := Lib.hid hp
        clear hp
        go_wp2_with (refine (HT.out o _ HB.out).mono ?_; rw [HPP.out]; rintro e w2 ⟨rfl, hB2⟩; have HB2 := Lib.hid hB2; clear hB2)
        go_ret
        rw [HP.out]
        exact ⟨rfl, HB.out.trans (HB2.out.mono hsz)⟩
      | false =>
        have HP := Lib.hid (HN.out hp)
        have HPP := Lib.hid hp
        clear hp
        go_wp2_with (refine (HT.out o _ HB.out).mono ?_; rw [HPP.out]; rintro e w2 ⟨rfl, hB2⟩; have HB2 := Lib.hid hB2; clear hB2)
        go_roundg (gk - 1)
        case measure => omega
        case rel => exact ⟨i + 1, by omega, by go_num, HP.out, HB.out.trans (HB2.out.mono hsz)⟩
    · obtain rfl : i = l.length := by omega
      rw [List.take_of_length_le (Nat.le_refl _)] at hn
      have HP := Lib.hid (idxV_none p l hn)
      have HB := Lib.hid hB
      clear hn hB
      go_wp2
      go_ret
      rw [HP.out]
      exact ⟨rfl, HB.out⟩

theorem idxV_any (p : OpV → Bool) (l : List OpV) : (l.any p = true → 0 ≤ idxV p l) ∧ (l.any p = false → idxV p l = -1) := by
  constructor
  · intro h
    unfold idxV
    cases hf : l.findIdx? p with
    | some i => simp
    | none =>
      rw [List.findIdx?_eq_none_iff] at hf
      rw [List.any_eq_true] at h
      obtain ⟨x, hx, hp⟩ := h
      rw [hf x hx] at hp
      cases hp
  · intro h
    refine idxV_none p l fun o ho => ?_
    rw [List.any_eq_false] at h
    simpa using h o ho
set_option maxRecDepth 100000 in
theorem containsFunc_Lock (F : FuncId) (cap : Array Value) (p : OpV → Bool) (l : List OpV) (A : Option Addr) (c : Nat) (w : World) (hR : RdO w w.heap.size A l) (hl : l.length ≤ 4611686018427387904) (hF : Pred F cap p w) :
    Calls Try.prog 29 #[.slice A l.length c, .func (.func F) #[] cap] w fun e w' => e = .returned (.bool (l.any p)) ∧ Below w.heap.size w w' := by
  have HC := Lib.hid (indexFunc_Lock F cap p l A c w hR hl hF)
  have hi := idxV_any p l
  generalize idxV p l = k at *
  clear hR hF
  cases ha : l.any p with
  | true =>
    have h0 := hi.1 ha
    clear hi ha
    go_enter Try.func29, Try.ntmps29
    go_wp2_with (go_at_call 26; refine HC.out.mono ?_; rintro e w2 ⟨rfl, hB2⟩; have HB2 := Lib.hid hB2; clear hB2)
    go_ret
    exact ⟨rfl, HB2.out⟩
  | false =>
    have h0 := hi.2 ha
    clear hi ha
    subst h0
    go_enter Try.func29, Try.ntmps29
    go_wp2_with (go_at_call 26; refine HC.out.mono ?_; rintro e w2 ⟨rfl, hB2⟩; have HB2 := Lib.hid hB2; clear hB2)
    go_ret
    exact ⟨rfl, HB2.out⟩
end Go.Proofs.Ytkfemodellmakaa
