/- history.Print of any list of ops. -/
import Derived.Test.YtkfemodellmakaaDoorOwn
import Derived.Test.YtkfemodellmakaaDoorText
import Derived.Lib.Join
import Derived.Test.YtkfemodellmakaaDoorShelf
namespace Go.Proofs.YtkfemodellmakaaDoor
open Go.RowKit
set_option linter.unusedSimpArgs false
set_option linter.unusedVariables false

def textB (o : OpV) : ByteArray := ⟨(textL o).toArray⟩
def printV (h : List OpV) : ByteArray := if (checkV h).2.isSome then ⟨#[]⟩ else ⟨(Lib.join (h.map textL) [32]).toArray⟩

theorem checkFrom_right : ∀ (h : List OpV) (E : Int → Bool) (i : Nat), (checkFrom E i h).2 = none → ∀ o ∈ h, rightB o = true
  | [], _, _, _, o, ho => by simp at ho
  | x :: r, E, i, hc, o, ho => by
    unfold checkFrom at hc
    split at hc
    · simp at hc
    · rename_i hx
      split at hc
      · simp at hc
      · rcases List.mem_cons.1 ho with rfl | ho
        · simpa using hx
        · exact checkFrom_right r _ _ hc o ho
theorem checkV_right {h : List OpV} (hc : (checkV h).2 = none) : h.length ≤ 40 ∧ ∀ o ∈ h, rightB o = true := by
  unfold checkV at hc
  split at hc
  · simp at hc
  · exact ⟨by omega, checkFrom_right _ _ _ hc⟩
theorem textL_length (o : OpV) : (textL o).length ≤ 5 := by unfold textL; split <;> simp
theorem join_le : ∀ (l : List (List UInt8)), (∀ x ∈ l, x.length ≤ 5) → (Lib.join l [32]).length ≤ 6 * l.length
  | [], _ => by simp [Lib.join]
  | x :: r, h => by
    rw [Lib.join_length]
    have hx := h x (by simp)
    have : ∀ r : List (List UInt8), (∀ x ∈ r, x.length ≤ 5) → Lib.lens r ≤ 5 * r.length := by
      intro r
      induction r with
      | nil => intro _; simp [Lib.lens]
      | cons a t ih =>
        intro h
        have h1 := h a (by simp)
        have h2 := ih (fun x hx => h x (by simp [hx]))
        simp [Lib.lens] at h2 ⊢
        omega
    have h3 := this r (fun y hy => h y (by simp [hy]))
    simp [Lib.lens] at h3 ⊢
    omega

theorem join_own (v : Value) (l : List ByteArray) (sep : List UInt8) (w : World) (B : Nat) (ho : w.ownsRow B 9 1 v l.length (l.map (.string))) (hN : l.length ≤ 140737488355328) (hlen : (Lib.join (l.map (·.data.toList)) sep).length ≤ 140737488355328) :
    Calls Tryd.prog 74 #[v, .string ⟨sep.toArray⟩] w fun e w' => e = .returned (.string ⟨(Lib.join (l.map (·.data.toList)) sep).toArray⟩) ∧ Below w.heap.size w w' := by
  rcases ho.2 with ⟨rfl, h0⟩ | ⟨g, cap, cur, rfl, _, hg, hcap, _⟩
  · obtain rfl : l = [] := List.eq_nil_of_length_eq_zero h0
    refine (Tryd.strings_Join_none none 0 ⟨sep.toArray⟩ w).mono ?_
    rintro e w' ⟨rfl, rfl⟩
    exact ⟨rfl, Below.refl _ _⟩
  · refine (Tryd.strings_Join g 0 cap l ⟨sep.toArray⟩ w (fun j x hx => ?_) (heap_lt hg) hN hcap (by simpa using hlen)).mono ?_
    · have := ho.cellAt j (by have := (List.getElem?_eq_some_iff.1 hx).1; omega)
      rw [Nat.zero_add, this, List.getElem?_map, hx]
      rfl
    · rintro e w' ⟨rfl, hB⟩
      exact ⟨by simp, hB⟩

set_option maxRecDepth 100000 in
set_option maxHeartbeats 2000000 in
theorem print_any (h : List OpV) (A : Option Addr) (c : Nat) (w : World) (hR : RdO w w.heap.size A h) (hl : h.length ≤ 9223372036854775807) :
    Calls Tryd.prog 36 #[.slice A h.length c] w fun e w' => e = .returned (.tuple #[.string (printV h), errV (checkV h).2]) ∧ Below w.heap.size w w' := by
  have HRt := Lib.hid (rightH_any h A c w hR hl)
  cases hv : (checkV h).2 with
  | some k =>
    have hp : printV h = ⟨#[]⟩ := by simp [printV, hv]
    rw [hv] at HRt
    rw [hp]
    clear hp hv hR
    go_enter Tryd.func36, Tryd.ntmps36
    go_wp2_with (go_at_call 35; refine HRt.out.mono ?_; rintro e w1 ⟨rfl, hB⟩; simp only [errV])
    go_ret2
    exact ⟨rfl, hB⟩
  | none =>
    obtain ⟨h40, hr⟩ := checkV_right hv
    have hp : printV h = ⟨(Lib.join (h.map textL) [32]).toArray⟩ := by simp [printV, hv]
    rw [hv] at HRt
    rw [hp]
    have HR := Lib.hid hR
    have HRR := Lib.hid hr
    clear hp hv hR hr
    go_enter Tryd.func36, Tryd.ntmps36
    go_wp2_with (go_at_call 35; refine HRt.out.mono ?_; rintro e w1 ⟨rfl, hB⟩; simp only [errV])
    have HB1 := Lib.hid hB
    clear hB
    go_loopg [5, 15] h.length (fun k s5 s15 wx => ∃ (i : Nat) (v5 : Value), i + k = h.length ∧ s15 = .int .i64 i ∧ v5 = s5 ∧ wx.ownsRow w.heap.size 9 1 v5 i (((h.take i).map textB).map (.string)) ∧ Below w.heap.size w wx)
    case atStart => exact ⟨0, _, by omega, rfl, rfl, World.ownsRow_nil _ _ _ _, HB1.out⟩
    case round =>
      obtain ⟨i, v5, hk, rfl, rfl, ho, hB⟩ := hrel
      by_cases hi : i < h.length
      · obtain ⟨b, off, rfl, hb, hb2, hcell⟩ := (HR.out.below hB).at_ hi
        have hro := HRR.out h[i] (List.getElem_mem hi)
        have htk : (h.take (i + 1)).map textB = (h.take i).map textB ++ [textB h[i]] := by rw [List.take_succ_eq_append_getElem hi, List.map_append]; rfl
        generalize h[i] = o at *
        have c0 : wr.cell? ⟨b, off + i * 3, none⟩ = some (.int .i64 o.tx) := hcell 0 _ rfl
        have c1 : wr.cell? ⟨b, off + i * 3 + 1, none⟩ = some (.int .i64 o.what) := hcell 1 _ rfl
        have c2 : wr.cell? ⟨b, off + i * 3 + 2, none⟩ = some (.int .i64 o.item) := hcell 2 _ rfl
        have hsz : w.heap.size ≤ wr.heap.size := hB.size
        have HTX := Lib.hid (text_any o · hro)
        have HTK := Lib.hid htk
        have HO := Lib.hid ho
        have HB := Lib.hid hB
        clear ho hB hcell htk hro
        go_wp2_with (first
          | (go_at_call 73; refine (HTX.out _).mono ?_; rintro e w2 ⟨rfl, hB2⟩; have hs2 := hB2.size; simp at hs2; have HB2 := Lib.hid hB2; clear hB2)
          | (at_builtin; refine wpList_appStr _ (by rfl) _ _ (by rfl) w.heap.size _ _ _ (by rfl) (own_below (own_below HO.out (((Below.refl _ wr).alloc (Nat.le_refl _) _).trans (HB2.out.mono (by simp)))) ((Below.refl _ w2).alloc (Nat.le_refl _) _)) _ (textB o) (by rfl) (heap_alloc_new _ _) (by omega) (by simp; omega) ?_; intro g cap w3 ho3 hg3 hat3 hlt3; have HO3 := Lib.hid ho3; have HG3 := Lib.hid hg3; clear ho3 hg3 hat3))
        go_roundg (gk - 1)
        case measure => omega
        case rel =>
          refine ⟨i + 1, _, by omega, by go_num, rfl, by rw [HTK.out]; exact HO3.out, ?_⟩
          exact (HB.out.trans ((((Below.refl _ wr).alloc (Nat.le_refl _) _).trans (HB2.out.mono (by simp))).mono hsz)).alloc (by omega) _ |>.grown HG3.out (by simp; omega) (fun k hk => (HO.out.lt k hk).1)
      · obtain rfl : i = h.length := by omega
        rw [List.take_of_length_le (Nat.le_refl _)] at ho
        have hlen : (h.map textB).length = h.length := by simp
        have hmap : (h.map textB).map (·.data.toList) = h.map textL := by simp [textB]
        have hjl : (Lib.join ((h.map textB).map (·.data.toList)) [32]).length ≤ 140737488355328 := by
          rw [hmap]
          have := join_le (h.map textL) (by intro x hx; obtain ⟨o, _, rfl⟩ := List.mem_map.1 hx; exact textL_length o)
          simp at this
          omega
        have hj := join_own v5 (h.map textB) [32] wr w.heap.size (by rw [hlen]; exact ho) (by rw [hlen]; omega) hjl
        rw [hmap] at hj
        have HJ := Lib.hid hj
        have HB := Lib.hid hB
        clear hj hjl hmap hlen ho hB
        go_wp2_with (go_at_call 74; refine HJ.out.mono ?_; rintro e w3 ⟨rfl, hB3⟩)
        go_ret2
        exact ⟨rfl, HB.out.trans (hB3.mono HB.out.size)⟩
end Go.Proofs.YtkfemodellmakaaDoor
