/- history.text of an op that is right. -/
import Derived.Test.YtkfemodellmakaaDoorLocks
import Derived.RegionTactic
import Derived.BigRegion
import Derived.Laws.BytesArg
namespace Go.Proofs.YtkfemodellmakaaDoor
open Go.RowKit
set_option linter.unusedSimpArgs false
set_option linter.unusedVariables false

def whatC (n : Int) : UInt8 := if n = 1 then 114 else if n = 2 then 119 else if n = 3 then 99 else 97
def textL (o : OpV) : List UInt8 :=
  whatC o.what :: UInt8.ofNat (48 + o.tx).toNat :: if endsB o then [] else [40, UInt8.ofNat (96 + o.item).toNat, 41]

theorem conv1 (n : Int) (w : World) (b : Nat) (h : w.cell? ⟨b, 0, none⟩ = some (.int .u8 n)) :
    (convert 175 9 (.slice (some ⟨b, 0, none⟩) 1 1)).run Tryd.prog w = .ok (.string ⟨#[UInt8.ofNat n.toNat]⟩) w :=
  run_convert_bytes_arg w _ _ Tryd.underlying175 Tryd.underlying5 b 0 1 1 [n] rfl (fun i hi => by
    obtain rfl : i = 0 := by omega
    exact h) _ Tryd.underlying9
theorem cut_whats (n : Int) (h1 : 1 ≤ n) (h2 : n ≤ 4) : ({ data := #[114, 119, 99, 97] } : ByteArray).extract (n.toNat - 1) n.toNat = ⟨#[whatC n]⟩ := by
  have : n = 1 ∨ n = 2 ∨ n = 3 ∨ n = 4 := by omega
  rcases this with rfl | rfl | rfl | rfl <;> rfl
theorem cut_items (n : Int) (h1 : 1 ≤ n) (h2 : n ≤ 6) : ({ data := #[97, 98, 99, 100, 101, 102] } : ByteArray).extract (n.toNat - 1) n.toNat = ⟨#[UInt8.ofNat (96 + n).toNat]⟩ := by
  have : n = 1 ∨ n = 2 ∨ n = 3 ∨ n = 4 ∨ n = 5 ∨ n = 6 := by omega
  rcases this with rfl | rfl | rfl | rfl | rfl | rfl <;> rfl
theorem text_fin {b : Bool} {tx what item : Int} (he : endsB ⟨tx, what, item⟩ = b) : textL ⟨tx, what, item⟩ = whatC what :: UInt8.ofNat (48 + tx).toNat :: if b then [] else [40, UInt8.ofNat (96 + item).toNat, 41] := by
  subst he; rfl
theorem rightB_parts {o : OpV} (h : rightB o = true) : (1 ≤ o.tx ∧ o.tx ≤ 6) ∧ (1 ≤ o.what ∧ o.what ≤ 4) ∧ (endsB o = true → o.item = 0) ∧ (endsB o = false → 1 ≤ o.item ∧ o.item ≤ 6) := by
  have h0 := rightB_tx h
  refine ⟨h0, ?_, ?_, ?_⟩
  · constructor
    · refine Int.not_lt.1 fun hc => ?_
      simp [rightB, hc] at h
    · refine Int.not_lt.1 fun hc => ?_
      simp [rightB, hc] at h
  · intro he
    simp only [rightB, he, if_true] at h
    split at h
    · cases h
    · simpa using h
  · intro he
    simp only [rightB, he] at h
    split at h
    · cases h
    · exact numB_true.1 (by simpa using h)

set_option maxRecDepth 100000 in
set_option maxHeartbeats 1000000 in
theorem text_any (o : OpV) (w : World) (hr : rightB o = true) :
    Calls Tryd.prog 73 #[o.agg] w fun e w' => e = .returned (.string ⟨(textL o).toArray⟩) ∧ Below w.heap.size w w' := by
  obtain ⟨⟨h1, h2⟩, ⟨k1, k2⟩, hi1, hi2⟩ := rightB_parts hr
  obtain ⟨tx, what, item⟩ := o
  show Calls Tryd.prog 73 #[.agg #[.int .i64 tx, .int .i64 what, .int .i64 item]] w _
  simp only at h1 h2 k1 k2
  have hends := fun w => ends_any ⟨tx, what, item⟩ w
  have HE := Lib.hid hends
  have hcv := conv1 (48 + tx) (((w.alloc (.cells #[.int .i64 tx, .int .i64 what, .int .i64 item] 28)).alloc (.cells #[.int .u8 (48 + tx)] 5)).drew) (w.heap.size + 1) (by
    show World.cell? (World.alloc _ _) _ = _
    rw [show w.heap.size + 1 = (w.alloc (.cells #[.int .i64 tx, .int .i64 what, .int .i64 item] 28)).heap.size by simp, cell_of_row _ _ _ _ _ _ (heap_alloc_new _ _)]; rfl)
  have hB0 : Below w.heap.size w (((w.alloc (.cells #[.int .i64 tx, .int .i64 what, .int .i64 item] 28)).alloc (.cells #[.int .u8 (48 + tx)] 5)).drew) := (((Below.refl _ w).alloc (Nat.le_refl _) _).alloc (by simp) _).drew
  have HB0 := Lib.hid hB0
  clear hends hB0 hr
  cases he : endsB ⟨tx, what, item⟩ with
  | true =>
    have HT := Lib.hid (text_fin he)
    have HC := Lib.hid (cut_whats what k1 k2)
    have HEE := Lib.hid he
    clear hi1 hi2 he
    go_enter Tryd.func73, Tryd.ntmps73
    go_wp2
    go_region
    go_wp2_with (go_at_call 102; refine (HE.out _).mono ?_; rw [HEE.out]; rintro e w2 ⟨rfl, hB⟩; obtain ⟨hc, hf⟩ := bcell hB; have HB := Lib.hid hB; clear hB)
    go_ret
    refine ⟨?_, HB0.out.trans (HB.out.mono (by simp; omega))⟩
    rw [HT.out, HC.out]
    rfl
  | false =>
    obtain ⟨i1, i2⟩ := hi2 he
    have HT := Lib.hid (text_fin he)
    have HC := Lib.hid (cut_whats what k1 k2)
    have HI := Lib.hid (cut_items item i1 i2)
    have HEE := Lib.hid he
    simp only at i1 i2
    clear hi1 hi2 he
    go_enter Tryd.func73, Tryd.ntmps73
    go_wp2
    go_region
    go_wp2_with (go_at_call 102; refine (HE.out _).mono ?_; rw [HEE.out]; rintro e w2 ⟨rfl, hB⟩; obtain ⟨hc, hf⟩ := bcell hB; have HB := Lib.hid hB; clear hB)
    go_ret
    refine ⟨?_, HB0.out.trans (HB.out.mono (by simp; omega))⟩
    rw [HT.out, HC.out, HI.out]
    rfl
end Go.Proofs.YtkfemodellmakaaDoor
