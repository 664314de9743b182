/- The package locks: free, of, waiting (the closures that they hand on). -/
import Derived.Test.YtkfemodellmakaaIndexF
import Derived.Shelf.Abstract
namespace Go.Proofs.Ytkfemodellmakaa
open Go.RowKit
set_option linter.unusedSimpArgs false
set_option linter.unusedVariables false

def atB (tx item : Int) (x : OpV) : Bool := decide (x.tx = tx ∧ x.what = item)
def ofB (tx : Int) (x : OpV) : Bool := decide (x.tx = tx)
theorem triple_cells {w : World} {b : Nat} {x : OpV} {t : TypeId} (hb : w.heap[b]? = some (.cells #[.int .i64 x.tx, .int .i64 x.what, .int .i64 x.item] t)) :
    w.cell? ⟨b, 0, none⟩ = some (.int .i64 x.tx) ∧ w.cell? ⟨b, 1, none⟩ = some (.int .i64 x.what) ∧ w.cell? ⟨b, 2, none⟩ = some (.int .i64 x.item) := by
  refine ⟨?_, ?_, ?_⟩ <;> (rw [cell_of_row _ _ _ _ _ _ hb]; rfl)

/-- The closure of free. -/
theorem free1_pred (b : Nat) (x : OpV) (w : World) (hb : w.heap[b]? = some (.cells #[.int .i64 x.tx, .int .i64 x.what, .int .i64 x.item] 29)) : Pred 30 #[.pointer (some ⟨b, 0, none⟩)] (oddsB x) w := by
  refine ⟨enters_of Try.func30 (by kernel_rfl) rfl, fun y w1 hB => ?_⟩
  obtain ⟨c0, c1, c2⟩ := triple_cells ((hB.block b (heap_lt hb)).trans hb)
  have hlt : b < w1.heap.size := Nat.lt_of_lt_of_le (heap_lt hb) hB.size
  have ho := fun w => odds_any x y w
  have HO := Lib.hid ho
  clear ho hb hB
  obtain ⟨yt, yi, ym⟩ := y
  show Calls Try.prog 30 #[.agg #[.int .i64 yt, .int .i64 yi, .int .i64 ym], .pointer (some ⟨b, 0, none⟩)] w1 _
  go_enter Try.func30, Try.ntmps30
  go_wp2_with (go_at_call 18; refine (HO.out _).mono ?_; rintro e w2 ⟨rfl, hB2⟩; have HB2 := Lib.hid hB2; clear hB2)
  go_ret
  exact ⟨rfl, ((Below.refl _ w1).alloc (Nat.le_refl _) _).trans (HB2.out.mono (by simp))⟩

/-- The closure of waiting. -/
theorem waiting1_pred (b : Nat) (tx : Int) (w : World) (hb : w.cell? ⟨b, 0, none⟩ = some (.int .i64 tx)) (hlt : b < w.heap.size) : Pred 27 #[.pointer (some ⟨b, 0, none⟩)] (ofB tx) w := by
  refine ⟨enters_of Try.func27 (by kernel_rfl) rfl, fun y w1 hB => ?_⟩
  have c0 := (hB.cell (p := ⟨b, 0, none⟩) hlt).trans hb
  have hlt1 : b < w1.heap.size := Nat.lt_of_lt_of_le hlt hB.size
  clear hb hB hlt
  obtain ⟨yt, yi, ym⟩ := y
  show Calls Try.prog 27 #[.agg #[.int .i64 yt, .int .i64 yi, .int .i64 ym], .pointer (some ⟨b, 0, none⟩)] w1 _
  have hr : ofB tx ⟨yt, yi, ym⟩ = (yt == tx) := by simp only [ofB]; cases h : (yt == tx) <;> simp_all
  rw [hr]
  clear hr
  go_enter Try.func27, Try.ntmps27
  go_wp2
  go_ret
  exact ⟨rfl, (Below.refl _ w1).alloc (Nat.le_refl _) _⟩
/-- The closure of Free. -/
theorem free_its_pred (b : Nat) (tx : Int) (w : World) (hb : w.cell? ⟨b, 0, none⟩ = some (.int .i64 tx)) (hlt : b < w.heap.size) : Pred 22 #[.pointer (some ⟨b, 0, none⟩)] (ofB tx) w := by
  refine ⟨enters_of Try.func22 (by kernel_rfl) rfl, fun y w1 hB => ?_⟩
  have c0 := (hB.cell (p := ⟨b, 0, none⟩) hlt).trans hb
  have hlt1 : b < w1.heap.size := Nat.lt_of_lt_of_le hlt hB.size
  clear hb hB hlt
  obtain ⟨yt, yi, ym⟩ := y
  show Calls Try.prog 22 #[.agg #[.int .i64 yt, .int .i64 yi, .int .i64 ym], .pointer (some ⟨b, 0, none⟩)] w1 _
  have hr : ofB tx ⟨yt, yi, ym⟩ = (yt == tx) := by simp only [ofB]; cases h : (yt == tx) <;> simp_all
  rw [hr]
  clear hr
  go_enter Try.func22, Try.ntmps22
  go_wp2
  go_ret
  exact ⟨rfl, (Below.refl _ w1).alloc (Nat.le_refl _) _⟩
/-- The closure of of. -/
theorem of1_pred (b d : Nat) (tx item : Int) (w : World) (hb : w.cell? ⟨b, 0, none⟩ = some (.int .i64 tx)) (hd : w.cell? ⟨d, 0, none⟩ = some (.int .i64 item)) (hlt : b < w.heap.size) (hltd : d < w.heap.size) :
    Pred 28 #[.pointer (some ⟨b, 0, none⟩), .pointer (some ⟨d, 0, none⟩)] (atB tx item) w := by
  refine ⟨enters_of Try.func28 (by kernel_rfl) rfl, fun y w1 hB => ?_⟩
  have c0 := (hB.cell (p := ⟨b, 0, none⟩) hlt).trans hb
  have c1 := (hB.cell (p := ⟨d, 0, none⟩) hltd).trans hd
  have hlt1 : b < w1.heap.size := Nat.lt_of_lt_of_le hlt hB.size
  have hlt2 : d < w1.heap.size := Nat.lt_of_lt_of_le hltd hB.size
  clear hb hB hlt hd hltd
  obtain ⟨yt, yi, ym⟩ := y
  show Calls Try.prog 28 #[.agg #[.int .i64 yt, .int .i64 yi, .int .i64 ym], .pointer (some ⟨b, 0, none⟩), .pointer (some ⟨d, 0, none⟩)] w1 _
  cases e1 : (yt == tx) with
  | false =>
    have hr : atB tx item ⟨yt, yi, ym⟩ = false := by simp [atB]; simp at e1; intro h; exact absurd h e1
    rw [hr]
    clear hr
    go_enter Try.func28, Try.ntmps28
    go_wp2
    go_ret
    exact ⟨rfl, (Below.refl _ w1).alloc (Nat.le_refl _) _⟩
  | true =>
    have hr : atB tx item ⟨yt, yi, ym⟩ = (yi == item) := by simp at e1; simp only [atB, e1, true_and]; cases h : (yi == item) <;> simp_all
    rw [hr]
    clear hr
    go_enter Try.func28, Try.ntmps28
    go_wp2
    go_ret
    exact ⟨rfl, (Below.refl _ w1).alloc (Nat.le_refl _) _⟩

theorem lfree_any (l : List OpV) (A : Option Addr) (c : Nat) (x : OpV) (w : World) (hR : RdO w w.heap.size A l) (hl : l.length ≤ 4611686018427387904) :
    Calls Try.prog 15 #[.slice A l.length c, x.agg] w fun e w' => e = .returned (.bool (!l.any (oddsB x))) ∧ Below w.heap.size w w' := by
  have hB0 : Below w.heap.size w (w.alloc (.cells #[.int .i64 x.tx, .int .i64 x.what, .int .i64 x.item] 29)) := (Below.refl _ w).alloc (Nat.le_refl _) _
  have HC := Lib.hid (containsFunc_Lock _ _ _ l A c _ ((hR.below hB0).mono hB0.size) hl (free1_pred w.heap.size x _ (heap_alloc_new w _)))
  have HB0 := Lib.hid hB0
  clear hR hB0
  obtain ⟨xt, xi, xm⟩ := x
  show Calls Try.prog 15 #[.slice A l.length c, .agg #[.int .i64 xt, .int .i64 xi, .int .i64 xm]] w _
  go_enter Try.func15, Try.ntmps15
  go_wp2_with (go_at_call 29; refine HC.out.mono ?_; rintro e w2 ⟨rfl, hB2⟩; have HB2 := Lib.hid hB2; clear hB2)
  go_ret
  exact ⟨rfl, HB0.out.trans (HB2.out.mono HB0.out.size)⟩
theorem lof_any (l : List OpV) (A : Option Addr) (c : Nat) (tx item : Int) (w : World) (hR : RdO w w.heap.size A l) (hl : l.length ≤ 4611686018427387904) :
    Calls Try.prog 14 #[.slice A l.length c, .int .i64 tx, .int .i64 item] w fun e w' => e = .returned (.int .i64 (idxV (atB tx item) l)) ∧ Below w.heap.size w w' := by
  have hB0 : Below w.heap.size w ((w.alloc (.cells #[.int .i64 tx] 3)).alloc (.cells #[.int .i64 item] 3)) := ((Below.refl _ w).alloc (Nat.le_refl _) _).alloc (by simp) _
  have HC := Lib.hid (indexFunc_Lock _ _ _ l A c _ ((hR.below hB0).mono hB0.size) hl (of1_pred w.heap.size (w.heap.size + 1) tx item _ (by rw [World.cell?_alloc_lt _ _ _ (by simp), cell_of_row _ _ _ _ _ _ (heap_alloc_new w _)]; rfl) (by rw [show w.heap.size + 1 = (w.alloc (.cells #[.int .i64 tx] 3)).heap.size by simp, cell_of_row _ _ _ _ _ _ (heap_alloc_new _ _)]; rfl) (by simp; omega) (by simp)))
  have HB0 := Lib.hid hB0
  clear hR hB0
  go_enter Try.func14, Try.ntmps14
  go_wp2_with (go_at_call 26; refine HC.out.mono ?_; rintro e w2 ⟨rfl, hB2⟩; have HB2 := Lib.hid hB2; clear hB2)
  go_ret
  exact ⟨rfl, HB0.out.trans (HB2.out.mono HB0.out.size)⟩
theorem lwaiting_any (g : Nat) (l : List OpV) (A : Option Addr) (c : Nat) (tx : Int) (w : World) (hc : w.cell? ⟨g, 1, none⟩ = some (.slice A l.length c)) (hg : g < w.heap.size) (hR : RdO w w.heap.size A l) (hl : l.length ≤ 4611686018427387904) :
    Calls Try.prog 13 #[.pointer (some ⟨g, 0, none⟩), .int .i64 tx] w fun e w' => e = .returned (.int .i64 (idxV (ofB tx) l)) ∧ Below w.heap.size w w' := by
  have hB0 : Below w.heap.size w (w.alloc (.cells #[.int .i64 tx] 3)) := (Below.refl _ w).alloc (Nat.le_refl _) _
  have HC := Lib.hid (indexFunc_Lock _ _ _ l A c _ ((hR.below hB0).mono hB0.size) hl (waiting1_pred w.heap.size tx _ (by rw [cell_of_row _ _ _ _ _ _ (heap_alloc_new w _)]; rfl) (by simp)))
  have HB0 := Lib.hid hB0
  clear hR hB0
  go_enter Try.func13, Try.ntmps13
  go_wp2_with (go_at_call 26; refine HC.out.mono ?_; rintro e w2 ⟨rfl, hB2⟩; have HB2 := Lib.hid hB2; clear hB2)
  go_ret
  exact ⟨rfl, HB0.out.trans (HB2.out.mono HB0.out.size)⟩

theorem lright_any (l : OpV) (w : World) : Calls Try.prog 12 #[l.agg] w fun e w' => e = .returned (.bool (lrightB l)) ∧ Below w.heap.size w w' := by
  obtain ⟨tx, what, item⟩ := l
  show Calls Try.prog 12 #[.agg #[.int .i64 tx, .int .i64 what, .int .i64 item]] w _
  have HN : Hid (Below w.heap.size w (w.alloc (.cells #[.int .i64 tx, .int .i64 what, .int .i64 item] 29))) := Lib.hid ((Below.refl _ w).alloc (Nat.le_refl _) _)
  have hr : lrightB ⟨tx, what, item⟩ = (numB tx && (numB what && ((item == 1) || (item == 2)))) := by
    simp only [lrightB, numB]
    cases h1 : (item == 1) <;> cases h2 : (item == 2) <;> simp_all
  rw [hr]
  clear hr
  cases hx : numB tx <;> cases hy : numB what <;> cases h1 : (item == 1)
  all_goals
    have HX := Lib.hid hx
    have HY := Lib.hid hy
    clear hx hy
    go_enter Try.func12, Try.ntmps12
    go_wp2_with (first
      | (go_at_call 21; refine (hTx_any _ _).mono ?_; rw [HX.out]; rintro e w' ⟨rfl, rfl⟩)
      | (go_at_call 25; refine (hItem_any _ _).mono ?_; rw [HY.out]; rintro e w' ⟨rfl, rfl⟩))
    go_ret
    exact ⟨by simp, HN.out⟩
end Go.Proofs.Ytkfemodellmakaa
