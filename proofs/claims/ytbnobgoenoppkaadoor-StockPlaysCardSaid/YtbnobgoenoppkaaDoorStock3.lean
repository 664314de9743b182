/- The package stock: End. -/
import Derived.Test.YtbnobgoenoppkaaDoorStock2
namespace Go.Proofs.YtbnobgoenoppkaaDoor
open Go.RowKit
set_option linter.unusedSimpArgs false
set_option linter.unusedVariables false

theorem end_bad (g : Nat) (tx : Int) (c : Bool) (w : World) (h : tx < 1 ∨ 6 < tx) :
    Calls Tryd.prog 16 #[.pointer (some ⟨g, 0, none⟩), .int .i64 tx, .bool c] w fun e w' => e = .returned (.tuple #[.int .i64 0, .iface 110 (.int .i64 1)]) ∧ w = w' := by
  go_enter Tryd.func16, Tryd.ntmps16
  go_wp2_with (go_at_call 61; refine (tx_false _ _ h).mono ?_; rintro e w' ⟨rfl, rfl⟩)
  go_ret2
  exact ⟨rfl, rfl⟩

theorem end_none (g b : Nat) (now : Int) (L : List MEnt) (tx : Int) (c : Bool) (w : World) (hS : StockIs w g b now L) (t1 : 1 ≤ tx) (t2 : tx ≤ 6) (hn : mget L tx = none) :
    Calls Tryd.prog 16 #[.pointer (some ⟨g, 0, none⟩), .int .i64 tx, .bool c] w fun e w' => e = .returned (.tuple #[.int .i64 0, .iface 110 (.int .i64 5)]) ∧ Below w.heap.size w w' := by
  have c1 := hS.c1
  have hl := run_lookup_map (P := Tryd.prog) hS.map Tryd.underlying111 Tryd.underlying3 zero_asked tx true
  rw [hn] at hl
  simp only [Option.getD_none, Option.isSome_none, if_true] at hl
  clear hn
  go_enter Tryd.func16, Tryd.ntmps16
  go_wp2_with (go_at_call 61; refine (tx_true _ _ t1 t2).mono ?_; rintro e w' ⟨rfl, rfl⟩)
  go_ret2
  exact ⟨rfl, (Below.refl _ _).alloc (Nat.le_refl _) _⟩

theorem mdel_sub (L : List MEnt) (k : Int) : ∀ e ∈ mdel L k, e ∈ L := by
  intro e he
  unfold mdel at he
  split at he
  · exact (List.eraseIdx_sublist L _).subset he
  · exact he

set_option maxRecDepth 100000 in
theorem end_some (g b : Nat) (now : Int) (L : List MEnt) (tx : Int) (c : Bool) (w : World) (hS : StockIs w g b now L) (t1 : 1 ≤ tx) (t2 : tx ≤ 6) (hn : (mget L tx).isSome = true)
    (h0 : 0 ≤ tks L) (h1 : tks L ≤ now) (h2 : 0 ≤ ads L) (h3 : now + ads L ≤ 1000000) :
    Calls Tryd.prog 16 #[.pointer (some ⟨g, 0, none⟩), .int .i64 tx, .bool c] w fun e w' =>
      e = .returned (.tuple #[.int .i64 (if c then now + (addV (askedOf L tx) - takeV (askedOf L tx)) else now), .nilIface]) ∧
      StockIs w' g b (if c then now + (addV (askedOf L tx) - takeV (askedOf L tx)) else now) (mdel L tx) ∧ Fr (fun k => k = g ∨ k = b) w w' := by
  have c1 := hS.c1
  have hl := run_lookup_map (P := Tryd.prog) hS.map Tryd.underlying111 Tryd.underlying3 zero_asked tx true
  obtain ⟨hA, a1, a2, a3, a4⟩ := askedOf_form hS.asked tx
  rw [hn, show (mget L tx).getD (.agg #[.int .i64 0, .int .i64 0]) = _ from hA] at hl
  simp only [if_true] at hl
  have HS := Lib.hid hS
  generalize addV (askedOf L tx) = A at *
  generalize takeV (askedOf L tx) = T at *
  obtain ⟨w2, hdel, hm2, hg2, hs2⟩ := run_delete_map (P := Tryd.prog) (w := w.alloc (.cells #[.int .i64 A, .int .i64 T] 116)) (b := b) (L := L) (hS.map.alloc _) Tryd.underlying111 Tryd.underlying3 tx 0 3
  have hlt := heap_lt hS.row
  have hne : some g ≠ some b := fun e => hS.ne (by injection e)
  have hb2 : b < w.heap.size := by obtain ⟨_, hb, _⟩ := hS.map; exact heap_lt hb
  have hrow : w2.heap[g]? = some (.cells #[.int .i64 now, .map (some b)] 113) := (hg2.block g (by simp; omega) hne).trans ((Below.heap_alloc _ _ _ hlt).trans hS.row)
  have hloc : w2.heap[w.heap.size]? = some (.cells #[.int .i64 A, .int .i64 T] 116) := (hg2.block _ (by simp) (fun e => by injection e with e; omega)).trans (heap_alloc_new _ _)
  have d0 : w2.cell? ⟨g, 0, none⟩ = some (.int .i64 now) := by rw [cell_of_row w2 g 0 _ _ _ hrow]; rfl
  have d1 : w2.frozen? ⟨g, 0, none⟩ = false := by simp [World.frozen?, hrow]
  have e0 : w2.cell? ⟨w.heap.size, 0, none⟩ = some (.int .i64 A) := by rw [cell_of_row w2 _ 0 _ _ _ hloc]; rfl
  have e1 : w2.cell? ⟨w.heap.size, 1, none⟩ = some (.int .i64 T) := by rw [cell_of_row w2 _ 1 _ _ _ hloc]; rfl
  have HM : Hid (IsMap w2 b (mdel L tx) ∧ w2.heap[g]? = some (.cells #[.int .i64 now, .map (some b)] 113) ∧ Fr (fun k => k = g ∨ k = b) w w2) :=
    ⟨hm2, hrow, ((Fr.refl _ w).alloc _).grown hg2 (fun i e => .inl (.inr (by injection e with e; exact e.symm)))⟩
  have HD := Lib.hid (fun e he => hS.asked e (mdel_sub L tx e he) : Askeds (mdel L tx))
  clear hn hS hm2 hg2 hs2 hrow hloc hA hne
  cases c with
  | false =>
    go_enter Tryd.func16, Tryd.ntmps16
    go_wp2_with (go_at_call 61; refine (tx_true _ _ t1 t2).mono ?_; rintro e w' ⟨rfl, rfl⟩)
    go_ret2
    exact ⟨rfl, ⟨HM.out.2.1, HM.out.1, HD.out⟩, HM.out.2.2⟩
  | true =>
    go_enter Tryd.func16, Tryd.ntmps16
    go_wp2_with (go_at_call 61; refine (tx_true _ _ t1 t2).mono ?_; rintro e w' ⟨rfl, rfl⟩)
    go_region
    go_wp2
    go_ret2
    refine ⟨rfl, ⟨?_, ?_, HD.out⟩, ?_⟩
    · exact heap_setCell_same w2 g 0 _ _ _ HM.out.2.1
    · obtain ⟨clock, hb, hok⟩ := HM.out.1
      exact ⟨clock, (heap_setCell_other w2 ⟨g, 0, none⟩ b _ (fun e => HS.out.ne e.symm)).trans hb, hok⟩
    · exact (HM.out.2.2.setCell (.inl (.inl rfl)) _).drew
end Go.Proofs.YtbnobgoenoppkaaDoor
