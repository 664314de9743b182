/- The package stock: Ask where it may be, and End. -/
import Derived.Test.YtbnobgoenoppkaaDoorStock
namespace Go.Proofs.YtbnobgoenoppkaaDoor
open Go.RowKit
set_option linter.unusedSimpArgs false
set_option linter.unusedVariables false

theorem IsMap.drew {w : World} {b : Nat} {L : List MEnt} (h : IsMap w b L) : IsMap w.drew b L := h
theorem IsMap.alloc {w : World} {b : Nat} {L : List MEnt} (h : IsMap w b L) (o : Obj) : IsMap (w.alloc o) b L := by
  obtain ⟨clock, hb, hok⟩ := h
  exact ⟨clock, by rw [heap_alloc_old w o (Array.getElem?_eq_some_iff.1 hb).1]; exact hb, hok⟩
theorem StockIs.alloc {w : World} {g b : Nat} {now : Int} {L : List MEnt} (h : StockIs w g b now L) (o : Obj) : StockIs (w.alloc o) g b now L :=
  ⟨by rw [heap_alloc_old w o (Array.getElem?_eq_some_iff.1 h.row).1]; exact h.row, h.map.alloc o, h.asked⟩

theorem StockIs.drew {w : World} {g b : Nat} {now : Int} {L : List MEnt} (h : StockIs w g b now L) : StockIs w.drew g b now L := ⟨h.row, h.map, h.asked⟩
theorem askeds_put {L : List MEnt} (h : Askeds L) (k a t : Int) (clock : Nat) (ha : 0 ≤ a) (ht : 0 ≤ t) : Askeds (mput L k (.agg #[.int .i64 a, .int .i64 t]) clock) := by
  intro e he
  unfold mput at he
  split at he
  · rename_i i hi
    obtain ⟨j, hj⟩ := List.getElem?_of_mem he
    rw [List.getElem?_modify] at hj
    by_cases hij : i = j
    · subst hij
      cases hl : L[i]? with
      | none => rw [hl] at hj; simp at hj
      | some x =>
        rw [hl] at hj
        simp at hj
        subst hj
        exact ⟨rfl, ha, ht⟩
    · simp [hij] at hj
      exact h e (List.mem_of_getElem? hj)
  · rcases List.mem_append.1 he with he | he
    · exact h e he
    · rw [List.mem_singleton.1 he]
      exact ⟨rfl, ha, ht⟩
theorem StockIs.put {w w' : World} {g b clock : Nat} {now k a t : Int} {L : List MEnt} (h : StockIs w g b now L) (hm : IsMap w' b (mput L k (.agg #[.int .i64 a, .int .i64 t]) clock)) (hg : w.grownBy w' (some b)) (ha : 0 ≤ a) (ht : 0 ≤ t) :
    StockIs w' g b now (mput L k (.agg #[.int .i64 a, .int .i64 t]) clock) :=
  ⟨(hg.block g (heap_lt h.row) (fun e => h.ne (by injection e))).trans h.row, hm, askeds_put h.asked k a t clock ha ht⟩

set_option maxRecDepth 100000 in
set_option maxHeartbeats 1000000 in
theorem ask_yes (g b : Nat) (now : Int) (L : List MEnt) (tx d : Int) (w : World) (hS : StockIs w g b now L) (h0 : 0 ≤ tks L) (h1 : tks L ≤ now) (h2 : 0 ≤ ads L) (h3 : now + ads L ≤ 1000000)
    (t1 : 1 ≤ tx) (t2 : tx ≤ 6) (d0 : d ≠ 0) (d1 : -1000000 ≤ d) (d2 : d ≤ 1000000) (hy1 : 0 ≤ now - tks L + d) (hy2 : now + ads L + d ≤ 1000000) :
    Calls Tryd.prog 15 #[.pointer (some ⟨g, 0, none⟩), .int .i64 tx, .int .i64 d] w fun e w' => e = .returned (.tuple #[.bool true, .nilIface]) ∧
      ∃ clock, StockIs w' g b now (mput L tx (.agg #[.int .i64 (addV (askedOf L tx) + max d 0), .int .i64 (takeV (askedOf L tx) + max (-d) 0)]) clock) ∧ w.grownBy w' (some b) := by
  have hd0 : (d == 0) = false := by simpa using d0
  have hc := range_any g b now L w hS.c0 hS.c1 hS.map hS.asked (by omega) (by omega) (by omega) (by omega)
  have HC := Lib.hid hc
  have HS := Lib.hid hS
  obtain ⟨hA, a1, a2, a3, a4⟩ := askedOf_form hS.asked tx
  have hlt := (Array.getElem?_eq_some_iff.1 hS.row).1
  clear hc hS
  generalize hA1 : addV (askedOf L tx) = A at *
  generalize hT1 : takeV (askedOf L tx) = T at *
  have HA := Lib.hid hA
  clear hA hA1 hT1
  rcases (show d < 0 ∨ 0 < d by omega) with hd | hd
  · have hd1 : ¬ 0 < d := by omega
    have hm1 : max d 0 = 0 := by omega
    have hm2 : max (-d) 0 = -d := by omega
    rw [hm1, hm2]
    clear hm1 hm2 d0
    go_enter Tryd.func15, Tryd.ntmps15
    go_wp2_with (first | (go_at_call 61; refine (tx_true _ _ t1 t2).mono ?_; rintro e w' ⟨rfl, rfl⟩) | (go_at_call 17; refine HC.out.mono ?_; rintro e w1 ⟨rfl, hB⟩; have c1 := (HS.out.below hB).c1; have hl := run_lookup_map (P := Tryd.prog) (HS.out.below hB).map Tryd.underlying111 Tryd.underlying3 zero_asked tx false; rw [show (mget L tx).getD (.agg #[.int .i64 0, .int .i64 0]) = .agg #[.int .i64 A, .int .i64 T] from HA.out] at hl; have hsz := hB.size))
    obtain ⟨w2, clock, hup, hm2, hg2, hs2⟩ := run_mapUpdate_map (P := Tryd.prog) (w := (w1.alloc (.cells #[.int .i64 A, .int .i64 (T + -d)] 116)).drew) (b := b) (L := L) ((HS.out.below hB).alloc _).map.drew Tryd.underlying111 Tryd.underlying3 tx (.agg #[.int .i64 A, .int .i64 (T + -d)])
    clear hl
    have HM : Hid (IsMap w2 b (mput L tx (.agg #[.int .i64 A, .int .i64 (T + -d)]) clock) ∧ (w1.alloc (.cells #[.int .i64 A, .int .i64 (T + -d)] 116)).drew.grownBy w2 (some b)) := ⟨hm2, hg2⟩
    clear hm2 hg2 hs2
    have c1b := ((HS.out.below hB).alloc (.cells #[.int .i64 A, .int .i64 (T + -d)] 116)).c1
    go_region
    go_wp2
    go_ret2
    refine ⟨rfl, clock, ?_, ?_⟩
    · rw [Int.add_zero]
      exact ((HS.out.below hB).alloc _).drew.put HM.out.1 HM.out.2 a1 (by omega)
    · exact ((((Fr.of_new (S := fun k => k = b) hB).alloc _).drew).grown HM.out.2 (fun i e => .inl (by injection e with e; exact e.symm))).grownBy _ (fun i e => by rw [e])
  · have hd1 : ¬ d < 0 := by omega
    have hm1 : max d 0 = d := by omega
    have hm2 : max (-d) 0 = 0 := by omega
    rw [hm1, hm2]
    clear hm1 hm2 d0
    go_enter Tryd.func15, Tryd.ntmps15
    go_wp2_with (first | (go_at_call 61; refine (tx_true _ _ t1 t2).mono ?_; rintro e w' ⟨rfl, rfl⟩) | (go_at_call 17; refine HC.out.mono ?_; rintro e w1 ⟨rfl, hB⟩; have c1 := (HS.out.below hB).c1; have hl := run_lookup_map (P := Tryd.prog) (HS.out.below hB).map Tryd.underlying111 Tryd.underlying3 zero_asked tx false; rw [show (mget L tx).getD (.agg #[.int .i64 0, .int .i64 0]) = .agg #[.int .i64 A, .int .i64 T] from HA.out] at hl; have hsz := hB.size))
    obtain ⟨w2, clock, hup, hm2, hg2, hs2⟩ := run_mapUpdate_map (P := Tryd.prog) (w := (w1.alloc (.cells #[.int .i64 (A + d), .int .i64 T] 116)).drew) (b := b) (L := L) ((HS.out.below hB).alloc _).map.drew Tryd.underlying111 Tryd.underlying3 tx (.agg #[.int .i64 (A + d), .int .i64 T])
    clear hl
    have HM : Hid (IsMap w2 b (mput L tx (.agg #[.int .i64 (A + d), .int .i64 T]) clock) ∧ (w1.alloc (.cells #[.int .i64 (A + d), .int .i64 T] 116)).drew.grownBy w2 (some b)) := ⟨hm2, hg2⟩
    clear hm2 hg2 hs2
    have c1b := ((HS.out.below hB).alloc (.cells #[.int .i64 (A + d), .int .i64 T] 116)).c1
    go_region
    go_wp2
    go_ret2
    refine ⟨rfl, clock, ?_, ?_⟩
    · rw [Int.add_zero]
      exact ((HS.out.below hB).alloc _).drew.put HM.out.1 HM.out.2 (by omega) a2
    · exact ((((Fr.of_new (S := fun k => k = b) hB).alloc _).drew).grown HM.out.2 (fun i e => .inl (by injection e with e; exact e.symm))).grownBy _ (fun i e => by rw [e])
end Go.Proofs.YtbnobgoenoppkaaDoor
