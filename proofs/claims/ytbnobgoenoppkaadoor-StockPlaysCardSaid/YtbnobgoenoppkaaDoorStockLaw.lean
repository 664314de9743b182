/- StockPlays: the walk. -/
import Derived.Test.YtbnobgoenoppkaaDoorStockSt
import Derived.Deep.DeepCutAuto
import Derived.Deep.CutBlock
import Derived.Deep.Light
namespace Go.Proofs.YtbnobgoenoppkaaDoor
open Go.RowKit
set_option linter.unusedSimpArgs false
set_option linter.unusedVariables false

set_option maxRecDepth 1000000 in
set_option maxHeartbeats 8000000 in
theorem law_in (n : Int) (A : Option Addr) (steps : List (List Int)) (c : Nat) (w : World) (hR : RdSS w w.heap.size A steps) (hln : steps.length ≤ 9223372036854775807) (h0 : 0 ≤ n) (h1 : n ≤ 1000000) (hE : ErrVar w) :
    Calls Tryd.prog 3 #[.int .i64 n, .slice A steps.length c] w fun e w' => e = .returned (.bool true) ∧ Below w.heap.size w w' := by
  have hn1 : ¬ n < 0 := by omega
  have hn2 : ¬ 1000000 < n := by omega
  have HE := Lib.hid hE
  have HR := Lib.hid hR
  clear hE hR
  go_enter Tryd.func3, Tryd.ntmps3
  go_wp2_with (first
    | (go_at_call 12; refine (new_ok _ _ h0 h1).mono ?_; rintro e w' ⟨rfl, rfl⟩)
    | (go_at_call 13; refine (error_any none 0 true _ (HE.out.new (((Below.refl _ w).alloc (Nat.le_refl _) _).alloc (by simp) _)) rfl).mono ?_; rintro e w1 ⟨rfl, hB⟩))
  have hB1 : Below w.heap.size w w1 := (((Below.refl _ w).alloc (Nat.le_refl _) _).alloc (by simp) _).trans (hB.mono (by simp; omega))
  have n0 : 0 < w.heap.size := HE.out.lt
  have S0 : StockSt ((w1.alloc (.cells (arr7 fun _ => 0) 29)).alloc (.cells (arr7 fun _ => 0) 29)) (w.heap.size + 1) w.heap.size w1.heap.size (w1.heap.size + 1) n [] (fun _ => 0) (fun _ => 0) := by
    have hz : ((w.alloc (.map #[] 0)).alloc (.cells #[.int .i64 n, .map (some w.heap.size)] 113)).heap.size = w.heap.size + 2 := by simp
    have hSt : StockIs ((w.alloc (.map #[] 0)).alloc (.cells #[.int .i64 n, .map (some w.heap.size)] 113)) (w.heap.size + 1) w.heap.size n [] :=
      ⟨by rw [show w.heap.size + 1 = (w.alloc (.map #[] 0)).heap.size by simp]; exact heap_alloc_new _ _, ⟨0, by rw [heap_alloc_old _ _ (by simp)]; exact heap_alloc_new _ _, by constructor <;> simp⟩, by intro e he; simp at he⟩
    have hE1 : ErrVar w1 := (HE.out.new (((Below.refl _ w).alloc (Nat.le_refl _) _).alloc (by simp) _)).new hB
    exact ⟨((hSt.below hB).alloc _).alloc _, by rw [heap_alloc_old _ _ (by simp)]; exact heap_alloc_new _ _, by rw [show w1.heap.size + 1 = (w1.alloc (.cells (arr7 fun _ => 0) 29)).heap.size by simp]; exact heap_alloc_new _ _, coh_empty, by simp [upto]; omega, by simp [upto]; omega, hE1.new (((Below.refl _ w1).alloc (Nat.le_refl _) _).alloc (by simp) _)⟩
  have hsz : w.heap.size + 2 ≤ w1.heap.size := by have := hB.size; simp at this; omega
  have HB1 := Lib.hid hB1
  clear hB hB1
  generalize hga : w1.heap.size = ga at *
  go_loopg [9, 12] 100 (fun k s9 s12 wr => ∃ (i : Nat) (now : Int) (L : List MEnt) (A T : Int → Int), i + k = 100 ∧ s12 = .int .i64 i ∧ s9 = .int .i64 now ∧ StockSt wr (w.heap.size + 1) w.heap.size ga (ga + 1) now L A T ∧ Below w.heap.size w wr)
  case atStart => exact ⟨0, n, [], _, _, by omega, rfl, rfl, S0, (HB1.out.alloc (by omega) _).alloc (by simp; omega) _⟩
  case round =>
    obtain ⟨wo, rfl⟩ : ∃ wo : World, wo = wr := ⟨_, rfl⟩
    obtain ⟨ko, rfl⟩ : ∃ ko : Nat, ko = gk := ⟨_, rfl⟩
    obtain ⟨i, now, L, A, T, hk, rfl, rfl, hS, hBr⟩ := hrel
    clear S0
    by_cases hi : i < steps.length ∧ i < 80
    · obtain ⟨hi1, hi2⟩ := hi
      have HS := Lib.hid hS
      have HBr := Lib.hid hBr
      clear hS hBr
      obtain ⟨xs, hxs⟩ : ∃ xs, xs = steps[i] := ⟨_, rfl⟩
      obtain ⟨b, off, A', c', rfl, hbB, hcell, hRI⟩ := (HR.out.below HBr.out).at_ hi1
      rw [← hxs] at hcell hRI
      clear hxs
      have hbr : w.heap.size ≤ wo.heap.size := HBr.out.size
      have HRI := Lib.hid hRI
      clear hRI
      go_upto_block 2 with fail
      go_cut [13] (fun s13 wc => s13 = .pointer (some ⟨wo.heap.size, 0, none⟩) ∧ StockSt wc (w.heap.size + 1) w.heap.size ga (ga + 1) now L A T ∧ wc.heap[wo.heap.size]? = some (.cells (v3 xs 3) 30) ∧ Below w.heap.size w wc)
      --[S1
      case first => as_aux_lemma =>
        go_wp2
        go_loopg [14] 3 (fun k s14 wx => ∃ j : Nat, j + k = 3 ∧ s14 = .int .i64 j ∧ wx.heap[wo.heap.size]? = some (.cells (v3 xs j) 30) ∧ Fr (fun q => q = wo.heap.size) (wo.alloc (.cells #[.int .i64 0, .int .i64 0, .int .i64 0] 30)) wx)
        case atStart => exact ⟨0, rfl, rfl, heap_alloc_new _ _, Fr.refl _ _⟩
        case round =>
          obtain ⟨j, hjk, rfl, hv, hF⟩ := hrel
          have hlt1 := heap_lt hv
          have hFs := hF.size
          simp only [World.size_alloc] at hFs
          have hx1 : wr.cell? ⟨b, off + i, none⟩ = some (.slice A' xs.length c') := by
            rw [hF.cell (p := ⟨b, off + i, none⟩) (by simp; omega) (by simp; omega), World.cell?_alloc_lt _ _ ⟨b, off + i, none⟩ (by simp; omega)]
            exact hcell
          have hRx : RdI wr w.heap.size A' xs := HRI.out.below (((Below.refl _ wo).alloc (by omega) _).trans (hF.below (by simp; omega) (by intro q hq; omega)))
          have HV := Lib.hid hv
          have HF := Lib.hid hF
          by_cases hj : j < xs.length ∧ j < 3
          · obtain ⟨hj1, hj2⟩ := hj
            obtain ⟨b2, off2, rfl, hb2, _, hcx⟩ := hRx.at_ hj1
            have hcv : ∃ u, wr.cell? ⟨wo.heap.size, j, none⟩ = some u := by
              rw [cell_of_row wr _ j _ _ _ hv]
              have : j = 0 ∨ j = 1 ∨ j = 2 := by omega
              rcases this with rfl | rfl | rfl <;> exact ⟨_, rfl⟩
            obtain ⟨u, hcv⟩ := hcv
            have hfv : wr.frozen? ⟨wo.heap.size, j, none⟩ = false := by simp [World.frozen?, hv]
            generalize hy : xs[j] = y at *
            have HY := Lib.hid hy
            clear hv hF hRx hy
            go_wp2
            go_roundg (gk - 1)
            case measure => omega
            case rel =>
              refine ⟨j + 1, by omega, by go_num, ?_, ?_⟩
              · rw [heap_setCell_same wr wo.heap.size j _ _ _ HV.out, ← HY.out, v3_set xs j hj2 hj1]
              · exact HF.out.setCell (.inl rfl) _
          · have hfull : 3 ≤ j ∨ xs.length ≤ j := by omega
            have HFu := Lib.hid hfull
            clear hv hF hRx
            by_cases hj1 : j < xs.length
            · have hj2 : ¬ j < 3 := by omega
              go_wp2
              go_meet
              case rel =>
                refine ⟨rfl, ?_, by rw [← v3_full xs j HFu.out]; exact HV.out, ?_⟩
                · have := HS.out.ltg
                  exact (HS.out.alloc _).fr HF.out (by omega) (by omega) (by omega) (by omega) (by omega)
                · exact HBr.out.trans (((Below.refl _ wo).alloc hbr _).trans (HF.out.below (by simp; omega) (by intro q hq; omega)))
            · go_wp2
              go_meet
              case rel =>
                refine ⟨rfl, ?_, by rw [← v3_full xs j HFu.out]; exact HV.out, ?_⟩
                · have := HS.out.ltg
                  exact (HS.out.alloc _).fr HF.out (by omega) (by omega) (by omega) (by omega) (by omega)
                · exact HBr.out.trans (((Below.refl _ wo).alloc hbr _).trans (HF.out.below (by simp; omega) (by intro q hq; omega)))
      --]S1
      case rest =>
        obtain ⟨rfl, hS2, hv2, hB2⟩ := hcut
        obtain ⟨w2, rfl⟩ : ∃ w2 : World, w2 = wc := ⟨_, rfl⟩
        obtain ⟨v0, v1, v2, hv3⟩ : ∃ v0 v1 v2 : Int, v3 xs 3 = #[.int .i64 v0, .int .i64 v1, .int .i64 v2] := ⟨_, _, _, rfl⟩
        rw [hv3] at hv2
        clear hv3
        have c0 : w2.cell? ⟨wo.heap.size, 0, none⟩ = some (.int .i64 v0) := by rw [cell_of_row w2 _ _ _ _ _ hv2]; rfl
        have c1 : w2.cell? ⟨wo.heap.size, 1, none⟩ = some (.int .i64 v1) := by rw [cell_of_row w2 _ _ _ _ _ hv2]; rfl
        have c2 : w2.cell? ⟨wo.heap.size, 2, none⟩ = some (.int .i64 v2) := by rw [cell_of_row w2 _ _ _ _ _ hv2]; rfl
        have HS2 := Lib.hid hS2
        have HB2 := Lib.hid hB2
        have HV2 := Lib.hid hv2
        have hgv := heap_lt hv2
        have q1 : 0 ≤ upto A 6 := (hS2.coh.upto_nonneg 6 (by omega)).1
        have q2 : 0 ≤ upto T 6 := (hS2.coh.upto_nonneg 6 (by omega)).2
        have q3 := hS2.lo
        have q4 := hS2.hi
        clear hS2 hB2 hv2 hcell
        go_upto_if 86 with (go_at_call 14; refine (rtx_any _ _).mono ?_; rintro e w' ⟨rfl, rfl⟩)
        go_cut [5, 15] (fun s5 s15 wd => s5 = .int .i64 (if txB v1 then 0 else 1) ∧ s15 = .bool (txB v1) ∧ wd = w2)
        --[S2
        case first => as_aux_lemma =>
          cases hq : txB v1
          · go_wp2
            go_meet
            case rel => exact ⟨by rw [hq]; rfl, by rw [hq], rfl⟩
          · go_wp2
            go_meet
            case rel => exact ⟨by rw [hq]; rfl, by rw [hq], rfl⟩
        --]S2
        case rest =>
          obtain ⟨rfl, rfl, hw⟩ := hcut
          obtain rfl : w2 = wc := hw.symm
          clear hw
          go_upto_block 4 with fail
          go_cut [16, 17] (fun s16 s17 wd => s16 = .int .i64 (now - upto T 6) ∧ s17 = .int .i64 (now + upto A 6) ∧ wd = w2)
          --[S3
          case first => as_aux_lemma =>
            generalize (if txB v1 = true then (0 : Int) else 1) = e5 at *
            go_wp2
            go_loopg [16, 17, 18] 6 (fun k s16 s17 s18 wd => ∃ e : Nat, e + k = 6 ∧ s18 = .int .i64 ((e : Int) + 1) ∧ s16 = .int .i64 (now - upto T e) ∧ s17 = .int .i64 (now + upto A e) ∧ wd = w2)
            case atStart => exact ⟨0, rfl, rfl, by simp [upto], by simp [upto], rfl⟩
            case round =>
              obtain ⟨e, hek, rfl, rfl, rfl, hw⟩ := hrel
              obtain rfl : w2 = wr := hw.symm
              clear hw
              by_cases he : e < 6
              · have k1 := HS2.out.coh.nonneg (d := (e : Int) + 1) (by omega) (by omega)
                have k2 := upto_le (A := T) (m := e + 1) 6 (fun d h1 h2 => (HS2.out.coh.nonneg h1 (by omega)).2) (by omega)
                have k3 := upto_le (A := A) (m := e + 1) 6 (fun d h1 h2 => (HS2.out.coh.nonneg h1 (by omega)).1) (by omega)
                have k4 := (HS2.out.coh.upto_nonneg e (by omega))
                have d1 := arr7_cellN HS2.out.rt e he
                have d2 := arr7_cellN HS2.out.ra e he
                have e1 : upto T (e + 1) = upto T e + T ((e : Int) + 1) := rfl
                have e2 : upto A (e + 1) = upto A e + A ((e : Int) + 1) := rfl
                rw [e1] at k2
                rw [e2] at k3
                have E1 := Lib.hid e1
                have E2 := Lib.hid e2
                clear e1 e2
                generalize T ((e : Int) + 1) = te at *
                generalize A ((e : Int) + 1) = ae at *
                go_wp2
                go_roundg (gk - 1)
                case measure => omega
                case rel =>
                  refine ⟨e + 1, by omega, by go_num, ?_, ?_, rfl⟩
                  · rw [E1.out]; congr 1; omega
                  · rw [E2.out]; congr 1; omega
              · have he6 : e = 6 := by omega
                subst he6
                go_wp2
                go_meet
                case rel => exact ⟨rfl, rfl, rfl⟩
          --]S3
          case rest =>
            obtain ⟨rfl, rfl, hw⟩ := hcut
            obtain rfl : w2 = wc := hw.symm
            clear hw
            generalize hqq : txB v1 = qq at *
            go_upto_if 105 with fail
            go_cut [8, 9] (fun s8 s9 wd => ∃ (now' : Int) (L' : List MEnt) (A' T' : Int → Int), s8 = .bool true ∧ s9 = .int .i64 now' ∧ StockSt wd (w.heap.size + 1) w.heap.size ga (ga + 1) now' L' A' T' ∧ Below w.heap.size w wd)
            --[S4
            case first =>
              have hV := Lib.hid (show wo.heap.size ≠ ga by intro e; have := HS2.out.ra; rw [← e, HV2.out] at this; cases this)
              have hVc := Lib.hid (show wo.heap.size ≠ ga + 1 by intro e; have := HS2.out.rt; rw [← e, HV2.out] at this; cases this)
              have n1 := HB2.out.size
              by_cases hv0 : v0 < 2
              · by_cases hbad : v2 = 0 ∨ v2 < -1000000 ∨ 1000000 < v2
                · have HBAD := Lib.hid (show (v1 < 1 ∨ 6 < v1) ∨ v2 = 0 ∨ v2 < -1000000 ∨ 1000000 < v2 from .inr hbad)
                  rcases hbad with hb | hb | hb
                  · subst hb
                    --[W1
                    as_aux_lemma =>
                      go_wp2_with (first
                        | (go_at_call 15; refine (ask_bad _ _ _ _ HBAD.out).mono ?_; rintro e w' ⟨rfl, rfl⟩)
                        | (go_at_call 13; refine (error_any (some 1) 1 true _ HS2.out.err rfl).mono ?_; rintro e w3 ⟨rfl, hB3⟩))
                      go_meet
                      case rel => exact ⟨now, L, A, T, rfl, rfl, HS2.out.new hB3, HB2.out.trans (hB3.mono n1)⟩
                    --]W1
                  · have hb0 : (v2 == 0) = false := by simp; omega
                    --[W2
                    as_aux_lemma =>
                      go_wp2_with (first
                        | (go_at_call 15; refine (ask_bad _ _ _ _ HBAD.out).mono ?_; rintro e w' ⟨rfl, rfl⟩)
                        | (go_at_call 13; refine (error_any (some 1) 1 true _ HS2.out.err rfl).mono ?_; rintro e w3 ⟨rfl, hB3⟩))
                      go_meet
                      case rel => exact ⟨now, L, A, T, rfl, rfl, HS2.out.new hB3, HB2.out.trans (hB3.mono n1)⟩
                    --]W2
                  · have hb0 : (v2 == 0) = false := by simp; omega
                    have hb1 : ¬ v2 < -1000000 := by omega
                    --[W3
                    as_aux_lemma =>
                      go_wp2_with (first
                        | (go_at_call 15; refine (ask_bad _ _ _ _ HBAD.out).mono ?_; rintro e w' ⟨rfl, rfl⟩)
                        | (go_at_call 13; refine (error_any (some 1) 1 true _ HS2.out.err rfl).mono ?_; rintro e w3 ⟨rfl, hB3⟩))
                      go_meet
                      case rel => exact ⟨now, L, A, T, rfl, rfl, HS2.out.new hB3, HB2.out.trans (hB3.mono n1)⟩
                    --]W3
                · have hb0 : (v2 == 0) = false := by simp; omega
                  have hb1 : ¬ v2 < -1000000 := by omega
                  have hb2 : ¬ 1000000 < v2 := by omega
                  clear hbad
                  cases qq
                  · have HBAD := Lib.hid (show (v1 < 1 ∨ 6 < v1) ∨ v2 = 0 ∨ v2 < -1000000 ∨ 1000000 < v2 from .inl (txB_false.1 hqq))
                    --[W4
                    as_aux_lemma =>
                      go_wp2_with (first
                        | (go_at_call 15; refine (ask_bad _ _ _ _ HBAD.out).mono ?_; rintro e w' ⟨rfl, rfl⟩)
                        | (go_at_call 13; refine (error_any (some 1) 1 true _ HS2.out.err rfl).mono ?_; rintro e w3 ⟨rfl, hB3⟩))
                      go_meet
                      case rel => exact ⟨now, L, A, T, rfl, rfl, HS2.out.new hB3, HB2.out.trans (hB3.mono n1)⟩
                    --]W4
                  · obtain ⟨t1, t2⟩ := txB_true.1 hqq
                    have hb0' : v2 ≠ 0 := by simpa using hb0
                    have HB0 := Lib.hid hb0'
                    clear hb0'
                    by_cases hneg : v2 < 0
                    · have hpos : ¬ 0 < v2 := by omega
                      by_cases hy : 0 ≤ now - upto T 6 + v2
                      · skip
                        have hc1 := arr7_cell HS2.out.rt v1 (by omega) t2
                        have hfz : w2.frozen? ⟨ga + 1, v1.toNat, none⟩ = false := by simp [World.frozen?, HS2.out.rt]
                        have hcn := HS2.out.coh.nonneg t1 t2
                        have hle := HS2.out.coh.le t1 t2
                        have hlt := HS2.out.ltg
                        have hF : Fr (fun k => k = ga + 1) w2 (w2.setCell ⟨ga + 1, v1.toNat, none⟩ (.int .i64 (T v1 - v2))).drew := ((Fr.refl (fun k => k = ga + 1) w2).setCell (.inl rfl) _).drew
                        have hvb := hV.out
                        have hvc := hVc.out
                        have d1 : (w2.setCell ⟨ga + 1, v1.toNat, none⟩ (.int .i64 (T v1 - v2))).drew.cell? ⟨wo.heap.size, 1, none⟩ = some (.int .i64 v1) := (hF.cell (p := ⟨wo.heap.size, 1, none⟩) hgv (by simp; omega)).trans c1
                        have d2 : (w2.setCell ⟨ga + 1, v1.toNat, none⟩ (.int .i64 (T v1 - v2))).drew.cell? ⟨wo.heap.size, 2, none⟩ = some (.int .i64 v2) := (hF.cell (p := ⟨wo.heap.size, 2, none⟩) hgv (by simp; omega)).trans c2
                        clear hF hvb hvc
                        --[W6
                        as_aux_lemma =>
                          go_upto_region 35 with fail
                          go_region
                          go_wp2_with (first
                            | (go_at_call 15; refine (HS2.out.askTake n0 (by omega) (by omega) (by omega) t1 t2 hneg (by omega) hy rfl).mono ?_; rintro e w3 ⟨rfl, L3, hS3, hF3⟩; have HS3 := Lib.hid hS3; have HF3 := Lib.hid hF3; clear hS3 hF3)
                            | (go_at_call 13; refine (error_any none 0 true _ HS3.out.err rfl).mono ?_; rintro e w4 ⟨rfl, hB4⟩))
                          go_meet
                          case rel => exact ⟨now, L3, A, (upd T v1 (T v1 - v2)), rfl, rfl, HS3.out.new hB4, (HB2.out.trans (HF3.out.below n1 (by intro q hq; omega))).trans (hB4.mono (Nat.le_trans n1 HF3.out.size))⟩
                        --]W6
                      · have hy' : now - upto T 6 + v2 < 0 := by omega
                        have HNO := Lib.hid (show now - upto T 6 + v2 < 0 ∨ 1000000 < now + upto A 6 + v2 from .inl hy')
                        --[W5
                        as_aux_lemma =>
                          go_wp2_with (first
                            | (go_at_call 15; refine (HS2.out.askNo t1 t2 HB0.out (by omega) (by omega) HNO.out).mono ?_; rintro e w3 ⟨rfl, hB3⟩; have HB3 := Lib.hid hB3; clear hB3)
                            | (go_at_call 13; refine (error_any none 0 true _ (HS2.out.new HB3.out).err rfl).mono ?_; rintro e w4 ⟨rfl, hB4⟩))
                          go_meet
                          case rel => exact ⟨now, L, A, T, rfl, rfl, (HS2.out.new HB3.out).new hB4, (HB2.out.trans (HB3.out.mono n1)).trans (hB4.mono (Nat.le_trans n1 HB3.out.size))⟩
                        --]W5
                    · have hpos : 0 < v2 := by have := HB0.out; omega
                      by_cases hy : now + upto A 6 + v2 ≤ 1000000
                      · skip
                        have hc1 := arr7_cell HS2.out.ra v1 (by omega) t2
                        have hfz : w2.frozen? ⟨ga, v1.toNat, none⟩ = false := by simp [World.frozen?, HS2.out.ra]
                        have hcn := HS2.out.coh.nonneg t1 t2
                        have hle := HS2.out.coh.le t1 t2
                        have hlt := HS2.out.ltg
                        have hF : Fr (fun k => k = ga) w2 (w2.setCell ⟨ga, v1.toNat, none⟩ (.int .i64 (A v1 + v2))).drew := ((Fr.refl (fun k => k = ga) w2).setCell (.inl rfl) _).drew
                        have hvb := hV.out
                        have hvc := hVc.out
                        have d1 : (w2.setCell ⟨ga, v1.toNat, none⟩ (.int .i64 (A v1 + v2))).drew.cell? ⟨wo.heap.size, 1, none⟩ = some (.int .i64 v1) := (hF.cell (p := ⟨wo.heap.size, 1, none⟩) hgv (by simp; omega)).trans c1
                        have d2 : (w2.setCell ⟨ga, v1.toNat, none⟩ (.int .i64 (A v1 + v2))).drew.cell? ⟨wo.heap.size, 2, none⟩ = some (.int .i64 v2) := (hF.cell (p := ⟨wo.heap.size, 2, none⟩) hgv (by simp; omega)).trans c2
                        clear hF hvb hvc
                        --[W7
                        as_aux_lemma =>
                          go_upto_region 38 with fail
                          go_region
                          go_wp2_with (first
                            | (go_at_call 15; refine (HS2.out.askAdd n0 (by omega) (by omega) (by omega) t1 t2 hpos (by omega) hy rfl).mono ?_; rintro e w3 ⟨rfl, L3, hS3, hF3⟩; have HS3 := Lib.hid hS3; have HF3 := Lib.hid hF3; clear hS3 hF3)
                            | (go_at_call 13; refine (error_any none 0 true _ HS3.out.err rfl).mono ?_; rintro e w4 ⟨rfl, hB4⟩))
                          go_meet
                          case rel => exact ⟨now, L3, (upd A v1 (A v1 + v2)), T, rfl, rfl, HS3.out.new hB4, (HB2.out.trans (HF3.out.below n1 (by intro q hq; omega))).trans (hB4.mono (Nat.le_trans n1 HF3.out.size))⟩
                        --]W7
                      · have hy' : 1000000 < now + upto A 6 + v2 := by omega
                        have HNO := Lib.hid (show now - upto T 6 + v2 < 0 ∨ 1000000 < now + upto A 6 + v2 from .inr hy')
                        --[W8
                        as_aux_lemma =>
                          go_wp2_with (first
                            | (go_at_call 15; refine (HS2.out.askNo t1 t2 HB0.out (by omega) (by omega) HNO.out).mono ?_; rintro e w3 ⟨rfl, hB3⟩; have HB3 := Lib.hid hB3; clear hB3)
                            | (go_at_call 13; refine (error_any none 0 true _ (HS2.out.new HB3.out).err rfl).mono ?_; rintro e w4 ⟨rfl, hB4⟩))
                          go_meet
                          case rel => exact ⟨now, L, A, T, rfl, rfl, (HS2.out.new HB3.out).new hB4, (HB2.out.trans (HB3.out.mono n1)).trans (hB4.mono (Nat.le_trans n1 HB3.out.size))⟩
                        --]W8
              · cases qq
                · have HBAD := Lib.hid (txB_false.1 hqq)
                  --[E1
                  as_aux_lemma =>
                    go_wp2_with (first
                      | (go_at_call 16; refine (end_bad _ _ _ _ HBAD.out).mono ?_; rintro e w' ⟨rfl, rfl⟩)
                      | (go_at_call 13; refine (error_any (some 1) 1 true _ HS2.out.err rfl).mono ?_; rintro e w3 ⟨rfl, hB3⟩))
                    go_meet
                    case rel => exact ⟨now, L, A, T, rfl, rfl, HS2.out.new hB3, HB2.out.trans (hB3.mono n1)⟩
                  --]E1
                · obtain ⟨t1, t2⟩ := txB_true.1 hqq
                  have aa1 := arr7_cell HS2.out.ra v1 (by omega) t2
                  have at1 := arr7_cell HS2.out.rt v1 (by omega) t2
                  have fa1 : w2.frozen? ⟨ga, v1.toNat, none⟩ = false := by simp [World.frozen?, HS2.out.ra]
                  have ft1 : w2.frozen? ⟨ga + 1, v1.toNat, none⟩ = false := by simp [World.frozen?, HS2.out.rt]
                  have hcn := HS2.out.coh.nonneg t1 t2
                  have hle := HS2.out.coh.le t1 t2
                  have hlt := HS2.out.ltg
                  have hvb := hV.out
                  have hvc := hVc.out
                  by_cases hA : A v1 = 0
                  · have hA1 : (A v1 == 0) = true := by simpa using hA
                    by_cases hT : T v1 = 0
                    · have hT1 : (T v1 == 0) = true := by simpa using hT
                      have HA := Lib.hid hA
                      have HT := Lib.hid hT
                      clear hA hT
                      --[E2
                      as_aux_lemma =>
                        go_wp2_with (first
                          | (go_at_call 16; refine (HS2.out.endNone t1 t2 HA.out HT.out _).mono ?_; rintro e w3 ⟨rfl, hB3⟩; have HB3 := Lib.hid hB3; clear hB3)
                          | (go_at_call 13; refine (error_any (some 5) 5 true _ (HS2.out.new HB3.out).err rfl).mono ?_; rintro e w4 ⟨rfl, hB4⟩))
                        go_meet
                        case rel => exact ⟨now, L, A, T, rfl, rfl, (HS2.out.new HB3.out).new hB4, (HB2.out.trans (HB3.out.mono n1)).trans (hB4.mono (Nat.le_trans n1 HB3.out.size))⟩
                      --]E2
                    · have hT1 : (T v1 == 0) = false := by simpa using hT
                      have HNE := Lib.hid (show ¬ (A v1 = 0 ∧ T v1 = 0) from fun q => hT q.2)
                      clear hA hT
                      cases hv2 : (v0 == 2)
                      · skip
                        have hF1 : Fr (fun k => k = ga ∨ k = ga + 1) w2 (w2.setCell ⟨ga, v1.toNat, none⟩ (.int .i64 0)) := (Fr.refl _ w2).setCell (.inl (.inl rfl)) _
                        have hF2 : Fr (fun k => k = ga ∨ k = ga + 1) w2 ((w2.setCell ⟨ga, v1.toNat, none⟩ (.int .i64 0)).setCell ⟨ga + 1, v1.toNat, none⟩ (.int .i64 0)) := hF1.setCell (.inl (.inr rfl)) _
                        have hF0 : Fr (fun k => k = ga) w2 (w2.setCell ⟨ga, v1.toNat, none⟩ (.int .i64 0)) := (Fr.refl (fun k => k = ga) w2).setCell (.inl rfl) _
                        have d1 : (w2.setCell ⟨ga, v1.toNat, none⟩ (.int .i64 0)).cell? ⟨wo.heap.size, 1, none⟩ = some (.int .i64 v1) := (hF1.cell (p := ⟨wo.heap.size, 1, none⟩) hgv (by simp; omega)).trans c1
                        have d2 : ((w2.setCell ⟨ga, v1.toNat, none⟩ (.int .i64 0)).setCell ⟨ga + 1, v1.toNat, none⟩ (.int .i64 0)).cell? ⟨wo.heap.size, 1, none⟩ = some (.int .i64 v1) := (hF2.cell (p := ⟨wo.heap.size, 1, none⟩) hgv (by simp; omega)).trans c1
                        have d3 : ((w2.setCell ⟨ga, v1.toNat, none⟩ (.int .i64 0)).setCell ⟨ga + 1, v1.toNat, none⟩ (.int .i64 0)).cell? ⟨wo.heap.size, 0, none⟩ = some (.int .i64 v0) := (hF2.cell (p := ⟨wo.heap.size, 0, none⟩) hgv (by simp; omega)).trans c0
                        have d4 : (w2.setCell ⟨ga, v1.toNat, none⟩ (.int .i64 0)).cell? ⟨ga + 1, v1.toNat, none⟩ = some (.int .i64 (T v1)) := (hF0.cell (p := ⟨ga + 1, v1.toNat, none⟩) hlt.2.2.2.1 (by simp)).trans at1
                        have d5 : (w2.setCell ⟨ga, v1.toNat, none⟩ (.int .i64 0)).frozen? ⟨ga + 1, v1.toNat, none⟩ = false := (hF0.frozen (p := ⟨ga + 1, v1.toNat, none⟩) hlt.2.2.2.1 (by simp)).trans ft1
                        clear hF0 hF1 hF2
                        --[E3
                        as_aux_lemma =>
                          go_wp2_with (first
                            | (go_at_call 16; refine (HS2.out.endAbort n0 (by omega) (by omega) (by omega) t1 t2 HNE.out ⟨rfl, rfl, rfl, rfl⟩).mono ?_; rintro e w3 ⟨rfl, L3, hS3, hF3⟩; have HS3 := Lib.hid hS3; have HF3 := Lib.hid hF3; clear hS3 hF3)
                            | (go_at_call 13; refine (error_any none 0 true _ HS3.out.err rfl).mono ?_; rintro e w4 ⟨rfl, hB4⟩))
                          go_meet
                          case rel => exact ⟨now, L3, (upd A v1 0), (upd T v1 0), rfl, rfl, HS3.out.new hB4, (HB2.out.trans (HF3.out.below n1 (by intro q hq; omega))).trans (hB4.mono (Nat.le_trans n1 HF3.out.size))⟩
                        --]E3
                      · skip
                        go_upto_region 46 with fail
                        go_quiet (fail)
                        have hF1 : Fr (fun k => k = ga ∨ k = ga + 1) w2 ((w2.drewN nq).setCell ⟨ga, v1.toNat, none⟩ (.int .i64 0)) := ((Fr.refl _ w2).drewN nq).setCell (.inl (.inl rfl)) _
                        have hF2 : Fr (fun k => k = ga ∨ k = ga + 1) w2 (((w2.drewN nq).setCell ⟨ga, v1.toNat, none⟩ (.int .i64 0)).setCell ⟨ga + 1, v1.toNat, none⟩ (.int .i64 0)) := hF1.setCell (.inl (.inr rfl)) _
                        have hF0 : Fr (fun k => k = ga) w2 ((w2.drewN nq).setCell ⟨ga, v1.toNat, none⟩ (.int .i64 0)) := ((Fr.refl (fun k => k = ga) w2).drewN nq).setCell (.inl rfl) _
                        have d1 : ((w2.drewN nq).setCell ⟨ga, v1.toNat, none⟩ (.int .i64 0)).cell? ⟨wo.heap.size, 1, none⟩ = some (.int .i64 v1) := (hF1.cell (p := ⟨wo.heap.size, 1, none⟩) hgv (by simp; omega)).trans c1
                        have d2 : (((w2.drewN nq).setCell ⟨ga, v1.toNat, none⟩ (.int .i64 0)).setCell ⟨ga + 1, v1.toNat, none⟩ (.int .i64 0)).cell? ⟨wo.heap.size, 1, none⟩ = some (.int .i64 v1) := (hF2.cell (p := ⟨wo.heap.size, 1, none⟩) hgv (by simp; omega)).trans c1
                        have d3 : (((w2.drewN nq).setCell ⟨ga, v1.toNat, none⟩ (.int .i64 0)).setCell ⟨ga + 1, v1.toNat, none⟩ (.int .i64 0)).cell? ⟨wo.heap.size, 0, none⟩ = some (.int .i64 v0) := (hF2.cell (p := ⟨wo.heap.size, 0, none⟩) hgv (by simp; omega)).trans c0
                        have d4 : ((w2.drewN nq).setCell ⟨ga, v1.toNat, none⟩ (.int .i64 0)).cell? ⟨ga + 1, v1.toNat, none⟩ = some (.int .i64 (T v1)) := (hF0.cell (p := ⟨ga + 1, v1.toNat, none⟩) hlt.2.2.2.1 (by simp)).trans at1
                        have d5 : ((w2.drewN nq).setCell ⟨ga, v1.toNat, none⟩ (.int .i64 0)).frozen? ⟨ga + 1, v1.toNat, none⟩ = false := (hF0.frozen (p := ⟨ga + 1, v1.toNat, none⟩) hlt.2.2.2.1 (by simp)).trans ft1
                        clear hF0 hF1 hF2
                        --[E4
                        as_aux_lemma =>
                          go_wp2_with (first
                            | (go_at_call 16; refine (HS2.out.endCommit (w1 := ((w2.drewN nq).setCell ⟨ga, v1.toNat, none⟩ (.int .i64 0)).setCell ⟨ga + 1, v1.toNat, none⟩ (.int .i64 0)) n0 (by omega) (by omega) (by omega) t1 t2 HNE.out ⟨rfl, rfl, rfl, rfl⟩).mono ?_; rintro e w3 ⟨rfl, L3, hS3, hF3⟩; have HS3 := Lib.hid hS3; have HF3 := Lib.hid hF3; clear hS3 hF3)
                            | (go_at_call 13; refine (error_any none 0 true _ HS3.out.err rfl).mono ?_; rintro e w4 ⟨rfl, hB4⟩))
                          go_meet
                          case rel => exact ⟨(now + A v1 - T v1), L3, (upd A v1 0), (upd T v1 0), rfl, rfl, HS3.out.new hB4, (HB2.out.trans (HF3.out.below n1 (by intro q hq; omega))).trans (hB4.mono (Nat.le_trans n1 HF3.out.size))⟩
                        --]E4
                  · have hA1 : (A v1 == 0) = false := by simpa using hA
                    have HNE := Lib.hid (show ¬ (A v1 = 0 ∧ T v1 = 0) from fun q => hA q.1)
                    clear hA
                    cases hv2 : (v0 == 2)
                    · skip
                      have hF1 : Fr (fun k => k = ga ∨ k = ga + 1) w2 (w2.setCell ⟨ga, v1.toNat, none⟩ (.int .i64 0)) := (Fr.refl _ w2).setCell (.inl (.inl rfl)) _
                      have hF2 : Fr (fun k => k = ga ∨ k = ga + 1) w2 ((w2.setCell ⟨ga, v1.toNat, none⟩ (.int .i64 0)).setCell ⟨ga + 1, v1.toNat, none⟩ (.int .i64 0)) := hF1.setCell (.inl (.inr rfl)) _
                      have hF0 : Fr (fun k => k = ga) w2 (w2.setCell ⟨ga, v1.toNat, none⟩ (.int .i64 0)) := (Fr.refl (fun k => k = ga) w2).setCell (.inl rfl) _
                      have d1 : (w2.setCell ⟨ga, v1.toNat, none⟩ (.int .i64 0)).cell? ⟨wo.heap.size, 1, none⟩ = some (.int .i64 v1) := (hF1.cell (p := ⟨wo.heap.size, 1, none⟩) hgv (by simp; omega)).trans c1
                      have d2 : ((w2.setCell ⟨ga, v1.toNat, none⟩ (.int .i64 0)).setCell ⟨ga + 1, v1.toNat, none⟩ (.int .i64 0)).cell? ⟨wo.heap.size, 1, none⟩ = some (.int .i64 v1) := (hF2.cell (p := ⟨wo.heap.size, 1, none⟩) hgv (by simp; omega)).trans c1
                      have d3 : ((w2.setCell ⟨ga, v1.toNat, none⟩ (.int .i64 0)).setCell ⟨ga + 1, v1.toNat, none⟩ (.int .i64 0)).cell? ⟨wo.heap.size, 0, none⟩ = some (.int .i64 v0) := (hF2.cell (p := ⟨wo.heap.size, 0, none⟩) hgv (by simp; omega)).trans c0
                      have d4 : (w2.setCell ⟨ga, v1.toNat, none⟩ (.int .i64 0)).cell? ⟨ga + 1, v1.toNat, none⟩ = some (.int .i64 (T v1)) := (hF0.cell (p := ⟨ga + 1, v1.toNat, none⟩) hlt.2.2.2.1 (by simp)).trans at1
                      have d5 : (w2.setCell ⟨ga, v1.toNat, none⟩ (.int .i64 0)).frozen? ⟨ga + 1, v1.toNat, none⟩ = false := (hF0.frozen (p := ⟨ga + 1, v1.toNat, none⟩) hlt.2.2.2.1 (by simp)).trans ft1
                      clear hF0 hF1 hF2
                      --[E5
                      as_aux_lemma =>
                        go_wp2_with (first
                          | (go_at_call 16; refine (HS2.out.endAbort n0 (by omega) (by omega) (by omega) t1 t2 HNE.out ⟨rfl, rfl, rfl, rfl⟩).mono ?_; rintro e w3 ⟨rfl, L3, hS3, hF3⟩; have HS3 := Lib.hid hS3; have HF3 := Lib.hid hF3; clear hS3 hF3)
                          | (go_at_call 13; refine (error_any none 0 true _ HS3.out.err rfl).mono ?_; rintro e w4 ⟨rfl, hB4⟩))
                        go_meet
                        case rel => exact ⟨now, L3, (upd A v1 0), (upd T v1 0), rfl, rfl, HS3.out.new hB4, (HB2.out.trans (HF3.out.below n1 (by intro q hq; omega))).trans (hB4.mono (Nat.le_trans n1 HF3.out.size))⟩
                      --]E5
                    · skip
                      go_upto_region 46 with fail
                      go_quiet (fail)
                      have hF1 : Fr (fun k => k = ga ∨ k = ga + 1) w2 ((w2.drewN nq).setCell ⟨ga, v1.toNat, none⟩ (.int .i64 0)) := ((Fr.refl _ w2).drewN nq).setCell (.inl (.inl rfl)) _
                      have hF2 : Fr (fun k => k = ga ∨ k = ga + 1) w2 (((w2.drewN nq).setCell ⟨ga, v1.toNat, none⟩ (.int .i64 0)).setCell ⟨ga + 1, v1.toNat, none⟩ (.int .i64 0)) := hF1.setCell (.inl (.inr rfl)) _
                      have hF0 : Fr (fun k => k = ga) w2 ((w2.drewN nq).setCell ⟨ga, v1.toNat, none⟩ (.int .i64 0)) := ((Fr.refl (fun k => k = ga) w2).drewN nq).setCell (.inl rfl) _
                      have d1 : ((w2.drewN nq).setCell ⟨ga, v1.toNat, none⟩ (.int .i64 0)).cell? ⟨wo.heap.size, 1, none⟩ = some (.int .i64 v1) := (hF1.cell (p := ⟨wo.heap.size, 1, none⟩) hgv (by simp; omega)).trans c1
                      have d2 : (((w2.drewN nq).setCell ⟨ga, v1.toNat, none⟩ (.int .i64 0)).setCell ⟨ga + 1, v1.toNat, none⟩ (.int .i64 0)).cell? ⟨wo.heap.size, 1, none⟩ = some (.int .i64 v1) := (hF2.cell (p := ⟨wo.heap.size, 1, none⟩) hgv (by simp; omega)).trans c1
                      have d3 : (((w2.drewN nq).setCell ⟨ga, v1.toNat, none⟩ (.int .i64 0)).setCell ⟨ga + 1, v1.toNat, none⟩ (.int .i64 0)).cell? ⟨wo.heap.size, 0, none⟩ = some (.int .i64 v0) := (hF2.cell (p := ⟨wo.heap.size, 0, none⟩) hgv (by simp; omega)).trans c0
                      have d4 : ((w2.drewN nq).setCell ⟨ga, v1.toNat, none⟩ (.int .i64 0)).cell? ⟨ga + 1, v1.toNat, none⟩ = some (.int .i64 (T v1)) := (hF0.cell (p := ⟨ga + 1, v1.toNat, none⟩) hlt.2.2.2.1 (by simp)).trans at1
                      have d5 : ((w2.drewN nq).setCell ⟨ga, v1.toNat, none⟩ (.int .i64 0)).frozen? ⟨ga + 1, v1.toNat, none⟩ = false := (hF0.frozen (p := ⟨ga + 1, v1.toNat, none⟩) hlt.2.2.2.1 (by simp)).trans ft1
                      clear hF0 hF1 hF2
                      --[E6
                      as_aux_lemma =>
                        go_wp2_with (first
                          | (go_at_call 16; refine (HS2.out.endCommit (w1 := ((w2.drewN nq).setCell ⟨ga, v1.toNat, none⟩ (.int .i64 0)).setCell ⟨ga + 1, v1.toNat, none⟩ (.int .i64 0)) n0 (by omega) (by omega) (by omega) t1 t2 HNE.out ⟨rfl, rfl, rfl, rfl⟩).mono ?_; rintro e w3 ⟨rfl, L3, hS3, hF3⟩; have HS3 := Lib.hid hS3; have HF3 := Lib.hid hF3; clear hS3 hF3)
                          | (go_at_call 13; refine (error_any none 0 true _ HS3.out.err rfl).mono ?_; rintro e w4 ⟨rfl, hB4⟩))
                        go_meet
                        case rel => exact ⟨(now + A v1 - T v1), L3, (upd A v1 0), (upd T v1 0), rfl, rfl, HS3.out.new hB4, (HB2.out.trans (HF3.out.below n1 (by intro q hq; omega))).trans (hB4.mono (Nat.le_trans n1 HF3.out.size))⟩
                      --]E6
            --]S4
            case rest =>
              obtain ⟨now4, L4, A4, T4, rfl, rfl, hS4, hB4⟩ := hcut
              obtain ⟨w4, rfl⟩ : ∃ w4 : World, w4 = wc := ⟨_, rfl⟩
              have HS4 := Lib.hid hS4
              have HB4 := Lib.hid hB4
              have q5 : 0 ≤ upto A4 6 := (hS4.coh.upto_nonneg 6 (by omega)).1
              have q6 : 0 ≤ upto T4 6 := (hS4.coh.upto_nonneg 6 (by omega)).2
              have q7 := hS4.lo
              have q8 := hS4.hi
              clear hS4 hB4 q1 q2 q3 q4 c0 c1 c2
              --[S5
              as_aux_lemma =>
                go_upto_block 6 with fail
                go_cut [16, 17] (fun s16 s17 wd => s16 = .int .i64 (now4 - upto T4 6) ∧ s17 = .int .i64 (now4 + upto A4 6) ∧ wd = w4)
                case first =>
                  go_wp2
                  go_loopg [16, 17, 25] 6 (fun k s16 s17 s25 wd => ∃ e : Nat, e + k = 6 ∧ s25 = .int .i64 ((e : Int) + 1) ∧ s16 = .int .i64 (now4 - upto T4 e) ∧ s17 = .int .i64 (now4 + upto A4 e) ∧ wd = w4)
                  case atStart => exact ⟨0, rfl, rfl, by simp [upto], by simp [upto], rfl⟩
                  case round =>
                    obtain ⟨e, hek, rfl, rfl, rfl, hw⟩ := hrel
                    obtain rfl : w4 = wr := hw.symm
                    clear hw
                    by_cases he : e < 6
                    · have k1 := HS4.out.coh.nonneg (d := (e : Int) + 1) (by omega) (by omega)
                      have k2 := upto_le (A := T4) (m := e + 1) 6 (fun d h1 h2 => (HS4.out.coh.nonneg h1 (by omega)).2) (by omega)
                      have k3 := upto_le (A := A4) (m := e + 1) 6 (fun d h1 h2 => (HS4.out.coh.nonneg h1 (by omega)).1) (by omega)
                      have k4 := (HS4.out.coh.upto_nonneg e (by omega))
                      have d1 := arr7_cellN HS4.out.rt e he
                      have d2 := arr7_cellN HS4.out.ra e he
                      have e1 : upto T4 (e + 1) = upto T4 e + T4 ((e : Int) + 1) := rfl
                      have e2 : upto A4 (e + 1) = upto A4 e + A4 ((e : Int) + 1) := rfl
                      rw [e1] at k2
                      rw [e2] at k3
                      have E1 := Lib.hid e1
                      have E2 := Lib.hid e2
                      clear e1 e2
                      generalize T4 ((e : Int) + 1) = te at *
                      generalize A4 ((e : Int) + 1) = ae at *
                      go_wp2
                      go_roundg (gk - 1)
                      case measure => omega
                      case rel =>
                        refine ⟨e + 1, by omega, by go_num, ?_, ?_, rfl⟩
                        · rw [E1.out]; congr 1; omega
                        · rw [E2.out]; congr 1; omega
                    · have he6 : e = 6 := by omega
                      subst he6
                      go_wp2
                      go_meet
                      case rel => exact ⟨rfl, rfl, rfl⟩
                case rest =>
                  obtain ⟨rfl, rfl, hw⟩ := hcut
                  obtain rfl : w4 = wc := hw.symm
                  clear hw
                  go_wp2_with (first
                    | (go_at_call 17; refine HS4.out.range.mono ?_; rintro e w5 ⟨rfl, hB5⟩; have HB5 := Lib.hid hB5; clear hB5)
                    | (go_at_call 18; refine (now_any _ now4 _ (HS4.out.new HB5.out).st.c0).mono ?_; rintro e w6 ⟨rfl, rfl⟩))
                  go_roundg (ko - 1)
                  case measure => omega
                  case rel =>
                    exact ⟨i + 1, now4, L4, A4, T4, by omega, by go_num, rfl, HS4.out.new HB5.out, HB4.out.trans (HB5.out.mono HB4.out.size)⟩
              --]S5
    · have HBr := Lib.hid hBr
      clear hS hBr
      --[S6
      as_aux_lemma =>
        by_cases hi1 : i < steps.length
        · have hi2 : ¬ i < 80 := by omega
          go_wp2
          go_ret
          exact ⟨rfl, HBr.out⟩
        · go_wp2
          go_ret
          exact ⟨rfl, HBr.out⟩
      --]S6

set_option maxRecDepth 1000000 in
set_option maxHeartbeats 8000000 in
theorem law_out (n : Int) (A : Option Addr) (l c : Nat) (w : World) (h : n < 0 ∨ 1000000 < n) (hE : ErrVar w) :
    Calls Tryd.prog 3 #[.int .i64 n, .slice A l c] w fun e w' => e = .returned (.bool true) ∧ Below w.heap.size w w' := by
  have HE := Lib.hid hE
  have HH := Lib.hid h
  clear hE
  rcases h with h | h
  · go_enter Tryd.func3, Tryd.ntmps3
    go_wp2_with (first
      | (go_at_call 12; refine (new_bad _ _ HH.out).mono ?_; rintro e w' ⟨rfl, rfl⟩)
      | (go_at_call 13; refine (error_any (some 1) 1 true _ HE.out rfl).mono ?_; rintro e w1 ⟨rfl, hB⟩))
    go_ret
    exact ⟨rfl, hB⟩
  · have h' : ¬ n < 0 := by omega
    go_enter Tryd.func3, Tryd.ntmps3
    go_wp2_with (first
      | (go_at_call 12; refine (new_bad _ _ HH.out).mono ?_; rintro e w' ⟨rfl, rfl⟩)
      | (go_at_call 13; refine (error_any (some 1) 1 true _ HE.out rfl).mono ?_; rintro e w1 ⟨rfl, hB⟩))
    go_ret
    exact ⟨rfl, hB⟩
end Go.Proofs.YtbnobgoenoppkaaDoor
