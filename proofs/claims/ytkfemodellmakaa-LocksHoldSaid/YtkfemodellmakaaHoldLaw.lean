/- LocksHold: the walk of the law. -/
import Derived.Test.YtkfemodellmakaaHoldOf
namespace Go.Proofs.Ytkfemodellmakaa
open Go.RowKit Go.Sort
set_option linter.unusedSimpArgs false
set_option linter.unusedVariables false
attribute [local go_sem ↓] Go.wp_at_zero Go.wp_at_succ

set_option maxRecDepth 1000000 in
set_option maxHeartbeats 8000000 in
theorem hold_law (A : Option Addr) (l : List OpV) (c : Nat) (A2 : Option Addr) (steps : List Int) (c2 : Nat) (w : World) (hR : RdO w w.heap.size A l) (hS : RdI w w.heap.size A2 steps) (hl : l.length ≤ 9223372036854775807) (hs : steps.length ≤ 9223372036854775807) :
    Calls Try.prog 4 #[.slice A l.length c, .slice A2 steps.length c2] w fun e w' => e = .returned (.bool true) ∧ Below w.heap.size w w' := by
  have HR := Lib.hid hR
  have HS := Lib.hid hS
  have HT0 := Lib.hid (tabOf0 w)
  have H1 : Hid (∀ w1 : World, TabOf w1 w.heap.size w.heap.size [] [] → w.heap.size ≤ w1.heap.size → Calls Try.prog 6 #[.pointer (some ⟨w.heap.size, 0, none⟩), (⟨1, 1, 2⟩ : OpV).agg] w1 fun e w' => e = .returned (.tuple #[.bool true, .nilIface]) ∧ TabOf w' w.heap.size w.heap.size [⟨1, 1, 2⟩] [] ∧ Below w.heap.size w1 w') := Lib.hid fun w1 hT hB =>
    ask_of w.heap.size w.heap.size [] [] ⟨1, 1, 2⟩ w1 hT hB (by simp) (by simp)
  have H2 : Hid (∀ w1 : World, TabOf w1 w.heap.size w.heap.size [⟨1, 1, 2⟩] [] → w.heap.size ≤ w1.heap.size → Calls Try.prog 6 #[.pointer (some ⟨w.heap.size, 0, none⟩), (⟨2, 1, 1⟩ : OpV).agg] w1 fun e w' => e = .returned (.tuple #[.bool false, .nilIface]) ∧ TabOf w' w.heap.size w.heap.size [⟨1, 1, 2⟩] [⟨2, 1, 1⟩] ∧ Below w.heap.size w1 w') := Lib.hid fun w1 hT hB =>
    ask_of w.heap.size w.heap.size [⟨1, 1, 2⟩] [] ⟨2, 1, 1⟩ w1 hT hB (by simp) (by simp)
  have H3 : Hid (∀ w1 : World, TabOf w1 w.heap.size w.heap.size [⟨1, 1, 2⟩] [⟨2, 1, 1⟩] → w.heap.size ≤ w1.heap.size → Calls Try.prog 8 #[.pointer (some ⟨w.heap.size, 0, none⟩), .int .i64 1] w1 fun e w' => ∃ b c, e = .returned (.tuple #[.slice (some ⟨b, 0, none⟩) 1 c, .nilIface]) ∧ w'.cell? ⟨b, 0, none⟩ = some (.int .i64 2) ∧ Below w.heap.size w1 w') := Lib.hid fun w1 hT hB => fact_of _ _ w1 hT hB
  clear hR hS
  go_enter Try.func4, Try.ntmps4
  go_upto_region 7 with (first
    | (go_at_call 5; refine (locksNew _).mono ?_; rintro e w' ⟨rfl, rfl⟩)
    | (go_at_call 6; refine (H1.out _ HT0.out (by simp)).mono ?_; rintro e w2 ⟨rfl, hT2, hB2⟩; have hs2 := hB2.size; simp at hs2; have HT2 := Lib.hid hT2; have HB2 := Lib.hid hB2; clear hT2 hB2 H1)
    | (go_at_call 6; refine (H2.out _ HT2.out (by omega)).mono ?_; rintro e w3 ⟨rfl, hT3, hB3⟩; have hs3 := hB3.size; have HT3 := Lib.hid hT3; have HB3 := Lib.hid hB3; clear hT3 hB3 H2)
    | (go_at_call 8; refine (H3.out _ HT3.out (by omega)).mono ?_; rintro e w4 ⟨b4, c4, rfl, hc4, hB4⟩; have hs4 := hB4.size; have HB4 := Lib.hid hB4; clear hB4))
  have hBw4 : Below w.heap.size w w4 := ((((Below.refl _ w).alloc (Nat.le_refl _) _).trans HB2.out).trans HB3.out).trans HB4.out
  have HBw4 := Lib.hid hBw4
  have hsw4 : w.heap.size ≤ w4.heap.size := hBw4.size
  clear HT0 H3 HT2 HT3 HB2 HB3 HB4 hs2 hs3 hs4 hc4 hBw4
  obtain ⟨V, rfl⟩ : ∃ V : World, V = w4 := ⟨_, rfl⟩
  have HT0 := Lib.hid (tabOf0 V)
  go_wp2_with (go_at_call 5; refine (locksNew _).mono ?_; rintro e w' ⟨rfl, rfl⟩)
  go_loopg [13, 14] 80 (fun k s13 s14 wx => ∃ (i a : Nat) (H W : List OpV), i + k = 80 ∧ s14 = .int .i64 i ∧ s13 = .int .i64 a ∧ a ≤ l.length ∧ TabOf wx V.heap.size V.heap.size H W ∧ Inv H W ∧ H.length + W.length ≤ i ∧ Below V.heap.size V wx)
  case atStart => exact ⟨0, 0, [], [], rfl, rfl, rfl, by omega, HT0.out, inv0, by simp, (Below.refl _ V).alloc (Nat.le_refl _) _⟩
  case round =>
    obtain ⟨wo, rfl⟩ : ∃ wo : World, wo = wr := ⟨_, rfl⟩
    obtain ⟨ko, rfl⟩ : ∃ ko : Nat, ko = gk := ⟨_, rfl⟩
    obtain ⟨i, a, H, W, hk, rfl, rfl, ha, hT, hI, hHW, hB⟩ := hrel
    have HT := Lib.hid hT
    have HI := Lib.hid hI
    have HB := Lib.hid hB
    have hsz : V.heap.size ≤ wo.heap.size := hB.size
    have hBw : Below w.heap.size w wo := HBw4.out.trans (hB.mono hsw4)
    have HBw := Lib.hid hBw
    clear hT hI hB hBw HT0
    by_cases hi : i < steps.length ∧ i < 80
    · obtain ⟨hi1, hi2⟩ := hi
      obtain ⟨b, off, rfl, hb, _, hcs⟩ := RdI.at_ (HS.out.below HBw.out) hi1
      have hbw : b < wo.heap.size := Nat.lt_of_lt_of_le hb (Nat.le_trans hsw4 hsz)
      generalize steps[i] = st at *
      go_upto_if 86 with fail
      go_cut [13] (fun s13 wd => ∃ (a' : Nat) (H' W' : List OpV), s13 = .int .i64 a' ∧ a' ≤ l.length ∧ TabOf wd V.heap.size V.heap.size H' W' ∧ Inv H' W' ∧ H'.length + W'.length ≤ i + 1 ∧ Below V.heap.size V wd)
      --[S1
      case first => as_aux_lemma =>
        by_cases hst : 0 < st
        · have HF := Lib.hid (free_of V.heap.size V.heap.size H W st wo HT.out HI.out hsz (by omega))
          go_wp2_with (go_at_call 8; refine HF.out.mono ?_; rintro e w5 ⟨v5, H', W', rfl, hT5, hI5, hl5, hB5⟩; have HT5 := Lib.hid hT5; have HI5 := Lib.hid hI5; have HB5 := Lib.hid hB5; clear hT5 hI5 hB5)
          go_meet
          case rel => exact ⟨a, H', W', rfl, ha, HT5.out, HI5.out, by omega, HB.out.trans HB5.out⟩
        · have hst' : st ≤ 0 := by omega
          by_cases hal : a < l.length
          · obtain ⟨bl, ol, rfl, hbl, _, hcl⟩ := (HR.out.below HBw.out).at_ hal
            have hblw : bl < wo.heap.size := Nat.lt_of_lt_of_le hbl (Nat.le_trans hsw4 hsz)
            generalize l[a] = y at *
            have q0 : wo.cell? ⟨bl, ol + a * 3, none⟩ = some (.int .i64 y.tx) := hcl 0 _ rfl
            have q1 : wo.cell? ⟨bl, ol + a * 3 + 1, none⟩ = some (.int .i64 y.what) := hcl 1 _ rfl
            have q2 : wo.cell? ⟨bl, ol + a * 3 + 2, none⟩ = some (.int .i64 y.item) := hcl 2 _ rfl
            have HA := Lib.hid (ask_of V.heap.size V.heap.size H W y wo HT.out hsz (by omega) (by omega))
            have HAI := Lib.hid (inv_ask HI.out y)
            have has := ask_sum H W y
            generalize askV H W y = r at *
            clear hcl
            go_wp2_with (go_at_call 6; refine HA.out.mono ?_; rintro e w5 ⟨rfl, hT5, hB5⟩; have HT5 := Lib.hid hT5; have HB5 := Lib.hid hB5; clear hT5 hB5)
            go_meet
            case rel => exact ⟨a + 1, r.H, r.W, by go_num, by omega, HT5.out, HAI.out, by omega, HB.out.trans HB5.out⟩
          · go_wp2
            go_meet
            case rel => exact ⟨a, H, W, rfl, ha, HT.out, HI.out, by omega, HB.out⟩
      --]S1
      case rest =>
        obtain ⟨a', H', W', rfl, ha', hT5, hI5, hl5, hB5⟩ := hcut
        obtain ⟨w5, rfl⟩ : ∃ w5 : World, w5 = wc := ⟨_, rfl⟩
        have HT5 := Lib.hid hT5
        have HI5 := Lib.hid hI5
        have HB5 := Lib.hid hB5
        have hs5 : V.heap.size ≤ w5.heap.size := hB5.size
        have HHe := Lib.hid (held_of V.heap.size V.heap.size H' W' w5 hT5 (by omega))
        clear hT5 hI5 hB5 HT HI HB HBw hsz hcs hbw
        go_wp2_with (go_at_call 9; refine HHe.out.mono ?_; rintro e w6 ⟨A6, c6, rfl, hR6, hT6, hB6⟩; have hs6 := hB6.size; have HR6 := Lib.hid hR6; have HT6 := Lib.hid hT6; have HB6 := Lib.hid hB6; clear hR6 hT6 hB6)
        go_loopg [16] H'.length (fun k s16 wx => ∃ q : Nat, q + k = H'.length ∧ s16 = .int .i64 q ∧ Below w6.heap.size w6 wx)
        case atStart => exact ⟨0, by omega, rfl, Below.refl _ _⟩
        case round =>
          obtain ⟨w7, rfl⟩ : ∃ w7 : World, w7 = wr := ⟨_, rfl⟩
          obtain ⟨k7, rfl⟩ : ∃ k7 : Nat, k7 = gk := ⟨_, rfl⟩
          obtain ⟨q, hq, rfl, hB7⟩ := hrel
          have HB7 := Lib.hid hB7
          have hs7 : w6.heap.size ≤ w7.heap.size := hB7.size
          clear hB7
          by_cases hql : q < H'.length
          · go_wp2
            go_loopg [17] q (fun k s17 wx => ∃ j : Nat, j + k = q ∧ s17 = .int .i64 j ∧ Below w6.heap.size w6 wx)
            case atStart => exact ⟨0, by omega, rfl, HB7.out⟩
            case round =>
              obtain ⟨w8, rfl⟩ : ∃ w8 : World, w8 = wr := ⟨_, rfl⟩
              obtain ⟨j, hj, rfl, hB8⟩ := hrel
              by_cases hjq : j < q
              · --[S2
                as_aux_lemma =>
                have hap := held_apart HI5.out q j hql hjq
                obtain ⟨bx, ox, e1, hbx, _, hcx⟩ := (HR6.out.below hB8).at_ hql
                obtain ⟨by', oy, e2, _, _, hcy⟩ := (HR6.out.below hB8).at_ (i := j) (by omega)
                subst e1
                cases e2
                generalize H'[q] = x at *
                generalize H'[j]'(by omega) = y at *
                have i1 : (0 : Int) ≤ (q : Int) := by omega
                have i2 : (q : Int) < (H'.length : Int) := by omega
                have i3 : (0 : Int) ≤ (j : Int) := by omega
                have i4 : (j : Int) < (H'.length : Int) := by omega
                have i5 : (j : Int) < (q : Int) := by omega
                have x0 : w8.cell? ⟨bx, ox + q * 3, none⟩ = some (.int .i64 x.tx) := hcx 0 _ rfl
                have x1 : w8.cell? ⟨bx, ox + q * 3 + 1, none⟩ = some (.int .i64 x.what) := hcx 1 _ rfl
                have x2 : w8.cell? ⟨bx, ox + q * 3 + 2, none⟩ = some (.int .i64 x.item) := hcx 2 _ rfl
                have y0 : w8.cell? ⟨bx, ox + j * 3, none⟩ = some (.int .i64 y.tx) := hcy 0 _ rfl
                have y1 : w8.cell? ⟨bx, ox + j * 3 + 1, none⟩ = some (.int .i64 y.what) := hcy 1 _ rfl
                have y2 : w8.cell? ⟨bx, ox + j * 3 + 2, none⟩ = some (.int .i64 y.item) := hcy 2 _ rfl
                have k0 := cell_regrown x0
                have k1 := cell_regrown x1
                have k2 := cell_regrown x2
                have k3 := cell_regrown y0
                have k4 := cell_regrown y1
                have k5 := cell_regrown y2
                have hro := rodds_any x y
                rw [hap.1] at hro
                have hap2 := hap.2
                have HRo := Lib.hid hro
                have HB8 := Lib.hid hB8
                have cF : ∀ d os, Calls Try.prog 10 #[x.agg, y.agg] (grow (redrawn w8 d) os) fun e w'' => e = .returned (.bool false) ∧ ∃ p : Regrown, w'' = grow (redrawn w8 p.d) p.os := fun d os => Calls.regrown_of (HRo.out _)
                obtain ⟨xt, xi, xm⟩ := x
                obtain ⟨yt, yi, ym⟩ := y
                simp only at hap2
                have HP2 := Lib.hid hap2
                clear hap hro hcx hcy hB8 hap2
                go_upto_region 24 with fail
                refine wp_region_quiet_below (by kernel_rfl) (by kernel_rfl) ?_
                repeat (quiet_step (exact cF _ _))
                refine wpQuiet_nil ?_
                intro _ hw'
                obtain ⟨⟨dq, osq⟩, hw''⟩ := hw'
                subst hw''
                have hBq := below_regrown w8 dq osq
                clear k0 k1 k2 k3 k4 k5 cF
                have z0 := (hBq.cell (block_lt_of_cell x0)).trans x0
                have z1 := (hBq.cell (block_lt_of_cell x1)).trans x1
                have z2 := (hBq.cell (block_lt_of_cell y0)).trans y0
                have z3 := (hBq.cell (block_lt_of_cell y1)).trans y1
                have HBq := Lib.hid hBq
                clear hBq
                generalize grow (redrawn w8 dq) osq = w9 at *
                rcases HP2.out with e1 | ⟨e1, e2⟩
                · go_wp2
                  go_quiet (fail)
                  go_wp2
                  go_roundg (gk - 1)
                  case measure => omega
                  case rel => exact ⟨j + 1, by omega, by go_num, below_drewN ((HB8.out.trans (HBq.out.mono HB8.out.size))) _⟩
                · go_wp2
                  go_quiet (fail)
                  go_wp2
                  go_roundg (gk - 1)
                  case measure => omega
                  case rel => exact ⟨j + 1, by omega, by go_num, below_drewN ((HB8.out.trans (HBq.out.mono HB8.out.size))) _⟩
                --]S2
              · obtain rfl : j = q := by omega
                have HB8 := Lib.hid hB8
                clear hB8
                go_wp2
                go_roundg (k7 - 1)
                case measure => omega
                case rel => exact ⟨j + 1, by omega, by go_num, HB8.out⟩
          · obtain rfl : q = H'.length := by omega
            have hB57 : Below V.heap.size V w7 := HB5.out.trans ((HB6.out.mono hs5).trans (HB7.out.mono (by omega)))
            have hT7 : TabOf w7 V.heap.size V.heap.size H' W' := HT6.out.new HB7.out
            have HB57 := Lib.hid hB57
            have HWt := Lib.hid (waits_of V.heap.size V.heap.size H' W' w7 hT7 (by omega))
            have hs57 := hB57.size
            clear hB57 hT7 HT6 HR6 HB6 HB7 HB5 HT5 HHe hs5 hs6
            go_wp2_with (go_at_call 11; refine HWt.out.mono ?_; rintro e wb ⟨A8, c8, rfl, hR8, hT8, hB8⟩; have hs8 := hB8.size; have HR8 := Lib.hid hR8; have HT8 := Lib.hid hT8; have HB8 := Lib.hid hB8; clear hR8 hT8 hB8)
            go_loopg [20] W'.length (fun k s20 wx => ∃ q : Nat, q + k = W'.length ∧ s20 = .int .i64 q ∧ TabOf wx V.heap.size V.heap.size H' W' ∧ Below wb.heap.size wb wx)
            case atStart => exact ⟨0, by omega, rfl, HT8.out, Below.refl _ _⟩
            case round =>
              obtain ⟨w9, rfl⟩ : ∃ w9 : World, w9 = wr := ⟨_, rfl⟩
              obtain ⟨k9, rfl⟩ : ∃ k9 : Nat, k9 = gk := ⟨_, rfl⟩
              obtain ⟨q, hq, rfl, hT9, hB9⟩ := hrel
              have hs9 : wb.heap.size ≤ w9.heap.size := hB9.size
              by_cases hql : q < W'.length
              · --[S3
                as_aux_lemma =>
                obtain ⟨hfn, hfr⟩ := for_ne HI5.out q hql
                have HFo := Lib.hid (for_of V.heap.size V.heap.size H' W' W'[q] w9 hT9 (by omega) (by omega) (by omega) hfr)
                obtain ⟨bx, ox, rfl, hbx, _, hcx⟩ := (HR8.out.below hB9).at_ hql
                have hon := waits_once HI5.out q
                have hrd : ∀ (wz : World) (j : Nat) (hj : j < W'.length), Below wb.heap.size wb wz → wz.cell? ⟨bx, ox + j * 3, none⟩ = some (.int .i64 (W'[j]'hj).tx) := fun wz j hj hz => by
                  obtain ⟨b', o', e, _, _, hc⟩ := (HR8.out.below hz).at_ hj
                  cases e
                  exact hc 0 _ rfl
                have HON := Lib.hid hon
                have HRD := Lib.hid hrd
                have HB9 := Lib.hid hB9
                obtain ⟨n, hn⟩ : ∃ n, n = (forV H' W' W'[q]).length := ⟨_, rfl⟩
                rw [← hn] at HFo hfn
                have hn0 : ((n : Int) == 0) = false := by simp; omega
                obtain ⟨x, hx⟩ : ∃ x, x = W'[q] := ⟨_, rfl⟩
                rw [← hx] at HFo hcx
                have HXq := Lib.hid hx
                have x0 : w9.cell? ⟨bx, ox + q * 3, none⟩ = some (.int .i64 x.tx) := hcx 0 _ rfl
                have x1 : w9.cell? ⟨bx, ox + q * 3 + 1, none⟩ = some (.int .i64 x.what) := hcx 1 _ rfl
                have x2 : w9.cell? ⟨bx, ox + q * 3 + 2, none⟩ = some (.int .i64 x.item) := hcx 2 _ rfl
                clear hT9 hB9 hcx hon hrd hn hx hfr
                go_wp2_with (go_at_call 7; refine HFo.out.mono ?_; rintro e wd ⟨A10, c10, rfl, _, hT10, hB10⟩; have hs10 := hB10.size; have HT10 := Lib.hid hT10; have HB10 := Lib.hid hB10; clear hT10 hB10)
                go_loopg [23] q (fun k s23 wx => ∃ j : Nat, j + k = q ∧ s23 = .int .i64 j ∧ Below wd.heap.size wd wx)
                case atStart => exact ⟨0, by omega, rfl, Below.refl _ _⟩
                case round =>
                  obtain ⟨w11, rfl⟩ : ∃ w11 : World, w11 = wr := ⟨_, rfl⟩
                  obtain ⟨j, hj, rfl, hB11⟩ := hrel
                  have hBz : Below wb.heap.size wb w11 := HB9.out.trans ((HB10.out.mono (by omega)).trans (hB11.mono (by omega)))
                  by_cases hjq : j < q
                  · have i1 : (0 : Int) ≤ (q : Int) := by omega
                    have i2 : (q : Int) < (W'.length : Int) := by omega
                    have i3 : (0 : Int) ≤ (j : Int) := by omega
                    have i4 : (j : Int) < (W'.length : Int) := by omega
                    have i5 : (j : Int) < (q : Int) := by omega
                    have z0 := HRD.out w11 q hql hBz
                    have z1 := HRD.out w11 j (by omega) hBz
                    have z2 := HON.out j hql hjq
                    generalize W'[q] = u at *
                    generalize W'[j]'(by omega) = v at *
                    have HB11 := Lib.hid hB11
                    clear hB11 hBz x0 x1 x2
                    go_wp2
                    go_quiet (fail)
                    go_wp2
                    go_roundg (gk - 1)
                    case measure => omega
                    case rel => exact ⟨j + 1, by omega, by go_num, below_drewN HB11.out _⟩
                  · obtain rfl : j = q := by omega
                    have HB11 := Lib.hid hB11
                    have HBz := Lib.hid hBz
                    clear hB11 hBz x0 x1 x2
                    go_wp2
                    go_roundg (k9 - 1)
                    case measure => omega
                    case rel => exact ⟨j + 1, by omega, by go_num, HT10.out.new HB11.out, HBz.out⟩
                --]S3
              · obtain rfl : q = W'.length := by omega
                have HT9 := Lib.hid hT9
                have hBz : Below V.heap.size V w9 := HB57.out.trans ((HB8.out.mono hs57).trans (hB9.mono (by omega)))
                have HBz := Lib.hid hBz
                clear hT9 hB9 hBz
                go_wp2
                go_roundg (ko - 1)
                case measure => omega
                case rel => exact ⟨i + 1, a', H', W', by omega, by go_num, rfl, ha', HT9.out, HI5.out, hl5, HBz.out⟩
    · --[S4
      as_aux_lemma =>
      by_cases hi1 : i < steps.length
      · have hi2 : ¬ i < 80 := by omega
        go_wp2
        go_ret
        exact ⟨rfl, HBw.out⟩
      · go_wp2
        go_ret
        exact ⟨rfl, HBw.out⟩
      --]S4
end Go.Proofs.Ytkfemodellmakaa
