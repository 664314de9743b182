/- (*locks.Table).Ask. -/
import Derived.Test.YtkfemodellmakaaHold
import Derived.Lib.QuietBelow
namespace Go.Proofs.Ytkfemodellmakaa
open Go.RowKit Go.Sort
set_option linter.unusedSimpArgs false
set_option linter.unusedVariables false
attribute [local go_sem ↓] Go.wp_at_zero Go.wp_at_succ

/-- The lock is held already, and no weaker. -/
def heldB (H : List OpV) (l : OpV) : Bool := match H.findIdx? (atB l.tx l.what) with | some i => decide (l.item ≤ (H.getD i ⟨0, 0, 0⟩).item) | none => false
def okB (H W : List OpV) (l : OpV) : Bool := !H.any (oddsB l) && !W.any (oddsB l)
structure AskV where
  H : List OpV
  W : List OpV
  is : Bool
  e : Option Int
def askV (H W : List OpV) (l : OpV) : AskV :=
  if lrightB l = false then ⟨H, W, false, some 1⟩ else if W.any (ofB l.tx) = true then ⟨H, W, false, some 7⟩ else if heldB H l = true then ⟨H, W, true, none⟩
  else if okB H W l = true then ⟨holdV H l, W, true, none⟩ else ⟨H, W ++ [l], false, none⟩

theorem below_drewN {B : Nat} {w w' : World} (h : Below B w w') (n : Nat) : Below B w (w'.drewN n) := ⟨h.os, h.tape, h.output, h.size, h.block⟩
/-- A table's facts, as the walk wants them. -/
theorem TabIs.parts {T : TypeId} {w : World} {g : Nat} {v1 v2 : Value} {H W : List OpV} (h : TabIs T w g v1 v2 H W) :
    ∃ A c A' c', v1 = .slice A H.length c ∧ v2 = .slice A' W.length c' ∧ w.cell? ⟨g, 0, none⟩ = some (.slice A H.length c) ∧ w.cell? ⟨g, 1, none⟩ = some (.slice A' W.length c') ∧ RdO w w.heap.size A H ∧ RdO w w.heap.size A' W := by
  obtain ⟨A, c, rfl, _, _⟩ := own_slice h.o1
  obtain ⟨A', c', rfl, _, _⟩ := own_slice h.o2
  exact ⟨A, c, A', c', rfl, rfl, by rw [cell_of_row w g _ _ _ _ h.blk]; rfl, by rw [cell_of_row w g _ _ _ _ h.blk]; rfl, of_own3 h.o1, of_own3 h.o2⟩

set_option maxRecDepth 100000 in
set_option maxHeartbeats 2000000 in
theorem ask_no (g : Nat) (v1 v2 : Value) (H W : List OpV) (l : OpV) (w : World) (hT : TabIs 41 w g v1 v2 H W) (hW : W.length ≤ 1000000) (hr : lrightB l = false ∨ (lrightB l = true ∧ W.any (ofB l.tx) = true)) :
    Calls Try.prog 6 #[.pointer (some ⟨g, 0, none⟩), l.agg] w fun e w' => e = .returned (.tuple #[.bool (askV H W l).is, errV (askV H W l).e]) ∧ Below w.heap.size w w' := by
  have hlt := heap_lt hT.blk
  obtain ⟨A, c, A', c', rfl, rfl, c0, c1, hR1, hR2⟩ := hT.parts
  have HR := Lib.hid (fun w => lright_any l w)
  have hwt := fun w1 (hB : Below w.heap.size w w1) => lwaiting_any g W A' c' l.tx w1 ((hB.cell (p := ⟨g, 1, none⟩) hlt).trans c1) (Nat.lt_of_lt_of_le hlt hB.size) ((hR2.below hB).mono hB.size) (by omega)
  have HWt := Lib.hid hwt
  clear hwt hR1 hR2 hT
  have HE : Hid (askV H W l = if lrightB l = false then ⟨H, W, false, some 1⟩ else ⟨H, W, false, some 7⟩) := Lib.hid (by
    rcases hr with h | ⟨h, h'⟩
    · simp [askV, h]
    · rw [askV, if_neg (by simp [h]), if_pos h', if_neg (by simp [h])])
  obtain ⟨xt, xi, xm⟩ := l
  simp only at HWt
  show Calls Try.prog 6 #[_, .agg #[.int .i64 xt, .int .i64 xi, .int .i64 xm]] w _
  rcases hr with h | ⟨h, h'⟩
  · rw [h] at HR
    rw [HE.out, h]
    clear h
    go_enter Try.func6, Try.ntmps6
    go_wp2_with (go_at_call 12; refine (HR.out _).mono ?_; rintro e w2 ⟨rfl, hB2⟩; have HB2 := Lib.hid hB2; clear hB2)
    go_ret2
    exact ⟨rfl, ((Below.refl _ w).alloc (Nat.le_refl _) _).trans (HB2.out.mono (by simp))⟩
  · have hk := (idxV_any (ofB xt) W).1 h'
    rw [h] at HR
    rw [HE.out, h]
    generalize idxV (ofB xt) W = k at *
    clear h h'
    go_enter Try.func6, Try.ntmps6
    go_wp2_with (first
      | (go_at_call 12; refine (HR.out _).mono ?_; rintro e w2 ⟨rfl, hB2⟩; obtain ⟨hc2, _⟩ := bcell hB2; have HB2 := Lib.hid hB2; clear hB2)
      | (go_at_call 13; refine (HWt.out _ (((Below.refl _ w).alloc (Nat.le_refl _) _).trans (HB2.out.mono (by simp)))).mono ?_; rintro e w3 ⟨rfl, hB3⟩; have HB3 := Lib.hid hB3; clear hB3))
    go_ret2
    exact ⟨rfl, (((Below.refl _ w).alloc (Nat.le_refl _) _).trans (HB2.out.mono (by simp))).trans (HB3.out.mono (by have := HB2.out.size; simp at this; omega))⟩

set_option maxRecDepth 100000 in
set_option maxHeartbeats 4000000 in
theorem ask_yes (g : Nat) (v1 v2 : Value) (H W : List OpV) (l : OpV) (w : World) (hT : TabIs 41 w g v1 v2 H W) (hH : H.length ≤ 1000000) (hW : W.length ≤ 1000000) (hr : lrightB l = true) (hw : W.any (ofB l.tx) = false) :
    Calls Try.prog 6 #[.pointer (some ⟨g, 0, none⟩), l.agg] w fun e w' => e = .returned (.tuple #[.bool (askV H W l).is, errV (askV H W l).e]) ∧
      ∃ v1' v2', TabIs 41 w' g v1' v2' (askV H W l).H (askV H W l).W ∧ Fr (fun k => k = g ∨ v1.ownBlock = some k ∨ v2.ownBlock = some k) w w' ∧
        (v1'.ownBlock = v1.ownBlock ∨ ∃ k, v1'.ownBlock = some k ∧ w.heap.size ≤ k ∧ k < w'.heap.size) ∧ (v2'.ownBlock = v2.ownBlock ∨ ∃ k, v2'.ownBlock = some k ∧ w.heap.size ≤ k ∧ k < w'.heap.size) := by
  have hlt := heap_lt hT.blk
  have HT := Lib.hid hT
  obtain ⟨A, c, A', c', rfl, rfl, c0, c1, hR1, hR2⟩ := hT.parts
  have HR := Lib.hid (fun w => lright_any l w)
  have hwt := fun w1 (hB : Below w.heap.size w w1) => lwaiting_any g W A' c' l.tx w1 ((hB.cell (p := ⟨g, 1, none⟩) hlt).trans c1) (Nat.lt_of_lt_of_le hlt hB.size) ((hR2.below hB).mono hB.size) (by omega)
  have hof := fun w1 (hB : Below w.heap.size w w1) => lof_any H A c l.tx l.what w1 ((hR1.below hB).mono hB.size) (by omega)
  have hf1 := fun w1 (hB : Below w.heap.size w w1) => lfree_any H A c l w1 ((hR1.below hB).mono hB.size) (by omega)
  have hf2 := fun w1 (hB : Below w.heap.size w w1) => lfree_any W A' c' l w1 ((hR2.below hB).mono hB.size) (by omega)
  rw [(idxV_any (ofB l.tx) W).2 hw] at hwt
  rw [hr] at HR
  have HWt := Lib.hid hwt
  have HOF := Lib.hid hof
  have HF1 := Lib.hid hf1
  have HF2 := Lib.hid hf2
  have HR1 := Lib.hid hR1
  have HE : Hid (askV H W l = if heldB H l = true then ⟨H, W, true, none⟩ else if okB H W l = true then ⟨holdV H l, W, true, none⟩ else ⟨H, W ++ [l], false, none⟩) := Lib.hid (by simp [askV, hr, hw])
  clear hwt hof hf1 hf2 hR1 hR2 hT hr hw
  obtain ⟨xt, xi, xm⟩ := l
  simp only at HWt HOF
  show Calls Try.prog 6 #[_, .agg #[.int .i64 xt, .int .i64 xi, .int .i64 xm]] w _
  have blk0 := heap_alloc_new w (.cells #[.int .i64 xt, .int .i64 xi, .int .i64 xm] 29)
  have hBw0 : Below w.heap.size w (w.alloc (.cells #[.int .i64 xt, .int .i64 xi, .int .i64 xm] 29)) := (Below.refl _ w).alloc (Nat.le_refl _) _
  have HB0 := Lib.hid hBw0
  have HBL0 := Lib.hid blk0
  clear hBw0 blk0
  go_enter Try.func6, Try.ntmps6
  go_upto_region 5 with (first
      | (go_at_call 12; refine (HR.out _).mono ?_; rintro e w2 ⟨rfl, hB2⟩; obtain ⟨hc2, _⟩ := bcell hB2; have HB2 := Lib.hid hB2; clear hB2)
      | (go_at_call 13; refine (HWt.out _ (HB0.out.trans (HB2.out.mono HB0.out.size))).mono ?_; rintro e w3 ⟨rfl, hB3⟩; obtain ⟨hc3, _⟩ := bcell hB3; have HB3 := Lib.hid hB3; clear hB3))
  have hs0 := HB0.out.size
  have hs2 := HB2.out.size
  have hs3 := HB3.out.size
  simp at hs0 hs2
  have hBV : Below w.heap.size w w3 := (HB0.out.trans (HB2.out.mono (by simp))).trans (HB3.out.mono (by omega))
  have hblkV := (HB3.out.block w.heap.size (by omega)).trans ((HB2.out.block w.heap.size (by simp)).trans HBL0.out)
  clear hc2 hc3 HB0 HB2 HB3 HBL0 hs0 hs2
  obtain ⟨b0, b1, b2⟩ := triple_cells (x := ⟨xt, xi, xm⟩) hblkV
  have d0 := (hBV.cell (p := ⟨g, 0, none⟩) hlt).trans c0
  have HBV := Lib.hid hBV
  have HBLV := Lib.hid hblkV
  have hsz := heap_lt hblkV
  clear hBV hblkV
  obtain ⟨V, rfl⟩ : ∃ V : World, V = w3 := ⟨_, rfl⟩
  go_cut [6] (fun s6 wd => s6 = .int .i64 (idxV (atB xt xi) H) ∧ Below w.heap.size w wd ∧ wd.heap[w.heap.size]? = some (.cells #[.int .i64 xt, .int .i64 xi, .int .i64 xm] 29))
  --[S1
  case first => as_aux_lemma =>
    go_region_with (go_at_call 14; refine (HOF.out _ ?_).mono ?_; exact HBV.out.drew; rintro e w4 ⟨rfl, hB4⟩; have HB4 := Lib.hid hB4; clear hB4)
    all_goals
      go_wp2
      go_meet
      case rel => exact ⟨rfl, HBV.out.drew.trans (HB4.out.mono (Nat.le_of_lt hsz)), (HB4.out.block _ hsz).trans HBLV.out⟩
  --]S1
  case rest =>
    obtain ⟨rfl, hB4, hblk4⟩ := hcut
    obtain ⟨w4, rfl⟩ : ∃ w4 : World, w4 = wc := ⟨_, rfl⟩
    clear d0 b0 b1 b2 HBV HBLV hsz hs3
    obtain ⟨b0, b1, b2⟩ := triple_cells (x := ⟨xt, xi, xm⟩) hblk4
    have d0 := (hB4.cell (p := ⟨g, 0, none⟩) hlt).trans c0
    have HB4 := Lib.hid hB4
    have HBL4 := Lib.hid hblk4
    have hsz := heap_lt hblk4
    clear hB4 hblk4
    obtain ⟨ki, hki⟩ : ∃ ki : Int, ki = idxV (atB xt xi) H := ⟨_, rfl⟩
    rw [← hki]
    have HKI := Lib.hid hki
    clear hki
    go_upto_region 6 with fail
    go_cut [42] (fun s42 wd => s42 = .bool (heldB H ⟨xt, xi, xm⟩) ∧ Below w.heap.size w wd ∧ wd.heap[w.heap.size]? = some (.cells #[.int .i64 xt, .int .i64 xi, .int .i64 xm] 29))
    --[S2
    case first => as_aux_lemma =>
      cases hf : H.findIdx? (atB xt xi) with
      | some i =>
        obtain ⟨_, e2, hi⟩ := holdV_set (l := ⟨xt, xi, xm⟩) hf
        simp only at e2
        have hh : heldB H ⟨xt, xi, xm⟩ = decide (xm ≤ H[i].item) := by simp [heldB, hf, List.getD, List.getElem?_eq_getElem hi]
        obtain ⟨b, off, rfl, _, hblt, hcell⟩ := ((HR1.out.below HB4.out).mono HB4.out.size).at_ hi
        have q2 := hcell 2 _ rfl
        have i1 : (0 : Int) ≤ (i : Int) := by omega
        have i2 : (i : Int) < (H.length : Int) := by omega
        obtain rfl : ki = (i : Int) := HKI.out.trans e2
        generalize H[i] = y at *
        have HH := Lib.hid hh
        clear hf e2 hh hcell
        go_wp2
        go_quiet (fail)
        go_wp2
        go_meet
        case rel => exact ⟨by rw [HH.out], below_drewN HB4.out _, HBL4.out⟩
      | none =>
        obtain ⟨_, e2⟩ := holdV_app (l := ⟨xt, xi, xm⟩) hf
        simp only at e2
        have hh : heldB H ⟨xt, xi, xm⟩ = false := by simp [heldB, hf]
        obtain rfl : ki = -1 := HKI.out.trans e2
        have HH := Lib.hid hh
        clear hf e2 hh
        go_wp2
        go_quiet (fail)
        go_wp2
        go_meet
        case rel => exact ⟨by rw [HH.out], below_drewN HB4.out _, HBL4.out⟩
    --]S2
    case rest =>
      obtain ⟨rfl, hB5, hblk5⟩ := hcut
      obtain ⟨w5, rfl⟩ : ∃ w5 : World, w5 = wc := ⟨_, rfl⟩
      clear d0 b0 b1 b2 HB4 HBL4 hsz
      obtain ⟨b0, b1, b2⟩ := triple_cells (x := ⟨xt, xi, xm⟩) hblk5
      have d0 := (hB5.cell (p := ⟨g, 0, none⟩) hlt).trans c0
      have d1 := (hB5.cell (p := ⟨g, 1, none⟩) hlt).trans c1
      have HB5 := Lib.hid hB5
      have HBL5 := Lib.hid hblk5
      have hsz := heap_lt hblk5
      clear hB5 hblk5
      cases hh : heldB H ⟨xt, xi, xm⟩ with
      | true =>
        have HH := Lib.hid hh
        clear hh
        go_wp2
        go_ret2
        rw [HE.out, if_pos HH.out]
        exact ⟨rfl, _, _, HT.out.new (HB5.out.mono (Nat.le_refl _)), Fr.of_new HB5.out, .inl rfl, .inl rfl⟩
      | false =>
        have HH : Hid (askV H W ⟨xt, xi, xm⟩ = if okB H W ⟨xt, xi, xm⟩ = true then ⟨holdV H ⟨xt, xi, xm⟩, W, true, none⟩ else ⟨H, W ++ [⟨xt, xi, xm⟩], false, none⟩) := Lib.hid (by rw [HE.out, if_neg (by simp [hh])])
        clear hh
        go_upto_region 8 with fail
        go_cut [56] (fun s56 wd => s56 = .bool (okB H W ⟨xt, xi, xm⟩) ∧ Below w.heap.size w wd ∧ wd.heap[w.heap.size]? = some (.cells #[.int .i64 xt, .int .i64 xi, .int .i64 xm] 29))
        --[S3
        case first => as_aux_lemma =>
          cases ha : H.any (oddsB ⟨xt, xi, xm⟩) with
          | true =>
            have HK := Lib.hid (show okB H W ⟨xt, xi, xm⟩ = false by simp only [okB, ha]; rfl)
            rw [ha, Bool.not_true] at HF1
            clear ha
            have k0 := cell_regrown d0
            have k1 := cell_regrown d1
            have k2 := cell_regrown b0
            have k3 := cell_regrown b1
            have k4 := cell_regrown b2
            have cF1 : ∀ d os, Calls Try.prog 15 #[.slice A H.length c, (⟨xt, xi, xm⟩ : OpV).agg] (grow (redrawn w5 d) os) fun e w'' => e = .returned (.bool false) ∧ ∃ p : Regrown, w'' = grow (redrawn w5 p.d) p.os := fun d os => Calls.regrown_of (HF1.out _ (HB5.out.trans ((below_regrown w5 d os).mono HB5.out.size)))
            refine wp_region_quiet_below (by kernel_rfl) (by kernel_rfl) ?_
            repeat (first | go_big_quiet_skip | quiet_step (exact cF1 _ _))
            refine wpQuiet_nil ?_
            intro _ hw'
            obtain ⟨⟨dq, osq⟩, hw''⟩ := hw'
            subst hw''
            go_wp2
            go_meet
            case rel => exact ⟨by rw [HK.out], HB5.out.trans ((below_regrown w5 dq osq).mono HB5.out.size), ((below_regrown w5 dq osq).block _ hsz).trans HBL5.out⟩
          | false =>
            have HK := Lib.hid (show okB H W ⟨xt, xi, xm⟩ = !W.any (oddsB ⟨xt, xi, xm⟩) by simp only [okB, ha]; rfl)
            rw [ha, Bool.not_false] at HF1
            clear ha
            have k0 := cell_regrown d0
            have k1 := cell_regrown d1
            have k2 := cell_regrown b0
            have k3 := cell_regrown b1
            have k4 := cell_regrown b2
            have cF1 : ∀ d os, Calls Try.prog 15 #[.slice A H.length c, (⟨xt, xi, xm⟩ : OpV).agg] (grow (redrawn w5 d) os) fun e w'' => e = .returned (.bool true) ∧ ∃ p : Regrown, w'' = grow (redrawn w5 p.d) p.os := fun d os => Calls.regrown_of (HF1.out _ (HB5.out.trans ((below_regrown w5 d os).mono HB5.out.size)))
            have cF2 : ∀ d os, Calls Try.prog 15 #[.slice A' W.length c', (⟨xt, xi, xm⟩ : OpV).agg] (grow (redrawn w5 d) os) fun e w'' => e = .returned (.bool !W.any (oddsB ⟨xt, xi, xm⟩)) ∧ ∃ p : Regrown, w'' = grow (redrawn w5 p.d) p.os := fun d os => Calls.regrown_of (HF2.out _ (HB5.out.trans ((below_regrown w5 d os).mono HB5.out.size)))
            refine wp_region_quiet_below (by kernel_rfl) (by kernel_rfl) ?_
            repeat (first | go_big_quiet_skip | quiet_step (first | exact cF1 _ _ | exact cF2 _ _))
            refine wpQuiet_nil ?_
            intro _ hw'
            obtain ⟨⟨dq, osq⟩, hw''⟩ := hw'
            subst hw''
            go_wp2
            go_meet
            case rel => exact ⟨by rw [HK.out], HB5.out.trans ((below_regrown w5 dq osq).mono HB5.out.size), ((below_regrown w5 dq osq).block _ hsz).trans HBL5.out⟩
        --]S3
        case rest =>
          obtain ⟨rfl, hB6, hblk6⟩ := hcut
          obtain ⟨w6, rfl⟩ : ∃ w6 : World, w6 = wc := ⟨_, rfl⟩
          clear d0 d1 b0 b1 b2 HB5 HBL5 hsz
          obtain ⟨b0, b1, b2⟩ := triple_cells (x := ⟨xt, xi, xm⟩) hblk6
          have d1 := (hB6.cell (p := ⟨g, 1, none⟩) hlt).trans c1
          have hT6 := HT.out.new hB6
          have HT6 := Lib.hid hT6
          have df : w6.frozen? ⟨g, 1, none⟩ = false := by simp [World.frozen?, hT6.blk]
          have hlg := heap_lt hT6.blk
          have hgb' : (Value.slice A' W.length c').ownBlock ≠ some g := own_ne_blk hT6.o2 hT6.blk (by decide)
          have hgs : w6.heap.size ≠ g := by omega
          have HB6 := Lib.hid hB6
          have HBL6 := Lib.hid hblk6
          have hsz := heap_lt hblk6
          clear hB6 hblk6 hT6 c0 c1
          cases hk : okB H W ⟨xt, xi, xm⟩ with
          | true =>
            have HH2 : Hid (askV H W ⟨xt, xi, xm⟩ = ⟨holdV H ⟨xt, xi, xm⟩, W, true, none⟩) := Lib.hid (by rw [HH.out, if_pos hk])
            have HO := Lib.hid (hold_any g _ _ H W ⟨xt, xi, xm⟩ w6 HT6.out hH)
            clear hk
            go_wp2_with (go_at_call 16; refine HO.out.mono ?_; rintro e w7 ⟨rfl, v1', hT7, hF7, hg7⟩; have HT7 := Lib.hid hT7; have HF7 := Lib.hid hF7; have HG7 := Lib.hid hg7; clear hT7 hF7 hg7)
            go_ret2
            rw [HH2.out]
            refine ⟨rfl, _, _, HT7.out, (Fr.of_new HB6.out).trans (HF7.out.mono (fun k hk => by rcases hk with h | h; exact .inl h; exact .inr (.inl h))), ?_, .inl rfl⟩
            rcases HG7.out with h | ⟨k, h1, h2, h3⟩
            · exact .inl h
            · exact .inr ⟨k, h1, Nat.le_trans HB6.out.size h2, h3⟩
          | false =>
            have HH2 : Hid (askV H W ⟨xt, xi, xm⟩ = ⟨H, W ++ [⟨xt, xi, xm⟩], false, none⟩) := Lib.hid (by rw [HH.out, if_neg (by simp [hk])])
            clear hk
            go_upto_region 11 with fail
            go_region_law ((refine step_appLock _ (by rfl) (.tmp 64) (.tmp 66) (by rfl) 0 (.slice A' W.length c') W.length W (by rfl) (own_below HT6.out.o2 ((Below.refl _ w6).drew.alloc (Nat.le_refl _) _)) w6.heap.size ⟨xt, xi, xm⟩ (by rfl) (heap_alloc_new _ _) (by omega) (by simp) ?_; intro g3 cap3 w7 ho3 hg3 hat3 hlt3; have k0 := (hg3.cell_far ⟨g, 1, none⟩ (by simp; omega) (fun e => hgb' e.symm)).trans ((World.cell?_alloc_lt _ _ _ (by simp; omega)).trans d1); have kf := (hg3.frozen_far ⟨g, 1, none⟩ (by simp; omega) (fun e => hgb' e.symm)).trans ((frozen?_alloc_cells _ _ _ _).trans df); have HO3 := Lib.hid ho3; have HG3 := Lib.hid hg3; have HAT := Lib.hid hat3; clear ho3 hg3 hat3))
            all_goals
              go_wp2
              go_ret2
              rw [HH2.out]
              have hg3 : g ≠ g3 := fun e => by
                rcases HAT.out with h | h
                · exact hgb' (by rw [e]; exact h)
                · simp at h; omega
              have hFc : Fr (fun k => k = g ∨ (Value.slice A H.length c).ownBlock = some k ∨ (Value.slice A' W.length c').ownBlock = some k) w6 w7 := (((Fr.refl (fun k => k = g ∨ (Value.slice A H.length c).ownBlock = some k ∨ (Value.slice A' W.length c').ownBlock = some k) w6).drew.alloc _).grown HG3.out (fun k hk => .inl (.inr (.inr hk))))
              have hF := (hFc.set1 g 1 (.slice (some ⟨g3, 0, none⟩) (W.length + 1) cap3) (.inl rfl))
              have hFb : Fr (fun k => k = g ∨ (Value.slice A' W.length c').ownBlock = some k) w6 w7 := (((Fr.refl (fun k => k = g ∨ (Value.slice A' W.length c').ownBlock = some k) w6).drew.alloc _).grown HG3.out (fun k hk => .inl (.inr hk)))
              have hFb' := (hFb.set1 g 1 (.slice (some ⟨g3, 0, none⟩) (W.length + 1) cap3) (.inl rfl))
              have hb3 : w7.heap[g]? = some (.cells #[.slice A H.length c, .slice A' W.length c'] 41) := (HG3.out.block g (by (try simp); omega) (fun e => hgb' e.symm)).trans ((Below.heap_alloc _ _ _ (by (try simp); omega)).trans HT6.out.blk)
              have ho3 := own_fr HO3.out ((Fr.refl (fun k => k = g) w7).set1 g 1 (.slice (some ⟨g3, 0, none⟩) (W.length + 1) cap3) rfl) (fun k hk e => hg3 (by simp [Value.ownBlock] at hk; omega))
              have ho1 := own_fr HT6.out.o1 hFb' (fun k hk e => by
                rcases e with e | e
                · exact own_ne_blk HT6.out.o1 HT6.out.blk (by decide) (by rw [hk, e])
                · exact HT6.out.ne k hk e)
              refine ⟨rfl, .slice A H.length c, .slice (some ⟨g3, 0, none⟩) (W.length + 1) cap3, ⟨?_, ho1, by simpa using ho3, ?_⟩, (Fr.of_new HB6.out).trans hF, .inl rfl, ?_⟩
              · exact heap_setCell_same w7 g 1 _ _ _ hb3
              · intro k hk e
                obtain rfl : g3 = k := by simpa [Value.ownBlock] using e
                rcases HAT.out with h | h
                · exact HT6.out.ne g3 hk h
                · have := (HT6.out.o1.lt g3 hk).2
                  simp at h
                  omega
              · rcases HAT.out with h | h
                · exact .inl h.symm
                · refine .inr ⟨g3, rfl, ?_, by simpa using hlt3⟩
                  have := HB6.out.size
                  simp at h
                  omega
end Go.Proofs.Ytkfemodellmakaa
