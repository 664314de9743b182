/- A table of locks in memory; (*locks.Table).hold. -/
import Derived.Test.YtkfemodellmakaaLocks2
import Derived.Deep.CutBlock
import Derived.Deep.RegionHeld3
import Derived.Deep.RegionLaw
import Derived.Deep.DrawnRows
namespace Go.Proofs.Ytkfemodellmakaa
open Go.RowKit
set_option linter.unusedSimpArgs false
set_option linter.unusedVariables false
attribute [local go_sem ↓] Go.wp_at_zero Go.wp_at_succ

/-- Block g is a table (a struct of two slices of locks, of type T) that owns H and W. -/
structure TabIs (T : TypeId) (w : World) (g : Nat) (v1 v2 : Value) (H W : List OpV) : Prop where
  blk : w.heap[g]? = some (.cells #[v1, v2] T)
  o1 : w.ownsRow 0 29 3 v1 H.length (flatO H)
  o2 : w.ownsRow 0 29 3 v2 W.length (flatO W)
  ne : ∀ k, v1.ownBlock = some k → v2.ownBlock ≠ some k
/-- .. within the footprint S. -/
def TabAt (T : TypeId) (w : World) (S : Nat → Prop) (g : Nat) (H W : List OpV) : Prop :=
  ∃ v1 v2, TabIs T w g v1 v2 H W ∧ ∀ k, (k = g ∨ v1.ownBlock = some k ∨ v2.ownBlock = some k) → S k
/-- What a step may make of a footprint. -/
def Grows (S S' : Nat → Prop) (w w' : World) : Prop := ∀ k, S' k → S k ∨ (w.heap.size ≤ k ∧ k < w'.heap.size)

theorem Fr.set1 {S : Nat → Prop} {w w' : World} (h : Fr S w w') (b o : Nat) (u : Value) (hb : S b) : Fr S w (w'.setCell ⟨b, o, none⟩ u) := h.setCell (p := ⟨b, o, none⟩) (.inl hb) u
section
variable {T : TypeId} {w w' : World} {S S' : Nat → Prop} {g : Nat} {v1 v2 : Value} {H W : List OpV}
theorem own_ne_blk {w : World} {B : Nat} {e : TypeId} {size n : Nat} {v : Value} {xs : List Value} {g : Nat} {T : TypeId} {cs : Array Value} (h : w.ownsRow B e size v n xs) (hg : w.heap[g]? = some (.cells cs T)) (hne : e ≠ T) : v.ownBlock ≠ some g := by
  rcases h.2 with ⟨rfl, _⟩ | ⟨g', cap, cur, rfl, _, hh, _⟩
  · simp [Value.ownBlock]
  · intro he
    have : g' = g := by simpa [Value.ownBlock] using he
    subst this
    rw [hg] at hh
    simp at hh
    exact hne hh.2.symm
theorem TabIs.fr (h : TabIs T w g v1 v2 H W) (hf : Fr S w w') (hS : ∀ k, (k = g ∨ v1.ownBlock = some k ∨ v2.ownBlock = some k) → ¬ S k) : TabIs T w' g v1 v2 H W :=
  ⟨(hf.block g (heap_lt h.blk) (hS g (.inl rfl))).trans h.blk, own_fr h.o1 hf (fun k hk => hS k (.inr (.inl hk))), own_fr h.o2 hf (fun k hk => hS k (.inr (.inr hk))), h.ne⟩
theorem TabIs.new (h : TabIs T w g v1 v2 H W) (hB : Below w.heap.size w w') : TabIs T w' g v1 v2 H W :=
  ⟨(hB.block g (heap_lt h.blk)).trans h.blk, own_below h.o1 hB, own_below h.o2 hB, h.ne⟩
theorem TabIs.lt (h : TabIs T w g v1 v2 H W) : ∀ k, (k = g ∨ v1.ownBlock = some k ∨ v2.ownBlock = some k) → k < w.heap.size := by
  rintro k (rfl | hk | hk)
  · exact heap_lt h.blk
  · exact (h.o1.lt k hk).2
  · exact (h.o2.lt k hk).2
theorem TabAt.new (h : TabAt T w S g H W) (hB : Below w.heap.size w w') : TabAt T w' S g H W := by
  obtain ⟨v1, v2, hT, hS⟩ := h
  exact ⟨v1, v2, hT.new hB, hS⟩
theorem TabAt.fr {S2 : Nat → Prop} (h : TabAt T w S g H W) (hf : Fr S2 w w') (hd : ∀ k, S k → ¬ S2 k) : TabAt T w' S g H W := by
  obtain ⟨v1, v2, hT, hS⟩ := h
  exact ⟨v1, v2, hT.fr hf (fun k hk => hd k (hS k hk)), hS⟩
theorem TabAt.mono (h : TabAt T w S g H W) (hS : ∀ k, S k → S' k) : TabAt T w S' g H W := by
  obtain ⟨v1, v2, hT, h2⟩ := h
  exact ⟨v1, v2, hT, fun k hk => hS k (h2 k hk)⟩
theorem Grows.refl (S : Nat → Prop) (w w' : World) : Grows S S w w' := fun _ h => .inl h
end

def holdV (H : List OpV) (l : OpV) : List OpV := match H.findIdx? (atB l.tx l.what) with | some i => H.set i l | none => H ++ [l]
theorem holdV_set {H : List OpV} {l : OpV} {i : Nat} (h : H.findIdx? (atB l.tx l.what) = some i) : holdV H l = H.set i l ∧ idxV (atB l.tx l.what) H = i ∧ i < H.length := by
  refine ⟨by simp [holdV, h], by simp [idxV, h], ?_⟩
  obtain ⟨hi, _⟩ := List.findIdx?_eq_some_iff_getElem.1 h
  exact hi
theorem holdV_app {H : List OpV} {l : OpV} (h : H.findIdx? (atB l.tx l.what) = none) : holdV H l = H ++ [l] ∧ idxV (atB l.tx l.what) H = -1 := by
  refine ⟨by simp [holdV, h], by simp [idxV, h]⟩
theorem flatO_set : ∀ (H : List OpV) (i : Nat) (l : OpV), i < H.length → (((flatO H).set (i * 3) (.int .i64 l.tx)).set (i * 3 + 1) (.int .i64 l.what)).set (i * 3 + 2) (.int .i64 l.item) = flatO (H.set i l)
  | [], i, l, h => by simp at h
  | x :: r, 0, l, _ => by simp [flatO, encO]
  | x :: r, i + 1, l, h => by
    have ih := flatO_set r i l (by simpa using h)
    simp only [flatO, List.flatMap_cons, List.set_cons_succ] at ih ⊢
    rw [← ih]
    have e1 : (i + 1) * 3 = i * 3 + 3 := by omega
    rw [e1]
    simp [encO]
/-- The first slice of a table alone. -/
structure TabH (T : TypeId) (w : World) (g : Nat) (v1 v2 : Value) (H : List OpV) : Prop where
  blk : w.heap[g]? = some (.cells #[v1, v2] T)
  o1 : w.ownsRow 0 29 3 v1 H.length (flatO H)
theorem TabH.new {T : TypeId} {w w' : World} {g : Nat} {v1 v2 : Value} {H : List OpV} (h : TabH T w g v1 v2 H) (hB : Below w.heap.size w w') : TabH T w' g v1 v2 H :=
  ⟨(hB.block g (heap_lt h.blk)).trans h.blk, own_below h.o1 hB⟩
theorem TabH.fr {S : Nat → Prop} {T : TypeId} {w w' : World} {g : Nat} {v1 v2 : Value} {H : List OpV} (h : TabH T w g v1 v2 H) (hf : Fr S w w') (hS : ∀ k, (k = g ∨ v1.ownBlock = some k) → ¬ S k) : TabH T w' g v1 v2 H :=
  ⟨(hf.block g (heap_lt h.blk) (hS g (.inl rfl))).trans h.blk, own_fr h.o1 hf (fun k hk => hS k (.inr hk))⟩

set_option maxRecDepth 100000 in
set_option maxHeartbeats 2000000 in
theorem hold_core (g : Nat) (v1 v2 : Value) (H : List OpV) (l : OpV) (w : World) (hT : TabH 41 w g v1 v2 H) (hn : H.length ≤ 1000000) :
    Calls Try.prog 16 #[.pointer (some ⟨g, 0, none⟩), l.agg] w fun e w' => e = .returned (.tuple #[]) ∧ ∃ v1', TabH 41 w' g v1' v2 (holdV H l) ∧ Fr (fun k => k = g ∨ v1.ownBlock = some k) w w' ∧ (v1'.ownBlock = v1.ownBlock ∨ ∃ k, v1'.ownBlock = some k ∧ w.heap.size ≤ k ∧ k < w'.heap.size) := by
  obtain ⟨A, c, rfl, hA, hA'⟩ := own_slice hT.o1
  have hlt := heap_lt hT.blk
  have c0 : w.cell? ⟨g, 0, none⟩ = some (.slice A H.length c) := by rw [cell_of_row w g 0 _ _ _ hT.blk]; rfl
  have hof := fun w1 (hB : Below w.heap.size w w1) => lof_any H A c l.tx l.what w1 (((of_own3 hT.o1).below hB).mono hB.size) (by omega)
  have HOF := Lib.hid hof
  have HT := Lib.hid hT
  have HA := Lib.hid hA
  have HA' := Lib.hid hA'
  obtain ⟨xt, xi, xm⟩ := l
  simp only at HOF
  show Calls Try.prog 16 #[_, .agg #[.int .i64 xt, .int .i64 xi, .int .i64 xm]] w _
  clear hof hT hA hA'
  go_enter Try.func16, Try.ntmps16
  go_upto_region 1 with fail
  go_cut [4] (fun s4 wd => s4 = .int .i64 (idxV (atB xt xi) H) ∧ Below w.heap.size w wd ∧ wd.heap[w.heap.size]? = some (.cells #[.int .i64 xt, .int .i64 xi, .int .i64 xm] 29))
  case first =>
    have blk := heap_alloc_new w (.cells #[.int .i64 xt, .int .i64 xi, .int .i64 xm] 29)
    obtain ⟨b0, b1, b2⟩ := triple_cells (x := ⟨xt, xi, xm⟩) blk
    have bg : (w.alloc (.cells #[.int .i64 xt, .int .i64 xi, .int .i64 xm] 29)).cell? ⟨g, 0, none⟩ = some (.slice A H.length c) := by rw [World.cell?_alloc_lt _ _ _ hlt]; exact c0
    have hBw : Below w.heap.size w (w.alloc (.cells #[.int .i64 xt, .int .i64 xi, .int .i64 xm] 29)) := (Below.refl _ w).alloc (Nat.le_refl _) _
    have hsz : w.heap.size < (w.alloc (.cells #[.int .i64 xt, .int .i64 xi, .int .i64 xm] 29)).heap.size := by simp
    have HBLK := Lib.hid blk
    have HBw := Lib.hid hBw
    clear blk hBw
    generalize hWe : w.alloc (.cells #[.int .i64 xt, .int .i64 xi, .int .i64 xm] 29) = V at *
    clear hWe
    go_region_with (go_at_call 14; refine (HOF.out _ ?_).mono ?_; exact HBw.out.drew; rintro e w2 ⟨rfl, hB2⟩; have HB2 := Lib.hid hB2; clear hB2)
    all_goals
      go_wp2
      go_meet
      case rel => exact ⟨rfl, HBw.out.drew.trans (HB2.out.mono (Nat.le_of_lt hsz)), (HB2.out.block _ hsz).trans HBLK.out⟩
  case rest =>
    obtain ⟨rfl, hB, hblk⟩ := hcut
    have HB := Lib.hid hB
    have HBLK := Lib.hid hblk
    obtain ⟨b0, b1, b2⟩ := triple_cells (x := ⟨xt, xi, xm⟩) hblk
    have hT2 := HT.out.new hB
    have d0 : wc.cell? ⟨g, 0, none⟩ = some (.slice A H.length c) := by rw [cell_of_row _ _ _ _ _ _ hT2.blk]; rfl
    have df : wc.frozen? ⟨g, 0, none⟩ = false := by simp [World.frozen?, hT2.blk]
    have hsz := heap_lt hblk
    clear hB hblk
    cases hf : H.findIdx? (atB xt xi) with
    | some i =>
      obtain ⟨e1, e2, hi⟩ := holdV_set (l := ⟨xt, xi, xm⟩) hf
      simp only at e2
      obtain ⟨b, cap, hv, hb1, hblt⟩ := hT2.o1.form (by omega)
      cases hv
      obtain ⟨b', off', e, _, _, hcell⟩ := Rd.at_ (of_own3 hT2.o1) hi
      cases e
      have q0 := hcell 0 _ rfl
      have q1 := hcell 1 _ rfl
      have q2 := hcell 2 _ rfl
      simp only [Nat.zero_add, Nat.add_zero] at q0 q1 q2
      have z0 := hT2.o1.frozenAt (i * 3)
      have z1 := hT2.o1.frozenAt (i * 3 + 1)
      have z2 := hT2.o1.frozenAt (i * 3 + 2)
      have i1 : (0 : Int) ≤ (i : Int) := by omega
      have i2 : (i : Int) < (H.length : Int) := by omega
      have hgb : b ≠ g := fun e => own_ne_blk hT2.o1 hT2.blk (by decide) (by rw [← e]; rfl)
      have HT2 := Lib.hid hT2
      rw [e2]
      have HE1 := Lib.hid e1
      clear hT2 e1 e2 hf hcell c0
      go_wp2
      go_region
      go_wp2
      go_end0
      have hF : Fr (fun k => k = b) wc ((((wc.setCell ⟨b, i * 3, none⟩ (.int .i64 xt)).setCell ⟨b, i * 3 + 1, none⟩ (.int .i64 xi)).setCell ⟨b, i * 3 + 2, none⟩ (.int .i64 xm)).drew) := ((((Fr.refl (fun k => k = b) wc).set1 b (i * 3) (.int .i64 xt) rfl).set1 b (i * 3 + 1) (.int .i64 xi) rfl).set1 b (i * 3 + 2) (.int .i64 xm) rfl).drew
      have ho := ((((HT2.out.o1.stored (i * 3) (.int .i64 xt)).1.stored (i * 3 + 1) (.int .i64 xi)).1.stored (i * 3 + 2) (.int .i64 xm)).1).drew
      rw [flatO_set H i ⟨xt, xi, xm⟩ hi] at ho
      have hl : (holdV H ⟨xt, xi, xm⟩).length = H.length := by rw [HE1.out]; simp
      refine ⟨rfl, .slice (some ⟨b, 0, none⟩) H.length c, ⟨(hF.block g (heap_lt HT2.out.blk) (fun e => hgb e.symm)).trans HT2.out.blk, by rw [hl, HE1.out]; exact ho⟩, ?_, .inl rfl⟩
      exact ((Fr.of_new HB.out).trans' hF (fun k hk => .inl (.inr (by rw [hk]; rfl))))
    | none =>
      obtain ⟨e1, e2⟩ := holdV_app (l := ⟨xt, xi, xm⟩) hf
      simp only at e2
      have HT2 := Lib.hid hT2
      rw [e2]
      have HE1 := Lib.hid e1
      have hgb' : (Value.slice A H.length c).ownBlock ≠ some g := own_ne_blk hT2.o1 hT2.blk (by decide)
      have hlg := heap_lt hT2.blk
      have hgs : wc.heap.size ≠ g := by have := heap_lt hT2.blk; omega
      clear hT2 e1 e2 hf c0
      go_wp2
      go_region_law ((refine step_appLock _ (by rfl) (.tmp 27) (.tmp 29) (by rfl) 0 (.slice A H.length c) H.length H (by rfl) (own_below HT2.out.o1 ((Below.refl _ wc).drew.alloc (Nat.le_refl _) _)) wc.heap.size ⟨xt, xi, xm⟩ (by rfl) (heap_alloc_new _ _) (by omega) (by simp) ?_; intro g3 cap3 w3 ho3 hg3 hat3 hlt3; have k0 := (hg3.cell_far ⟨g, 0, none⟩ (by simp; omega) (fun e => hgb' e.symm)).trans ((World.cell?_alloc_lt _ _ _ (by simp; omega)).trans d0); have kf := (hg3.frozen_far ⟨g, 0, none⟩ (by simp; omega) (fun e => hgb' e.symm)).trans ((frozen?_alloc_cells _ _ _ _).trans df); have HO3 := Lib.hid ho3; have HG3 := Lib.hid hg3; have HAT := Lib.hid hat3; clear ho3 hg3 hat3))
      all_goals
        go_wp2
        go_end0
        have hl : (holdV H ⟨xt, xi, xm⟩).length = H.length + 1 := by rw [HE1.out]; simp
        have hg3 : g ≠ g3 := fun e => by
          rcases HAT.out with h | h
          · exact hgb' (by rw [e]; exact h)
          · simp at h; omega
        have hFc : Fr (fun k => k = g ∨ (Value.slice A H.length c).ownBlock = some k) wc w3 := (((Fr.refl (fun k => k = g ∨ (Value.slice A H.length c).ownBlock = some k) wc).drew.alloc _).grown HG3.out (fun k hk => .inl (.inr hk)))
        have hF := (hFc.set1 g 0 (.slice (some ⟨g3, 0, none⟩) (H.length + 1) cap3) (.inl rfl))
        have hb3 : w3.heap[g]? = some (.cells #[.slice A H.length c, v2] 41) := (HG3.out.block g (by (try simp); omega) (fun e => hgb' e.symm)).trans ((Below.heap_alloc _ _ _ (by (try simp); omega)).trans HT2.out.blk)
        have ho3 := own_fr HO3.out ((Fr.refl (fun k => k = g) w3).set1 g 0 (.slice (some ⟨g3, 0, none⟩) (H.length + 1) cap3) rfl) (fun k hk e => hg3 (by simp [Value.ownBlock] at hk; omega))
        refine ⟨rfl, .slice (some ⟨g3, 0, none⟩) (H.length + 1) cap3, ⟨?_, by rw [hl, HE1.out]; exact ho3⟩, (Fr.of_new HB.out).trans hF, ?_⟩
        · exact heap_setCell_same w3 g 0 _ _ _ hb3
        · rcases HAT.out with h | h
          · exact .inl h.symm
          · refine .inr ⟨g3, rfl, ?_, by simpa using hlt3⟩
            simp at h
            omega

theorem hold_any (g : Nat) (v1 v2 : Value) (H W : List OpV) (l : OpV) (w : World) (hT : TabIs 41 w g v1 v2 H W) (hn : H.length ≤ 1000000) :
    Calls Try.prog 16 #[.pointer (some ⟨g, 0, none⟩), l.agg] w fun e w' => e = .returned (.tuple #[]) ∧ ∃ v1', TabIs 41 w' g v1' v2 (holdV H l) W ∧ Fr (fun k => k = g ∨ v1.ownBlock = some k) w w' ∧ (v1'.ownBlock = v1.ownBlock ∨ ∃ k, v1'.ownBlock = some k ∧ w.heap.size ≤ k ∧ k < w'.heap.size) := by
  refine (hold_core g v1 v2 H l w ⟨hT.blk, hT.o1⟩ hn).mono ?_
  rintro e w' ⟨he, v1', h', hF, hg⟩
  refine ⟨he, v1', ⟨h'.blk, h'.o1, own_fr hT.o2 hF (fun k hk e => ?_), fun k hk e => ?_⟩, hF, hg⟩
  · rcases e with e | e
    · exact own_ne_blk hT.o2 hT.blk (by decide) (by rw [hk, e])
    · exact hT.ne k e hk
  · rcases hg with h | ⟨j, h1, h2, _⟩
    · exact hT.ne k (by rw [← h]; exact hk) e
    · have hjk : j = k := by rw [h1] at hk; exact Option.some.inj hk
      have := (hT.o2.lt k e).2
      omega
end Go.Proofs.Ytkfemodellmakaa
