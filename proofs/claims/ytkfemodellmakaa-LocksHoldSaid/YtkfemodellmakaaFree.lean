/- (*locks.Table).Free. -/
import Derived.Test.YtkfemodellmakaaDelete
import Derived.Test.YtkfemodellmakaaAsk
namespace Go.Proofs.Ytkfemodellmakaa
open Go.RowKit Go.Sort
set_option linter.unusedSimpArgs false
set_option linter.unusedVariables false
attribute [local go_sem ↓] Go.wp_at_zero Go.wp_at_succ

structure FreeS where
  H : List OpV
  out : List OpV
  left : List OpV
def freeStep (s : FreeS) (l : OpV) : FreeS := if okB s.H s.left l then ⟨holdV s.H l, s.out ++ [l], s.left⟩ else ⟨s.H, s.out, s.left ++ [l]⟩
def noB (tx : Int) (L : List OpV) : List OpV := L.filter fun x => !ofB tx x
def freeV (H W : List OpV) (tx : Int) : FreeS := (noB tx W).foldl freeStep ⟨noB tx H, [], []⟩
theorem holdV_len (H : List OpV) (l : OpV) : (holdV H l).length ≤ H.length + 1 := by
  unfold holdV
  split
  · simp
  · simp
theorem freeStep_len (s : FreeS) (l : OpV) : (freeStep s l).H.length ≤ s.H.length + 1 ∧ (freeStep s l).out.length ≤ s.out.length + 1 ∧ (freeStep s l).left.length ≤ s.left.length + 1 := by
  unfold freeStep
  have := holdV_len s.H l
  split <;> simp <;> omega
theorem freeFold_len : ∀ (L : List OpV) (s : FreeS), (L.foldl freeStep s).H.length ≤ s.H.length + L.length ∧ (L.foldl freeStep s).out.length ≤ s.out.length + L.length ∧ (L.foldl freeStep s).left.length ≤ s.left.length + L.length
  | [], s => by simp
  | x :: r, s => by
    have h1 := freeFold_len r (freeStep s x)
    have h2 := freeStep_len s x
    simp only [List.foldl_cons, List.length_cons]
    omega
theorem fold_take (L : List OpV) (s : FreeS) (i : Nat) (hi : i < L.length) : (L.take (i + 1)).foldl freeStep s = freeStep ((L.take i).foldl freeStep s) L[i] := by
  rw [List.take_succ_eq_append_getElem hi, List.foldl_append]
  rfl
/-- Two values own no block in common. -/
def Sep (a b : Value) : Prop := ∀ k, a.ownBlock = some k → b.ownBlock ≠ some k
theorem its_predC (b : Nat) (tx : Int) (g : Nat) (hbg : b ≠ g) : PredC 22 #[.pointer (some ⟨b, 0, none⟩)] (ofB tx) (fun w => w.cell? ⟨b, 0, none⟩ = some (.int .i64 tx) ∧ b < w.heap.size) g where
  ent := enters_of Try.func22 (by kernel_rfl) rfl
  tells x w1 h := (free_its_pred b tx w1 h.1 h.2).tells x w1 (Below.refl _ _)
  below w1 w2 h hB := ⟨(hB.cell (p := ⟨b, 0, none⟩) h.2).trans h.1, Nat.lt_of_lt_of_le h.2 hB.size⟩
  store w1 o u h := ⟨by rw [World.cell?_setCell_other _ _ _ _ (fun e => hbg (by injection e with e1; exact e1.symm))]; exact h.1, by simpa [World.setCell] using h.2⟩

set_option maxRecDepth 100000 in
set_option maxHeartbeats 2000000 in
theorem free_no (g : Nat) (tx : Int) (w : World) (hr : numB tx = false) :
    Calls Try.prog 8 #[.pointer (some ⟨g, 0, none⟩), .int .i64 tx] w fun e w' => e = .returned (.tuple #[.slice none 0 0, errV (some 1)]) ∧ Below w.heap.size w w' := by
  have HX := Lib.hid hr
  clear hr
  go_enter Try.func8, Try.ntmps8
  go_wp2_with (go_at_call 21; refine (hTx_any _ _).mono ?_; rw [HX.out]; rintro e w' ⟨rfl, rfl⟩)
  go_ret2
  exact ⟨rfl, (Below.refl _ w).alloc (Nat.le_refl _) _⟩

/-- What the loop of Free keeps. -/
structure FreeIn (w0 : World) (g : Nat) (v1 v2 v2' : Value) (W0 : List OpV) (w : World) (vh vo vl : Value) (s : FreeS) : Prop where
  tab : TabH 41 w g vh v2 s.H
  ow : w.ownsRow 0 29 3 v2' W0.length (flatO W0)
  oo : w.ownsRow w0.heap.size 29 3 vo s.out.length (flatO s.out)
  ol : w.ownsRow w0.heap.size 29 3 vl s.left.length (flatO s.left)
  s1 : Sep vh vo
  s2 : Sep vh vl
  s3 : Sep vo vl
  s4 : Sep vh v2'
  grow : ∀ k, vh.ownBlock = some k → v1.ownBlock = some k ∨ w0.heap.size ≤ k
  frame : Fr (fun k => k = g ∨ v1.ownBlock = some k ∨ v2.ownBlock = some k) w0 w

theorem FreeIn.new {w0 : World} {g : Nat} {v1 v2 v2' : Value} {W0 : List OpV} {w w' : World} {vh vo vl : Value} {s : FreeS} (h : FreeIn w0 g v1 v2 v2' W0 w vh vo vl s) (hB : Below w.heap.size w w') : FreeIn w0 g v1 v2 v2' W0 w' vh vo vl s :=
  ⟨h.tab.new hB, own_below h.ow hB, own_below h.oo hB, own_below h.ol hB, h.s1, h.s2, h.s3, h.s4, h.grow, h.frame.new hB⟩
/-- An append to the first of three lists that own blocks apart. -/
theorem Sep.app {a b : Value} {g H : Nat} {cap n : Nat} (h : Sep a b) (hat : a.ownBlock = some g ∨ g = H) (hb : ∀ k, b.ownBlock = some k → k < H) : Sep (.slice (some ⟨g, 0, none⟩) n cap) b := by
  intro k hk e
  obtain rfl : g = k := by simpa [Value.ownBlock] using hk
  rcases hat with h1 | h1
  · exact h g h1 e
  · have := hb g e
    omega
theorem Sep.symm {a b : Value} (h : Sep a b) : Sep b a := fun k hk e => h k e hk

/-- The lock goes to those that wait on. -/
theorem FreeIn.wait {w0 : World} {g : Nat} {v1 v2 v2' : Value} {W0 : List OpV} {w w' : World} {vh vo vl : Value} {s : FreeS} {l : OpV} {g3 cap3 : Nat} (h : FreeIn w0 g v1 v2 v2' W0 w vh vo vl s) (hk : okB s.H s.left l = false)
    (ho : w'.ownsRow w0.heap.size 29 3 (.slice (some ⟨g3, 0, none⟩) (s.left.length + 1) cap3) (s.left.length + 1) (flatO (s.left ++ [l]))) (hg : w.grownBy w' vl.ownBlock) (hat : vl.ownBlock = some g3 ∨ g3 = w.heap.size) (hg0 : g < w0.heap.size) (hv2 : ∀ k, v2'.ownBlock = some k → k < w0.heap.size) :
    FreeIn w0 g v1 v2 v2' W0 w' vh vo (.slice (some ⟨g3, 0, none⟩) (s.left.length + 1) cap3) (freeStep s l) := by
  have hfs : freeStep s l = ⟨s.H, s.out, s.left ++ [l]⟩ := by simp [freeStep, hk]
  have hF : Fr (fun k => vl.ownBlock = some k) w w' := Fr.of_grown hg (fun k hk => hk)
  have hll := h.ol.lt
  rw [hfs]
  refine ⟨h.tab.fr hF (fun k hk e => ?_), own_fr h.ow hF (fun k hk e => ?_), own_fr h.oo hF (fun k hk e => h.s3 k hk e), by simpa using ho, h.s1, ?_, ?_, h.s4, h.grow, ?_⟩
  · rcases hk with rfl | hk
    · have := (hll _ e).1; omega
    · exact h.s2 k hk e
  · have := (hll _ e).1
    have := hv2 k hk
    omega
  · exact (Sep.app h.s2.symm hat (fun k hk => (h.tab.o1.lt k hk).2)).symm
  · exact (Sep.app h.s3.symm hat (fun k hk => (h.oo.lt k hk).2)).symm
  · exact h.frame.trans' hF (fun k hk => .inr (hll k hk).1)
/-- The lock is held. -/
theorem FreeIn.held {w0 : World} {g : Nat} {v1 v2 v2' : Value} {W0 : List OpV} {w w1 w2 w' : World} {vh vh' vo vl : Value} {s : FreeS} {l : OpV} {g3 cap3 : Nat} (h : FreeIn w0 g v1 v2 v2' W0 w vh vo vl s) (hk : okB s.H s.left l = true)
    (h1 : TabH 41 w1 g vh' v2 (holdV s.H l)) (hF1 : Fr (fun k => k = g ∨ vh.ownBlock = some k) w w1) (hg1 : vh'.ownBlock = vh.ownBlock ∨ ∃ k, vh'.ownBlock = some k ∧ w.heap.size ≤ k ∧ k < w1.heap.size)
    (hB : Below w1.heap.size w1 w2) (ho : w'.ownsRow w0.heap.size 29 3 (.slice (some ⟨g3, 0, none⟩) (s.out.length + 1) cap3) (s.out.length + 1) (flatO (s.out ++ [l]))) (hg : w2.grownBy w' vo.ownBlock) (hat : vo.ownBlock = some g3 ∨ g3 = w2.heap.size) (hg0 : g < w0.heap.size) (hv2 : ∀ k, v2'.ownBlock = some k → k < w0.heap.size) (hv2g : v2'.ownBlock ≠ some g) :
    FreeIn w0 g v1 v2 v2' W0 w' vh' (.slice (some ⟨g3, 0, none⟩) (s.out.length + 1) cap3) vl (freeStep s l) := by
  have hfs : freeStep s l = ⟨holdV s.H l, s.out ++ [l], s.left⟩ := by simp [freeStep, hk]
  have hF : Fr (fun k => vo.ownBlock = some k) w2 w' := Fr.of_grown hg (fun k hk => hk)
  have hoo := h.oo.lt
  have hol := h.ol.lt
  have hsz : w0.heap.size ≤ w.heap.size := h.frame.size
  have hB1 := hB.size
  have hF1s := hF1.size
  have hnew : ∀ k, vh'.ownBlock = some k → vh.ownBlock = some k ∨ w.heap.size ≤ k := by
    intro k hk
    rcases hg1 with e | ⟨j, e, hj, _⟩
    · exact .inl (by rw [← e]; exact hk)
    · right; rw [e] at hk; have := Option.some.inj hk; omega
  have s1' : Sep vh' vo := fun k hk e => by
    rcases hnew k hk with h' | h'
    · exact h.s1 k h' e
    · have := (hoo k e).2; omega
  have s2' : Sep vh' vl := fun k hk e => by
    rcases hnew k hk with h' | h'
    · exact h.s2 k h' e
    · have := (hol k e).2; omega
  have s4' : Sep vh' v2' := fun k hk e => by
    rcases hnew k hk with h' | h'
    · exact h.s4 k h' e
    · have := hv2 k e; omega
  have ow1 := own_fr h.ow hF1 (fun k hk e => by
    rcases e with e | e
    · exact hv2g (by rw [hk, e])
    · exact h.s4 k e hk)
  have ol1 := own_fr h.ol hF1 (fun k hk e => by
    rcases e with e | e
    · have := (hol k hk).1; omega
    · exact h.s2 k e hk)
  have hvh : ∀ k, vh'.ownBlock = some k → k < w2.heap.size := fun k hk => Nat.lt_of_lt_of_le (h1.o1.lt k hk).2 hB1
  rw [hfs]
  refine ⟨(h1.new hB).fr hF (fun k hk e => ?_), own_fr (own_below ow1 hB) hF (fun k hk e => ?_), by simpa using ho, own_fr (own_below ol1 hB) hF (fun k hk e => h.s3 k e hk), ?_, s2', ?_, s4', ?_, ?_⟩
  · rcases hk with rfl | hk
    · have := (hoo _ e).1; omega
    · exact s1' k hk e
  · have := (hoo _ e).1
    have := hv2 k hk
    omega
  · exact (Sep.app s1'.symm hat hvh).symm
  · exact Sep.app h.s3 hat (fun k hk => by have := (hol k hk).2; omega)
  · intro k hk
    rcases hnew k hk with h' | h'
    · exact h.grow k h'
    · exact .inr (by omega)
  · refine ((h.frame.trans' hF1 (fun k hk => ?_)).new hB).trans' hF (fun k hk => .inr (hoo k hk).1)
    rcases hk with rfl | hk
    · exact .inl (.inl rfl)
    · rcases h.grow k hk with h' | h'
      · exact .inl (.inr (.inl h'))
      · exact .inr h'

set_option maxRecDepth 100000 in
set_option maxHeartbeats 4000000 in
theorem free_yes (g : Nat) (v1 v2 : Value) (H W : List OpV) (tx : Int) (w : World) (hT : TabIs 41 w g v1 v2 H W) (hH : H.length ≤ 400000) (hW : W.length ≤ 400000) (hr : numB tx = true) :
    Calls Try.prog 8 #[.pointer (some ⟨g, 0, none⟩), .int .i64 tx] w fun e w' => ∃ v1' v2' vo, e = .returned (.tuple #[vo, .nilIface]) ∧ TabIs 41 w' g v1' v2' (freeV H W tx).H (freeV H W tx).left ∧
      w'.ownsRow w.heap.size 29 3 vo (freeV H W tx).out.length (flatO (freeV H W tx).out) ∧ Fr (fun k => k = g ∨ v1.ownBlock = some k ∨ v2.ownBlock = some k) w w' ∧
      (∀ k, v1'.ownBlock = some k → v1.ownBlock = some k ∨ w.heap.size ≤ k) ∧ (∀ k, v2'.ownBlock = some k → w.heap.size ≤ k) ∧ Sep v1' vo ∧ Sep vo v2' := by
  have hlt := heap_lt hT.blk
  have c0 : w.cell? ⟨g, 0, none⟩ = some v1 := by rw [cell_of_row w g _ _ _ _ hT.blk]; rfl
  have c1 : w.cell? ⟨g, 1, none⟩ = some v2 := by rw [cell_of_row w g _ _ _ _ hT.blk]; rfl
  have f0 : w.frozen? ⟨g, 0, none⟩ = false := by simp [World.frozen?, hT.blk]
  have f1 : w.frozen? ⟨g, 1, none⟩ = false := by simp [World.frozen?, hT.blk]
  have hB0 : Below w.heap.size w (w.alloc (.cells #[.int .i64 tx] 3)) := (Below.refl _ w).alloc (Nat.le_refl _) _
  have hb0 : (w.alloc (.cells #[.int .i64 tx] 3)).cell? ⟨w.heap.size, 0, none⟩ = some (.int .i64 tx) := by rw [cell_of_row _ _ _ _ _ _ (heap_alloc_new w _)]; rfl
  have hT1 := hT.new hB0
  have hd1 : Calls Try.prog 23 #[v1, .func (.func 22) #[] #[.pointer (some ⟨w.heap.size, 0, none⟩)]] (w.alloc (.cells #[.int .i64 tx] 3)) fun e w' => ∃ v', e = .returned v' ∧ v'.ownBlock = v1.ownBlock ∧ w'.ownsRow 0 29 3 v' (noB tx H).length (flatO (noB tx H)) ∧ Fr (fun k => v1.ownBlock = some k) (w.alloc (.cells #[.int .i64 tx] 3)) w' := delete_own 22 #[.pointer (some ⟨w.heap.size, 0, none⟩)] (ofB tx) (fun w' => w'.cell? ⟨w.heap.size, 0, none⟩ = some (.int .i64 tx) ∧ w.heap.size < w'.heap.size) v1 0 H.length H _ hT1.o1 (by omega) ⟨hb0, by simp⟩
    (fun g' hg' => its_predC _ tx g' (fun e => by have := (hT.o1.lt g' hg').2; omega)) (free_its_pred _ tx _ hb0 (by simp))
  have hd2 : ∀ w1 : World, w1.ownsRow 0 29 3 v2 W.length (flatO W) → w1.cell? ⟨w.heap.size, 0, none⟩ = some (.int .i64 tx) → w.heap.size < w1.heap.size → Calls Try.prog 23 #[v2, .func (.func 22) #[] #[.pointer (some ⟨w.heap.size, 0, none⟩)]] w1 fun e w' => ∃ v', e = .returned v' ∧ v'.ownBlock = v2.ownBlock ∧ w'.ownsRow 0 29 3 v' (noB tx W).length (flatO (noB tx W)) ∧ Fr (fun k => v2.ownBlock = some k) w1 w' := fun w1 ho hc hs =>
    delete_own 22 #[.pointer (some ⟨w.heap.size, 0, none⟩)] (ofB tx) (fun w' => w'.cell? ⟨w.heap.size, 0, none⟩ = some (.int .i64 tx) ∧ w.heap.size < w'.heap.size) v2 0 W.length W w1 ho (by omega) ⟨hc, hs⟩
      (fun g' hg' => its_predC _ tx g' (fun e => by have := (hT.o2.lt g' hg').2; omega)) (free_its_pred _ tx _ hc hs)
  have HFV : Hid (freeV H W tx = (noB tx W).foldl freeStep ⟨noB tx H, [], []⟩) := Lib.hid rfl
  have hn1 : (noB tx H).length ≤ 400000 := Nat.le_trans (List.length_filter_le _ _) hH
  have hn2 : (noB tx W).length ≤ 400000 := Nat.le_trans (List.length_filter_le _ _) hW
  generalize noB tx H = H0 at *
  generalize noB tx W = W0 at *
  have HD2 := Lib.hid hd2
  have hT0 := Lib.hid hT
  have HT1 := Lib.hid hT1
  have HD1 := Lib.hid hd1
  have HX := Lib.hid hr
  have HB0 := Lib.hid hB0
  have hgo1 : v1.ownBlock ≠ some g := own_ne_blk hT.o1 hT.blk (by decide)
  have hgo2 : v2.ownBlock ≠ some g := own_ne_blk hT.o2 hT.blk (by decide)
  have hov1 := fun k hk => (hT.o1.lt k hk).2
  have hov2 := fun k hk => (hT.o2.lt k hk).2
  have HOV1 := Lib.hid hov1
  have HOV2 := Lib.hid hov2
  have HNE := Lib.hid hT.ne
  clear hT hT1 hd1 hd2 hr hB0 hov1 hov2
  go_enter Try.func8, Try.ntmps8
  go_upto_region 5 with (first
    | (go_at_call 21; refine (hTx_any _ _).mono ?_; rw [HX.out]; rintro e w' ⟨rfl, rfl⟩)
    | (go_at_call 23; refine HD1.out.mono ?_; rintro e w2 ⟨vh, rfl, hvh, ho2, hF2⟩; obtain ⟨Ah, ch, rfl, hAh, hAh'⟩ := own_slice ho2; have d0 := (hF2.cell (p := ⟨g, 0, none⟩) (by simp; omega) hgo1).trans ((World.cell?_alloc_lt _ _ _ (by simp; omega)).trans c0); have df0 := (hF2.frozen (p := ⟨g, 0, none⟩) (by simp; omega) hgo1).trans ((frozen?_alloc_cells _ _ _ _).trans f0); have HO2 := Lib.hid ho2; have HF2 := Lib.hid hF2; have HVH := Lib.hid hvh; clear ho2 hF2 hvh hAh hAh'))
  have hFa : Fr (fun k => k = g ∨ v1.ownBlock = some k ∨ v2.ownBlock = some k) w w2 := (Fr.of_new HB0.out).trans (HF2.out.mono (fun k hk => .inr (.inl hk)))
  have hFb := hFa.set1 g 0 (.slice Ah H0.length ch) (.inl rfl)
  have hFg : Fr (fun k => k = g) w2 (w2.setCell ⟨g, 0, none⟩ (.slice Ah H0.length ch)) := (Fr.refl (fun k => k = g) w2).set1 g 0 _ rfl
  have hvg : (Value.slice Ah H0.length ch).ownBlock ≠ some g := by rw [HVH.out]; exact hgo1
  have hw2g : w2.heap[g]? = some (.cells #[v1, v2] 41) := (HF2.out.block g (by simp; omega) hgo1).trans HT1.out.blk
  have htab : TabH 41 (w2.setCell ⟨g, 0, none⟩ (.slice Ah H0.length ch)) g (.slice Ah H0.length ch) v2 H0 := ⟨heap_setCell_same w2 g 0 _ _ _ hw2g, own_fr HO2.out hFg (fun k hk e => hvg (by rw [hk, e]))⟩
  have how : (w2.setCell ⟨g, 0, none⟩ (.slice Ah H0.length ch)).ownsRow 0 29 3 v2 W.length (flatO W) := own_fr (own_fr HT1.out.o2 HF2.out (fun k hk e => HNE.out k e hk)) hFg (fun k hk e => hgo2 (by rw [hk, e]))
  have hcb : (w2.setCell ⟨g, 0, none⟩ (.slice Ah H0.length ch)).cell? ⟨w.heap.size, 0, none⟩ = some (.int .i64 tx) := by
    rw [World.cell?_setCell_other _ _ _ _ (fun e => by injection e with e1; omega), HF2.out.cell (p := ⟨w.heap.size, 0, none⟩) (by simp) (fun e => absurd (HOV1.out _ e) (Nat.lt_irrefl _))]
    exact hb0
  have hsX : w.heap.size < (w2.setCell ⟨g, 0, none⟩ (.slice Ah H0.length ch)).heap.size := by have := HF2.out.size; simp [World.setCell] at this ⊢; omega
  have hd1 : (w2.setCell ⟨g, 0, none⟩ (.slice Ah H0.length ch)).cell? ⟨g, 1, none⟩ = some v2 := by rw [cell_of_row _ _ _ _ _ _ htab.blk]; rfl
  clear hFa hw2g d0 df0
  generalize w2.setCell ⟨g, 0, none⟩ (.slice Ah H0.length ch) = X at *
  have HFb := Lib.hid hFb
  have HTab := Lib.hid htab
  have HCall := Lib.hid (HD2.out X how hcb hsX)
  have HCb := Lib.hid hcb
  clear hFb htab how hcb hFg c0 c1 f0 f1 hb0
  go_wp2_with (go_at_call 23; refine HCall.out.mono ?_; rintro e w3 ⟨vw, rfl, hvw, ho3, hF3⟩; obtain ⟨Aw, cw, rfl, hAw, hAw'⟩ := own_slice ho3; have HO3 := Lib.hid ho3; have HF3 := Lib.hid hF3; have HVW := Lib.hid hvw; clear ho3 hF3 hvw hAw hAw')
  have hs3 := HF3.out.size
  have hin0 : FreeIn w g v1 v2 (.slice Aw W0.length cw) W0 w3 (.slice Ah H0.length ch) (.slice none 0 0) (.slice none 0 0) ⟨H0, [], []⟩ :=
    ⟨HTab.out.fr HF3.out (fun k hk e => by
        rcases hk with rfl | hk
        · exact hgo2 e
        · exact HNE.out k (by rw [← HVH.out]; exact hk) e), HO3.out, ⟨rfl, .inl ⟨rfl, rfl⟩⟩, ⟨rfl, .inl ⟨rfl, rfl⟩⟩, (fun k hk e => by simp [Value.ownBlock] at e), (fun k hk e => by simp [Value.ownBlock] at e), (fun k hk e => by simp [Value.ownBlock] at e),
      (fun k hk e => HNE.out k (by rw [← HVH.out]; exact hk) (by rw [← HVW.out]; exact e)), (fun k hk => .inl (by rw [← HVH.out]; exact hk)), HFb.out.trans (HF3.out.mono (fun k hk => .inr (.inr hk)))⟩
  have hvwlt : ∀ k, (Value.slice Aw W0.length cw).ownBlock = some k → k < w.heap.size := fun k hk => HOV2.out k (by rw [← HVW.out]; exact hk)
  have hvwg : (Value.slice Aw W0.length cw).ownBlock ≠ some g := by rw [HVW.out]; exact hgo2
  have HIn0 := Lib.hid hin0
  have HVWlt := Lib.hid hvwlt
  have HVWg := Lib.hid hvwg
  clear hin0 hvwlt hvwg HTab HCall HF3 HO3 HFb HF2 HO2 hvg hd1
  go_loopg [7, 8, 32] W0.length (fun k s7 s8 s32 wx => ∃ (i : Nat) (vh vo vl : Value), i + k = W0.length ∧ s32 = .int .i64 i ∧ vo = s7 ∧ vl = s8 ∧ FreeIn w g v1 v2 (.slice Aw W0.length cw) W0 wx vh vo vl ((W0.take i).foldl freeStep ⟨H0, [], []⟩))
  case atStart => exact ⟨0, _, _, _, by omega, rfl, rfl, rfl, HIn0.out⟩
  case round =>
    obtain ⟨i, vh, vo, vl, hk, rfl, rfl, rfl, hin⟩ := hrel
    have hfl := freeFold_len (W0.take i) ⟨H0, [], []⟩
    simp only [List.length_take, List.length_nil] at hfl
    by_cases hi : i < W0.length
    · have hft := fold_take W0 ⟨H0, [], []⟩ i hi
      have HFT := Lib.hid hft
      clear hft
      generalize (W0.take i).foldl freeStep ⟨H0, [], []⟩ = st at *
      obtain ⟨b, off, e, hb, hb2, hcell⟩ := (of_own3 hin.ow).at_ hi
      obtain ⟨A1, e1, rfl, _, _⟩ := own_slice hin.tab.o1
      obtain ⟨A3, e3, rfl, _, _⟩ := own_slice hin.ol
      have hRh := of_own3 hin.tab.o1
      have hRl := of_own3 hin.ol
      have d0 : wr.cell? ⟨g, 0, none⟩ = some (.slice A1 st.H.length e1) := by rw [cell_of_row _ _ _ _ _ _ hin.tab.blk]; rfl
      have hgw := heap_lt hin.tab.blk
      have HIn := Lib.hid hin
      have hszw : w.heap.size ≤ wr.heap.size := hin.frame.size
      cases e
      generalize W0[i] = l at *
      have q0 : wr.cell? ⟨b, off + i * 3, none⟩ = some (.int .i64 l.tx) := hcell 0 _ rfl
      have q1 : wr.cell? ⟨b, off + i * 3 + 1, none⟩ = some (.int .i64 l.what) := hcell 1 _ rfl
      have q2 : wr.cell? ⟨b, off + i * 3 + 2, none⟩ = some (.int .i64 l.item) := hcell 2 _ rfl
      have HRh := Lib.hid hRh
      have HRl := Lib.hid hRl
      clear hin hcell hRh hRl
      go_upto_region 9 with fail
      have hBx : Below wr.heap.size wr (wr.alloc (.cells #[.int .i64 l.tx, .int .i64 l.what, .int .i64 l.item] 29)) := (Below.refl _ wr).alloc (Nat.le_refl _) _
      have hblk := heap_alloc_new wr (.cells #[.int .i64 l.tx, .int .i64 l.what, .int .i64 l.item] 29)
      have hszx : wr.heap.size < (wr.alloc (.cells #[.int .i64 l.tx, .int .i64 l.what, .int .i64 l.item] 29)).heap.size := by simp
      have d0x := (hBx.cell (p := ⟨g, 0, none⟩) hgw).trans d0
      obtain ⟨b0, b1, b2⟩ := triple_cells (x := l) hblk
      generalize hWe : wr.alloc (.cells #[.int .i64 l.tx, .int .i64 l.what, .int .i64 l.item] 29) = V at *
      clear hWe
      have HBx := Lib.hid hBx
      have HBlk := Lib.hid hblk
      have hf1 := fun w1 (hB : Below wr.heap.size wr w1) => lfree_any st.H A1 e1 l w1 ((HRh.out.below hB).mono hB.size) (by omega)
      have hf2 := fun w1 (hB : Below wr.heap.size wr w1) => lfree_any st.left A3 e3 l w1 ((HRl.out.below hB).mono hB.size) (by omega)
      have HF1 := Lib.hid hf1
      have HF2 := Lib.hid hf2
      obtain ⟨xt, xi, xm⟩ := l
      clear hBx hblk d0 q0 q1 q2 hf1 hf2
      go_cut [46] (fun s46 wd => s46 = .bool (okB st.H st.left ⟨xt, xi, xm⟩) ∧ Below wr.heap.size wr wd ∧ wd.heap[wr.heap.size]? = some (.cells #[.int .i64 xt, .int .i64 xi, .int .i64 xm] 29))
      --[S1
      case first => as_aux_lemma =>
        have k0 := cell_regrown d0x
        have k2 := cell_regrown b0
        have k3 := cell_regrown b1
        have k4 := cell_regrown b2
        cases ha : st.H.any (oddsB ⟨xt, xi, xm⟩) with
        | true =>
          have HK := Lib.hid (show okB st.H st.left ⟨xt, xi, xm⟩ = false by simp only [okB, ha]; rfl)
          rw [ha, Bool.not_true] at HF1
          clear ha
          have cF1 : ∀ d os, Calls Try.prog 15 #[.slice A1 st.H.length e1, (⟨xt, xi, xm⟩ : OpV).agg] (grow (redrawn V d) os) fun e w'' => e = .returned (.bool false) ∧ ∃ p : Regrown, w'' = grow (redrawn V p.d) p.os := fun d os => Calls.regrown_of (HF1.out _ (HBx.out.trans ((below_regrown V d os).mono HBx.out.size)))
          refine wp_region_quiet_below (by kernel_rfl) (by kernel_rfl) ?_
          repeat (first | go_big_quiet_skip | quiet_step (exact cF1 _ _))
          refine wpQuiet_nil ?_
          intro _ hw'
          obtain ⟨⟨dq, osq⟩, hw''⟩ := hw'
          subst hw''
          go_wp2
          go_meet
          case rel => exact ⟨by rw [HK.out], HBx.out.trans ((below_regrown V dq osq).mono HBx.out.size), ((below_regrown V dq osq).block _ hszx).trans HBlk.out⟩
        | false =>
          have HK := Lib.hid (show okB st.H st.left ⟨xt, xi, xm⟩ = !st.left.any (oddsB ⟨xt, xi, xm⟩) by simp only [okB, ha]; rfl)
          rw [ha, Bool.not_false] at HF1
          clear ha
          have cF1 : ∀ d os, Calls Try.prog 15 #[.slice A1 st.H.length e1, (⟨xt, xi, xm⟩ : OpV).agg] (grow (redrawn V d) os) fun e w'' => e = .returned (.bool true) ∧ ∃ p : Regrown, w'' = grow (redrawn V p.d) p.os := fun d os => Calls.regrown_of (HF1.out _ (HBx.out.trans ((below_regrown V d os).mono HBx.out.size)))
          have cF2 : ∀ d os, Calls Try.prog 15 #[.slice A3 st.left.length e3, (⟨xt, xi, xm⟩ : OpV).agg] (grow (redrawn V d) os) fun e w'' => e = .returned (.bool !st.left.any (oddsB ⟨xt, xi, xm⟩)) ∧ ∃ p : Regrown, w'' = grow (redrawn V p.d) p.os := fun d os => Calls.regrown_of (HF2.out _ (HBx.out.trans ((below_regrown V d os).mono HBx.out.size)))
          refine wp_region_quiet_below (by kernel_rfl) (by kernel_rfl) ?_
          repeat (first | go_big_quiet_skip | quiet_step (first | exact cF1 _ _ | exact cF2 _ _))
          refine wpQuiet_nil ?_
          intro _ hw'
          obtain ⟨⟨dq, osq⟩, hw''⟩ := hw'
          subst hw''
          go_wp2
          go_meet
          case rel => exact ⟨by rw [HK.out], HBx.out.trans ((below_regrown V dq osq).mono HBx.out.size), ((below_regrown V dq osq).block _ hszx).trans HBlk.out⟩
      --]S1
      case rest =>
        obtain ⟨rfl, hB5, hblk5⟩ := hcut
        obtain ⟨w5, rfl⟩ : ∃ w5 : World, w5 = wc := ⟨_, rfl⟩
        clear d0x b0 b1 b2 hszx HBx HBlk
        have hin5 := HIn.out.new hB5
        have HNB : Hid (¬ (wr.heap.size = g ∨ (Value.slice A1 st.H.length e1).ownBlock = some wr.heap.size)) := Lib.hid (fun e => by
          rcases e with e | e
          · omega
          · exact absurd (HIn.out.tab.o1.lt _ e).2 (Nat.lt_irrefl _))
        obtain ⟨b0, b1, b2⟩ := triple_cells (x := ⟨xt, xi, xm⟩) hblk5
        have HIn5 := Lib.hid hin5
        have HB5 := Lib.hid hB5
        have HBL5 := Lib.hid hblk5
        have hsz5 := heap_lt hblk5
        clear hB5 hblk5 hin5
        cases hk : okB st.H st.left ⟨xt, xi, xm⟩ with
        | true =>
          have HKK := Lib.hid hk
          have HHo := Lib.hid (hold_core g _ _ st.H ⟨xt, xi, xm⟩ w5 HIn5.out.tab (by omega))
          clear hk
          have HOO : Hid (∀ w1 : World, Fr (fun k => k = g ∨ (Value.slice A1 st.H.length e1).ownBlock = some k) w5 w1 → w1.ownsRow w.heap.size 29 3 vo st.out.length (flatO st.out)) := Lib.hid fun w1 hF => own_fr HIn5.out.oo hF (fun k hk e => by
            rcases e with e | e
            · have := (HIn5.out.oo.lt k hk).1; omega
            · exact HIn5.out.s1 k e hk)
          go_wp2_with (first
            | (go_at_call 16; refine HHo.out.mono ?_; rintro e w6 ⟨rfl, vh', hT6, hF6, hg6⟩; have e0 := (hF6.cell (p := ⟨wr.heap.size, 0, none⟩) hsz5 HNB.out).trans b0; have e1' := (hF6.cell (p := ⟨wr.heap.size, 1, none⟩) hsz5 HNB.out).trans b1; have e2 := (hF6.cell (p := ⟨wr.heap.size, 2, none⟩) hsz5 HNB.out).trans b2; have hs6 := hF6.size; have HT6 := Lib.hid hT6; have HF6 := Lib.hid hF6; have HG6 := Lib.hid hg6; clear hT6 hF6 hg6)
            | (at_builtin; refine wpList_appLock _ (by rfl) (.tmp 50) (.tmp 52) (by rfl) w.heap.size vo st.out.length st.out (by rfl) (own_below (HOO.out _ HF6.out) ((Below.refl _ w6).alloc (Nat.le_refl _) _)) w6.heap.size ⟨xt, xi, xm⟩ (by rfl) (heap_alloc_new _ _) (by omega) (by have := HB5.out.size; simp; omega) ?_; intro g3 cap3 w7 ho7 hg7 hat7 hlt7; have HO7 := Lib.hid ho7; have HG7 := Lib.hid hg7; have HAT := Lib.hid hat7; clear ho7 hg7 hat7))
          go_roundg (gk - 1)
          case measure => omega
          case rel => exact ⟨i + 1, vh', _, _, by omega, by go_num, rfl, rfl, by rw [HFT.out]; exact HIn5.out.held HKK.out HT6.out HF6.out HG6.out ((Below.refl _ w6).alloc (Nat.le_refl _) _) HO7.out HG7.out HAT.out hlt HVWlt.out HVWg.out⟩
        | false =>
          have HKK := Lib.hid hk
          clear hk
          go_wp2_with (at_builtin; refine wpList_appLock _ (by rfl) (.tmp 54) (.tmp 56) (by rfl) w.heap.size (.slice A3 st.left.length e3) st.left.length st.left (by rfl) (own_below HIn5.out.ol ((Below.refl _ w5).alloc (Nat.le_refl _) _)) w5.heap.size ⟨xt, xi, xm⟩ (by rfl) (heap_alloc_new _ _) (by omega) (by have := HB5.out.size; simp; omega) ?_; intro g3 cap3 w7 ho7 hg7 hat7 hlt7; have HO7 := Lib.hid ho7; have HG7 := Lib.hid hg7; have HAT := Lib.hid hat7; clear ho7 hg7 hat7)
          go_roundg (gk - 1)
          case measure => omega
          case rel => exact ⟨i + 1, _, _, _, by omega, by go_num, rfl, rfl, by rw [HFT.out]; exact (HIn5.out.new ((Below.refl _ w5).alloc (Nat.le_refl _) _)).wait HKK.out HO7.out HG7.out HAT.out hlt HVWlt.out⟩
    · obtain rfl : i = W0.length := by omega
      rw [List.take_of_length_le (Nat.le_refl _)] at hin
      rw [← HFV.out] at hin
      obtain ⟨R, hRe⟩ : ∃ R, R = freeV H W tx := ⟨_, rfl⟩
      rw [← hRe] at hin
      obtain ⟨A1, e1, rfl, _, _⟩ := own_slice hin.tab.o1
      obtain ⟨A3, e3, rfl, _, _⟩ := own_slice hin.ol
      have d1 : wr.cell? ⟨g, 1, none⟩ = some v2 := by rw [cell_of_row _ _ _ _ _ _ hin.tab.blk]; rfl
      have df : wr.frozen? ⟨g, 1, none⟩ = false := by simp [World.frozen?, hin.tab.blk]
      have HIn := Lib.hid hin
      have HRes := Lib.hid hRe
      clear hin hfl hRe
      go_wp2
      go_ret2
      rw [← HRes.out]
      have hFg : Fr (fun k => k = g) wr (wr.setCell ⟨g, 1, none⟩ (.slice A3 R.left.length e3)) := (Fr.refl (fun k => k = g) wr).set1 g 1 _ rfl
      have hol := HIn.out.ol.lt
      have hoo := HIn.out.oo.lt
      refine ⟨_, _, vo, rfl, ⟨heap_setCell_same wr g 1 _ _ _ HIn.out.tab.blk, own_fr HIn.out.tab.o1 hFg (fun k hk e => own_ne_blk HIn.out.tab.o1 HIn.out.tab.blk (by decide) (by rw [hk, e])), own_base (own_fr HIn.out.ol hFg (fun k hk e => by have := (hol k hk).1; omega)) (Nat.zero_le _), HIn.out.s2⟩,
        own_fr HIn.out.oo hFg (fun k hk e => by have := (hoo k hk).1; omega), HIn.out.frame.set1 g 1 _ (.inl rfl), HIn.out.grow, fun k hk => (hol k hk).1, HIn.out.s1, HIn.out.s3⟩
end Go.Proofs.Ytkfemodellmakaa
