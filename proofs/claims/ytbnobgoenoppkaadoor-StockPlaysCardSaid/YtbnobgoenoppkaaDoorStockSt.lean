/- StockPlays: what the law holds between two rounds, and the calls seen from there. -/
import Derived.Test.YtbnobgoenoppkaaDoorStockPlain
import Derived.Test.YtbnobgoenoppkaaDoorRead
import Derived.Test.YtbnobgoenoppkaaDoorTold
import Derived.Deep.DeepCutAuto
import Derived.Deep.CutBlock
import Derived.Deep.Light
namespace Go.Proofs.YtbnobgoenoppkaaDoor
open Go.RowKit
set_option linter.unusedSimpArgs false
set_option linter.unusedVariables false

theorem rtx_true (n : Int) (w : World) (h : 1 ≤ n) (h' : n ≤ 6) :
    Calls Tryd.prog 14 #[.int .i64 n] w fun e w' => e = .returned (.bool true) ∧ w = w' := by
  go_enter Tryd.func14, Tryd.ntmps14
  go_wp2
  go_ret
  exact ⟨rfl, rfl⟩
theorem rtx_false (n : Int) (w : World) (h : n < 1 ∨ 6 < n) :
    Calls Tryd.prog 14 #[.int .i64 n] w fun e w' => e = .returned (.bool false) ∧ w = w' := by
  rcases h with h | h
  · go_enter Tryd.func14, Tryd.ntmps14
    go_wp2
    go_ret
    exact ⟨rfl, rfl⟩
  · have h' : 1 ≤ n := by omega
    have h2 : decide (n ≤ 6) = false := by simp; omega
    go_enter Tryd.func14, Tryd.ntmps14
    go_wp2
    go_ret
    exact ⟨rfl, rfl⟩

/-- What the law and the program hold between two rounds. -/
structure StockSt (w : World) (g b ga gt : Nat) (now : Int) (L : List MEnt) (A T : Int → Int) : Prop where
  st : StockIs w g b now L
  ra : w.heap[ga]? = some (.cells (arr7 A) 29)
  rt : w.heap[gt]? = some (.cells (arr7 T) 29)
  coh : Coh L A T
  lo : upto T 6 ≤ now
  hi : now + upto A 6 ≤ 1000000
  err : ErrVar w
section
variable {w w' : World} {g b ga gt : Nat} {now : Int} {L : List MEnt} {A T : Int → Int}
theorem StockSt.blt (h : StockSt w g b ga gt now L A T) : b < w.heap.size := by obtain ⟨_, hb, _⟩ := h.st.map; exact heap_lt hb
theorem StockSt.fr {S : Nat → Prop} (h : StockSt w g b ga gt now L A T) (hf : Fr S w w') (h1 : ¬ S g) (h2 : ¬ S b) (h3 : ¬ S ga) (h4 : ¬ S gt) (h5 : ¬ S 0) : StockSt w' g b ga gt now L A T := by
  obtain ⟨clock, hb, hok⟩ := h.st.map
  exact ⟨⟨(hf.block g (heap_lt h.st.row) h1).trans h.st.row, ⟨clock, (hf.block b (heap_lt hb) h2).trans hb, hok⟩, h.st.asked⟩, (hf.block ga (heap_lt h.ra) h3).trans h.ra, (hf.block gt (heap_lt h.rt) h4).trans h.rt, h.coh, h.lo, h.hi, h.err.fr hf h5⟩
theorem StockSt.new (h : StockSt w g b ga gt now L A T) (hB : Below w.heap.size w w') : StockSt w' g b ga gt now L A T :=
  h.fr (S := fun _ => False) (Fr.of_new hB) id id id id id
theorem StockSt.alloc (h : StockSt w g b ga gt now L A T) (o : Obj) : StockSt (w.alloc o) g b ga gt now L A T := h.new ((Below.refl _ w).alloc (Nat.le_refl _) o)
end

/-- The first three of a list, noughts behind it; so far the first k. -/
def v3 (xs : List Int) (k : Nat) : Array Value := #[.int .i64 (if 0 < k then xs.getD 0 0 else 0), .int .i64 (if 1 < k then xs.getD 1 0 else 0), .int .i64 (if 2 < k then xs.getD 2 0 else 0)]
theorem v3_set (xs : List Int) (k : Nat) (hk : k < 3) (hl : k < xs.length) : (v3 xs k).setIfInBounds k (.int .i64 xs[k]) = v3 xs (k + 1) := by
  have : k = 0 ∨ k = 1 ∨ k = 2 := by omega
  rcases this with rfl | rfl | rfl <;> simp [v3, List.getD_eq_getElem?_getD, List.getElem?_eq_getElem hl]

theorem upd_self (A : Int → Int) (i : Int) : upd A i (A i) = A := by
  funext k
  unfold upd
  split
  · rename_i h; rw [h]
  · rfl
theorem upto_le {A : Int → Int} {m : Nat} (n : Nat) (h : ∀ d : Int, 1 ≤ d → d ≤ n → 0 ≤ A d) (hm : m ≤ n) : upto A m ≤ upto A n := by
  induction n with
  | zero =>
    have : m = 0 := by omega
    subst this
    exact Int.le_refl _
  | succ n ih =>
    by_cases e : m = n + 1
    · subst e; exact Int.le_refl _
    · have h1 := ih (fun d h1 h2 => h d h1 (by omega)) (by omega)
      have h2 := h ((n : Int) + 1) (by omega) (by omega)
      simp only [upto]
      omega
/-- Is a number a deal? -/
def txB (n : Int) : Bool := decide (1 ≤ n ∧ n ≤ 6)
theorem txB_true {n : Int} : txB n = true ↔ 1 ≤ n ∧ n ≤ 6 := by simp [txB]
theorem txB_false {n : Int} : txB n = false ↔ n < 1 ∨ 6 < n := by simp [txB]; omega
theorem rtx_any (n : Int) (w : World) : Calls Tryd.prog 14 #[.int .i64 n] w fun e w' => e = .returned (.bool (txB n)) ∧ w = w' := by
  cases h : txB n with
  | true => have := txB_true.1 h; exact rtx_true n w this.1 this.2
  | false => exact rtx_false n w (txB_false.1 h)
section
variable {w : World} {g b ga gt : Nat} {now : Int} {L : List MEnt} {A T : Int → Int}
theorem arr7_cell {w : World} {ga : Nat} {A : Int → Int} {t : TypeId} (h : w.heap[ga]? = some (.cells (arr7 A) t)) (i : Int) (h0 : 0 ≤ i) (h1 : i ≤ 6) : w.cell? ⟨ga, i.toNat, none⟩ = some (.int .i64 (A i)) := by
  rw [cell_of_row w ga _ _ _ _ h, arr7_at A i h0 h1]
theorem arr7_cellN {w : World} {ga : Nat} {A : Int → Int} {t : TypeId} (h : w.heap[ga]? = some (.cells (arr7 A) t)) (e : Nat) (h1 : e < 6) : w.cell? ⟨ga, e + 1, none⟩ = some (.int .i64 (A ((e : Int) + 1))) := by
  have := arr7_cell h ((e : Int) + 1) (by omega) (by omega)
  rwa [show ((e : Int) + 1).toNat = e + 1 by omega] at this
end
theorem v3_full (xs : List Int) (k : Nat) (h : 3 ≤ k ∨ xs.length ≤ k) : v3 xs k = v3 xs 3 := by
  by_cases h3 : 3 ≤ k
  · simp [v3, show 0 < k by omega, show 1 < k by omega, show 2 < k by omega]
  · have hl : xs.length ≤ k := by omega
    have g0 : ∀ q, ¬ q < k → xs[q]?.getD 0 = 0 := fun q hq => by rw [List.getElem?_eq_none (by omega)]; rfl
    simp only [v3, List.getD_eq_getElem?_getD]
    have e0 := g0 0
    have e1 := g0 1
    have e2 := g0 2
    by_cases q0 : 0 < k <;> by_cases q1 : 1 < k <;> by_cases q2 : 2 < k <;> simp [q0, q1, q2] <;> simp_all


/-! ### The calls, from what the law holds -/
section
variable {w : World} {g b ga gt : Nat} {now : Int} {L : List MEnt} {A T : Int → Int}
theorem StockSt.bnd (h : StockSt w g b ga gt now L A T) : 0 ≤ tks L ∧ tks L ≤ now ∧ 0 ≤ ads L ∧ now + ads L ≤ 1000000 := by
  have q1 := (h.coh.upto_nonneg 6 (by omega)).1
  have q2 := (h.coh.upto_nonneg 6 (by omega)).2
  have q3 := h.lo
  have q4 := h.hi
  rw [h.coh.tks, h.coh.ads]
  omega
theorem StockSt.askNo (h : StockSt w g b ga gt now L A T) {tx d : Int} (t1 : 1 ≤ tx) (t2 : tx ≤ 6) (d0 : d ≠ 0) (d1 : -1000000 ≤ d) (d2 : d ≤ 1000000) (hno : now - upto T 6 + d < 0 ∨ 1000000 < now + upto A 6 + d) :
    Calls Tryd.prog 15 #[.pointer (some ⟨g, 0, none⟩), .int .i64 tx, .int .i64 d] w fun e w' => e = .returned (.tuple #[.bool false, .nilIface]) ∧ Below w.heap.size w w' := by
  obtain ⟨b1, b2, b3, b4⟩ := h.bnd
  rw [← h.coh.tks, ← h.coh.ads] at hno
  exact ask_no g b now L tx d w h.st b1 b2 b3 b4 t1 t2 d0 d1 d2 hno
theorem StockIs.fr {S : Nat → Prop} {w' : World} (h : StockIs w g b now L) (hf : Fr S w w') (h1 : ¬ S g) (h2 : ¬ S b) : StockIs w' g b now L := by
  obtain ⟨clock, hb, hok⟩ := h.map
  exact ⟨(hf.block g (heap_lt h.row) h1).trans h.row, ⟨clock, (hf.block b (heap_lt hb) h2).trans hb, hok⟩, h.asked⟩
theorem StockSt.askTake (h : StockSt w g b ga gt now L A T) (n0 : 0 < b) (n1 : b < g) (n2 : g < ga) (n3 : ga < gt) {tx d : Int} (t1 : 1 ≤ tx) (t2 : tx ≤ 6) (d0 : d < 0) (d1 : -1000000 ≤ d) (hy : 0 ≤ now - upto T 6 + d) {w1 : World} (hw1 : w1 = (w.setCell ⟨gt, tx.toNat, none⟩ (.int .i64 (T tx - d))).drew) :
    Calls Tryd.prog 15 #[.pointer (some ⟨g, 0, none⟩), .int .i64 tx, .int .i64 d] w1 fun e w' => e = .returned (.tuple #[.bool true, .nilIface]) ∧
      ∃ L', StockSt w' g b ga gt now L' A (upd T tx (T tx - d)) ∧ Fr (fun k => k = b ∨ k = gt) w w' := by
  subst hw1
  obtain ⟨b1, b2, b3, b4⟩ := h.bnd
  have hf : Fr (fun k => k = b ∨ k = gt) w (w.setCell ⟨gt, tx.toNat, none⟩ (.int .i64 (T tx - d))).drew := ((Fr.refl _ w).setCell (.inl (.inr rfl)) _).drew
  have hf' : Fr (fun k => k = gt) w (w.setCell ⟨gt, tx.toNat, none⟩ (.int .i64 (T tx - d))).drew := ((Fr.refl (fun k => k = gt) w).setCell (.inl rfl) _).drew
  have hS1 := h.st.fr hf' (by omega) (by omega)
  have hT : (w.setCell ⟨gt, tx.toNat, none⟩ (.int .i64 (T tx - d))).drew.heap[gt]? = some (.cells (arr7 (upd T tx (T tx - d))) 29) := by
    rw [← arr7_set T tx _ (by omega) t2]
    exact heap_setCell_same w gt _ _ _ _ h.rt
  obtain ⟨ga1, ga2, ga3⟩ := h.coh.get t1 t2
  have hk := h.coh.tks
  have hk2 := h.coh.ads
  refine (ask_yes g b now L tx d _ hS1 b1 b2 b3 b4 t1 t2 (by omega) d1 (by omega) (by omega) (by omega)).mono ?_
  rintro e w' ⟨rfl, clock, hS', hG⟩
  rw [ga1, ga2, show A tx + max d 0 = A tx by omega, show T tx + max (-d) 0 = T tx - d by omega] at hS'
  have hfG := Fr.of_grown (S := fun k => k = b) hG (fun k e => by injection e with e; exact e.symm)
  have hn := h.coh.nonneg t1 t2
  have hC := h.coh.put t1 t2 (a := A tx) (t := T tx - d) hn.1 (by omega) (by omega) clock (by obtain ⟨c, _, hok⟩ := hS'.map; exact hok.keys)
  rw [upd_self] at hC
  have e1 : upto (upd T tx (T tx - d)) 6 = upto T 6 - d := by rw [upto_upd _ _ _ _ t1]; simp [t2]; omega
  refine ⟨rfl, _, ⟨hS', ?_, ?_, hC, by rw [e1]; omega, h.hi, ?_⟩, ?_⟩
  · rw [hfG.block ga (by simp; exact heap_lt h.ra) (by omega), hf'.block ga (heap_lt h.ra) (by omega)]; exact h.ra
  · rw [hfG.block gt (by simp; exact heap_lt h.rt) (by omega)]; exact hT
  · exact (h.err.fr hf' (by omega)).fr hfG (by omega)
  · exact hf.trans (hfG.mono fun i e => .inl e)
theorem StockSt.askAdd (h : StockSt w g b ga gt now L A T) (n0 : 0 < b) (n1 : b < g) (n2 : g < ga) (n3 : ga < gt) {tx d : Int} (t1 : 1 ≤ tx) (t2 : tx ≤ 6) (d0 : 0 < d) (d1 : d ≤ 1000000) (hy : now + upto A 6 + d ≤ 1000000) {w1 : World} (hw1 : w1 = (w.setCell ⟨ga, tx.toNat, none⟩ (.int .i64 (A tx + d))).drew) :
    Calls Tryd.prog 15 #[.pointer (some ⟨g, 0, none⟩), .int .i64 tx, .int .i64 d] w1 fun e w' => e = .returned (.tuple #[.bool true, .nilIface]) ∧
      ∃ L', StockSt w' g b ga gt now L' (upd A tx (A tx + d)) T ∧ Fr (fun k => k = b ∨ k = ga) w w' := by
  subst hw1
  obtain ⟨b1, b2, b3, b4⟩ := h.bnd
  have hf : Fr (fun k => k = b ∨ k = ga) w (w.setCell ⟨ga, tx.toNat, none⟩ (.int .i64 (A tx + d))).drew := ((Fr.refl _ w).setCell (.inl (.inr rfl)) _).drew
  have hf' : Fr (fun k => k = ga) w (w.setCell ⟨ga, tx.toNat, none⟩ (.int .i64 (A tx + d))).drew := ((Fr.refl (fun k => k = ga) w).setCell (.inl rfl) _).drew
  have hS1 := h.st.fr hf' (by omega) (by omega)
  have hT : (w.setCell ⟨ga, tx.toNat, none⟩ (.int .i64 (A tx + d))).drew.heap[ga]? = some (.cells (arr7 (upd A tx (A tx + d))) 29) := by
    rw [← arr7_set A tx _ (by omega) t2]
    exact heap_setCell_same w ga _ _ _ _ h.ra
  obtain ⟨ga1, ga2, ga3⟩ := h.coh.get t1 t2
  have hk := h.coh.tks
  have hk2 := h.coh.ads
  refine (ask_yes g b now L tx d _ hS1 b1 b2 b3 b4 t1 t2 (by omega) (by omega) d1 (by omega) (by omega)).mono ?_
  rintro e w' ⟨rfl, clock, hS', hG⟩
  rw [ga1, ga2, show A tx + max d 0 = A tx + d by omega, show T tx + max (-d) 0 = T tx by omega] at hS'
  have hfG := Fr.of_grown (S := fun k => k = b) hG (fun k e => by injection e with e; exact e.symm)
  have hn := h.coh.nonneg t1 t2
  have hC := h.coh.put t1 t2 (a := A tx + d) (t := T tx) (by omega) hn.2 (by omega) clock (by obtain ⟨c, _, hok⟩ := hS'.map; exact hok.keys)
  rw [upd_self] at hC
  have e1 : upto (upd A tx (A tx + d)) 6 = upto A 6 + d := by rw [upto_upd _ _ _ _ t1]; simp [t2]; omega
  refine ⟨rfl, _, ⟨hS', ?_, ?_, hC, h.lo, by rw [e1]; omega, ?_⟩, ?_⟩
  · rw [hfG.block ga (by simp; exact heap_lt h.ra) (by omega)]; exact hT
  · rw [hfG.block gt (by simp; exact heap_lt h.rt) (by omega), hf'.block gt (heap_lt h.rt) (by omega)]; exact h.rt
  · exact (h.err.fr hf' (by omega)).fr hfG (by omega)
  · exact hf.trans (hfG.mono fun i e => .inl e)
theorem StockSt.endNone (h : StockSt w g b ga gt now L A T) {tx : Int} (t1 : 1 ≤ tx) (t2 : tx ≤ 6) (hA : A tx = 0) (hT : T tx = 0) (c : Bool) :
    Calls Tryd.prog 16 #[.pointer (some ⟨g, 0, none⟩), .int .i64 tx, .bool c] w fun e w' => e = .returned (.tuple #[.int .i64 0, .iface 110 (.int .i64 5)]) ∧ Below w.heap.size w w' := by
  obtain ⟨ga1, ga2, ga3⟩ := h.coh.get t1 t2
  exact end_none g b now L tx c w h.st t1 t2 (by
    cases hm : mget L tx with
    | none => rfl
    | some v => rw [hm] at ga3; exact absurd ⟨hA, hT⟩ (ga3.1 rfl))
theorem StockSt.endSome (h : StockSt w g b ga gt now L A T) (n0 : 0 < b) (n1 : b < g) (n2 : g < ga) (n3 : ga < gt) {tx : Int} (t1 : 1 ≤ tx) (t2 : tx ≤ 6) (hne : ¬ (A tx = 0 ∧ T tx = 0)) (c : Bool) {w1 : World} (hw1 : w1.heap = ((w.setCell ⟨ga, tx.toNat, none⟩ (.int .i64 0)).setCell ⟨gt, tx.toNat, none⟩ (.int .i64 0)).heap ∧ w1.os = w.os ∧ w1.tape = w.tape ∧ w1.output = w.output) :
    Calls Tryd.prog 16 #[.pointer (some ⟨g, 0, none⟩), .int .i64 tx, .bool c] w1 fun e w' =>
      e = .returned (.tuple #[.int .i64 (if c then now + (A tx - T tx) else now), .nilIface]) ∧
      ∃ L', StockSt w' g b ga gt (if c then now + (A tx - T tx) else now) L' (upd A tx 0) (upd T tx 0) ∧ Fr (fun k => k = b ∨ k = g ∨ k = ga ∨ k = gt) w w' := by
  obtain ⟨b1, b2, b3, b4⟩ := h.bnd
  have hfs : Fr (fun k => k = ga ∨ k = gt) w ((w.setCell ⟨ga, tx.toNat, none⟩ (.int .i64 0)).setCell ⟨gt, tx.toNat, none⟩ (.int .i64 0)) := ((Fr.refl _ w).setCell (.inl (.inl rfl)) _).setCell (.inl (.inr rfl)) _
  have hf' : Fr (fun k => k = ga ∨ k = gt) w w1 := ⟨hw1.2.1, hw1.2.2.1, hw1.2.2.2, by rw [hw1.1]; exact hfs.size, fun k hk hs => by rw [hw1.1]; exact hfs.block k hk hs⟩
  have hS1 := h.st.fr hf' (by omega) (by omega)
  have hA1 : w1.heap[ga]? = some (.cells (arr7 (upd A tx 0)) 29) := by
    rw [hw1.1, ← arr7_set A tx _ (by omega) t2, heap_setCell_other _ _ _ _ (by simp; omega)]
    exact heap_setCell_same w ga _ _ _ _ h.ra
  have hT1 : w1.heap[gt]? = some (.cells (arr7 (upd T tx 0)) 29) := by
    rw [hw1.1, ← arr7_set T tx _ (by omega) t2]
    exact heap_setCell_same _ gt _ _ _ _ ((heap_setCell_other _ _ _ _ (by simp; omega)).trans h.rt)
  obtain ⟨ga1, ga2, ga3⟩ := h.coh.get t1 t2
  have hn := h.coh.nonneg t1 t2
  refine (end_some g b now L tx c w1 hS1 t1 t2 (ga3.2 hne) b1 b2 b3 b4).mono ?_
  rintro e w' ⟨rfl, hS', hG⟩
  rw [ga1, ga2] at hS' ⊢
  have hC := h.coh.del (d := tx) h.st.map.choose h.st.map.choose_spec.2
  have e1 : upto (upd A tx 0) 6 = upto A 6 - A tx := by rw [upto_upd _ _ _ _ t1]; simp [t2]; omega
  have e2 : upto (upd T tx 0) 6 = upto T 6 - T tx := by rw [upto_upd _ _ _ _ t1]; simp [t2]; omega
  have k1 := h.lo
  have k2 := h.hi
  have k3 := (hC.upto_nonneg 6 (by omega)).1
  have k4 := (hC.upto_nonneg 6 (by omega)).2
  refine ⟨rfl, _, ⟨hS', ?_, ?_, hC, ?_, ?_, ?_⟩, ?_⟩
  · rw [hG.block ga (heap_lt hA1) (by omega)]; exact hA1
  · rw [hG.block gt (heap_lt hT1) (by omega)]; exact hT1
  · rw [e2] at k4 ⊢; rw [e1] at k3; split <;> omega
  · rw [e1] at k3 ⊢; rw [e2] at k4; split <;> omega
  · exact (h.err.fr hf' (by omega)).fr hG (by omega)
  · exact (hf'.mono fun i e => by rcases e with e | e <;> simp [e]).trans (hG.mono fun i e => by rcases e with e | e <;> simp [e])
theorem Coh.le (h : Coh L A T) {d : Int} (h1 : 1 ≤ d) (h2 : d ≤ 6) : A d ≤ upto A 6 ∧ T d ≤ upto T 6 := by
  obtain ⟨_, _, _, a1, a2⟩ := askedOf_form h.asked d
  obtain ⟨e1, e2, _⟩ := h.get h1 h2
  rw [e1, h.ads] at a1
  rw [e2, h.tks] at a2
  exact ⟨a1, a2⟩
theorem StockSt.endCommit (h : StockSt w g b ga gt now L A T) (n0 : 0 < b) (n1 : b < g) (n2 : g < ga) (n3 : ga < gt) {tx : Int} (t1 : 1 ≤ tx) (t2 : tx ≤ 6) (hne : ¬ (A tx = 0 ∧ T tx = 0)) {w1 : World} (hw1 : w1.heap = ((w.setCell ⟨ga, tx.toNat, none⟩ (.int .i64 0)).setCell ⟨gt, tx.toNat, none⟩ (.int .i64 0)).heap ∧ w1.os = w.os ∧ w1.tape = w.tape ∧ w1.output = w.output) :
    Calls Tryd.prog 16 #[.pointer (some ⟨g, 0, none⟩), .int .i64 tx, .bool true] w1 fun e w' =>
      e = .returned (.tuple #[.int .i64 (now + A tx - T tx), .nilIface]) ∧
      ∃ L', StockSt w' g b ga gt (now + A tx - T tx) L' (upd A tx 0) (upd T tx 0) ∧ Fr (fun k => k = b ∨ k = g ∨ k = ga ∨ k = gt) w w' := by
  have := h.endSome n0 n1 n2 n3 t1 t2 hne true hw1
  rw [if_pos rfl, ← Int.add_sub_assoc] at this
  exact this
theorem StockSt.endAbort (h : StockSt w g b ga gt now L A T) (n0 : 0 < b) (n1 : b < g) (n2 : g < ga) (n3 : ga < gt) {tx : Int} (t1 : 1 ≤ tx) (t2 : tx ≤ 6) (hne : ¬ (A tx = 0 ∧ T tx = 0)) {w1 : World} (hw1 : w1.heap = ((w.setCell ⟨ga, tx.toNat, none⟩ (.int .i64 0)).setCell ⟨gt, tx.toNat, none⟩ (.int .i64 0)).heap ∧ w1.os = w.os ∧ w1.tape = w.tape ∧ w1.output = w.output) :
    Calls Tryd.prog 16 #[.pointer (some ⟨g, 0, none⟩), .int .i64 tx, .bool false] w1 fun e w' =>
      e = .returned (.tuple #[.int .i64 now, .nilIface]) ∧
      ∃ L', StockSt w' g b ga gt now L' (upd A tx 0) (upd T tx 0) ∧ Fr (fun k => k = b ∨ k = g ∨ k = ga ∨ k = gt) w w' := by
  have := h.endSome n0 n1 n2 n3 t1 t2 hne false hw1
  rw [if_neg (by simp)] at this
  exact this
theorem StockSt.ltg (h : StockSt w g b ga gt now L A T) : g < w.heap.size ∧ b < w.heap.size ∧ ga < w.heap.size ∧ gt < w.heap.size ∧ 0 < w.heap.size := ⟨heap_lt h.st.row, h.blt, heap_lt h.ra, heap_lt h.rt, h.err.lt⟩
theorem StockSt.range (h : StockSt w g b ga gt now L A T) :
    Calls Tryd.prog 17 #[.pointer (some ⟨g, 0, none⟩)] w fun e w' => e = .returned (.tuple #[.int .i64 (now - upto T 6), .int .i64 (now + upto A 6)]) ∧ Below w.heap.size w w' := by
  obtain ⟨b1, b2, b3, b4⟩ := h.bnd
  have := range_any g b now L w h.st.c0 h.st.c1 h.st.map h.st.asked (by omega) (by omega) (by omega) (by omega)
  rwa [h.coh.tks, h.coh.ads] at this
end
end Go.Proofs.YtbnobgoenoppkaaDoor
