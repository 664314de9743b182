/- The package stock: what each of its calls comes to. -/
import Derived.Test.YtbnobgoenoppkaaDoorRange
import Derived.Test.YtbnobgoenoppkaaDoorProg
import Derived.WalkLawsBesides
import Derived.Deep.QuietTactic
import Derived.Deep.LoopGhost
import Derived.BigQuiet
import Derived.StillTailTactics
namespace Go.Proofs.YtbnobgoenoppkaaDoor
open Go.RowKit
set_option linter.unusedSimpArgs false
set_option linter.unusedVariables false

theorem tx_true (n : Int) (w : World) (h : 1 ≤ n) (h' : n ≤ 6) :
    Calls Tryd.prog 61 #[.int .i64 n] w fun e w' => e = .returned (.bool true) ∧ w = w' := by
  go_enter Tryd.func61, Tryd.ntmps61
  go_wp2
  go_ret
  exact ⟨rfl, rfl⟩
theorem tx_false (n : Int) (w : World) (h : n < 1 ∨ 6 < n) :
    Calls Tryd.prog 61 #[.int .i64 n] w fun e w' => e = .returned (.bool false) ∧ w = w' := by
  rcases h with h | h
  · go_enter Tryd.func61, Tryd.ntmps61
    go_wp2
    go_ret
    exact ⟨rfl, rfl⟩
  · have h' : 1 ≤ n := by omega
    have h2 : decide (n ≤ 6) = false := by simp; omega
    go_enter Tryd.func61, Tryd.ntmps61
    go_wp2
    go_ret
    exact ⟨rfl, rfl⟩
theorem new_bad (n : Int) (w : World) (h : n < 0 ∨ 1000000 < n) :
    Calls Tryd.prog 12 #[.int .i64 n] w fun e w' => e = .returned (.tuple #[.pointer none, .iface 110 (.int .i64 1)]) ∧ w = w' := by
  rcases h with h | h
  · go_enter Tryd.func12, Tryd.ntmps12
    go_wp2
    go_ret2
    exact ⟨rfl, rfl⟩
  · have h' : ¬ n < 0 := by omega
    go_enter Tryd.func12, Tryd.ntmps12
    go_wp2
    go_ret2
    exact ⟨rfl, rfl⟩
theorem new_ok (n : Int) (w : World) (h : 0 ≤ n) (h' : n ≤ 1000000) :
    Calls Tryd.prog 12 #[.int .i64 n] w fun e w' => e = .returned (.tuple #[.pointer (some ⟨w.heap.size + 1, 0, none⟩), .nilIface]) ∧ (w.alloc (.map #[] 0)).alloc (.cells #[.int .i64 n, .map (some w.heap.size)] 113) = w' := by
  have hmm := @run_makeMap Tryd.prog
  have h0 : ¬ n < 0 := by omega
  have h1 : ¬ 1000000 < n := by omega
  go_enter Tryd.func12, Tryd.ntmps12
  go_wp2
  go_ret2
  exact ⟨rfl, rfl⟩
theorem now_any (g : Nat) (n : Int) (w : World) (hc : w.cell? ⟨g, 0, none⟩ = some (.int .i64 n)) :
    Calls Tryd.prog 18 #[.pointer (some ⟨g, 0, none⟩)] w fun e w' => e = .returned (.int .i64 n) ∧ w = w' := by
  go_enter Tryd.func18, Tryd.ntmps18
  go_wp2
  go_ret
  exact ⟨rfl, rfl⟩

/-! ### What a map of asked reads as -/
def intV : Value → Int
  | .int _ n => n
  | _ => 0
def addV : Value → Int
  | .agg cs => intV (cs.getD 0 undef)
  | _ => 0
def takeV : Value → Int
  | .agg cs => intV (cs.getD 1 undef)
  | _ => 0
def ads (L : List MEnt) : Int := (L.map fun e => addV e.v).sum
def tks (L : List MEnt) : Int := (L.map fun e => takeV e.v).sum
def Askeds (L : List MEnt) : Prop := ∀ e ∈ L, e.v = .agg #[.int .i64 (addV e.v), .int .i64 (takeV e.v)] ∧ 0 ≤ addV e.v ∧ 0 ≤ takeV e.v

theorem sum_split (f : MEnt → Int) (e : MEnt) : ∀ (L : List MEnt), (L.map MEnt.born).Nodup → e ∈ L → (L.map f).sum = f e + ((L.filter fun x => x.born != e.born).map f).sum
  | x :: L, hn, he => by
    have hn' : x.born ∉ L.map MEnt.born ∧ (L.map MEnt.born).Nodup := List.nodup_cons.1 hn
    by_cases hx : x.born = e.born
    · have hxe : x = e := by
        rcases List.mem_cons.1 he with h | h
        · exact h.symm
        · exact absurd (by rw [hx]; exact List.mem_map_of_mem h) hn'.1
      subst hxe
      have hf : L.filter (fun y => y.born != x.born) = L := by
        rw [List.filter_eq_self]
        intro y hy
        simp only [bne_iff_ne, ne_eq]
        intro h
        exact hn'.1 (by rw [← h]; exact List.mem_map_of_mem hy)
      simp [List.filter_cons, hf]
    · have he' : e ∈ L := by
        rcases List.mem_cons.1 he with h | h
        · exact absurd (by rw [h]) hx
        · exact h
      have ih := sum_split f e L hn'.2 he'
      have hb : (x.born != e.born) = true := by simpa using hx
      simp only [List.filter_cons, hb, if_true, List.map_cons, List.sum_cons, ih]
      omega
theorem filter_born_lt (e : MEnt) : ∀ (L : List MEnt), e ∈ L → (L.filter fun x => x.born != e.born).length < L.length
  | x :: L, he => by
    have hle : (L.filter fun x => x.born != e.born).length ≤ L.length := List.length_filter_le _ _
    rw [List.filter_cons]
    split
    · rename_i hb
      have he' : e ∈ L := by
        rcases List.mem_cons.1 he with h | h
        · rw [h] at hb; simp at hb
        · exact h
      have ih := filter_born_lt e L he'
      simp only [List.length_cons]
      omega
    · simp only [List.length_cons]
      omega
theorem sum_nonneg (f : MEnt → Int) : ∀ (L : List MEnt), (∀ e ∈ L, 0 ≤ f e) → 0 ≤ (L.map f).sum
  | [], _ => by simp
  | x :: L, h => by
    have h1 := h x (List.mem_cons.2 (.inl rfl))
    have h2 := sum_nonneg f L fun e he => h e (List.mem_cons.2 (.inr he))
    simp
    omega

theorem sum_filter_le (f : MEnt → Int) (p : MEnt → Bool) : ∀ (L : List MEnt), (∀ e ∈ L, 0 ≤ f e) → ((L.filter p).map f).sum ≤ (L.map f).sum
  | [], _ => by simp
  | x :: L, h => by
    have h1 := h x (List.mem_cons.2 (.inl rfl))
    have h2 := sum_filter_le f p L fun e he => h e (List.mem_cons.2 (.inr he))
    rw [List.filter_cons]
    split <;> simp <;> omega
theorem Ranging.rest_le {w : World} {r b : Nat} {L rest : List MEnt} (h : Ranging w r b L rest) (f : MEnt → Int) (hf : ∀ e ∈ L, 0 ≤ f e) : (rest.map f).sum ≤ (L.map f).sum := by
  obtain ⟨seen, clock, _, _, hok, rfl⟩ := h
  exact sum_filter_le f _ L hf
theorem Ranging.rest_ok {w : World} {r b : Nat} {L rest : List MEnt} (h : Ranging w r b L rest) : (rest.map MEnt.born).Nodup ∧ ∀ e ∈ rest, e ∈ L := by
  obtain ⟨seen, clock, _, _, hok, rfl⟩ := h
  exact ⟨((List.filter_sublist).map MEnt.born).nodup hok.born, fun e he => (List.mem_filter.1 he).1⟩

set_option maxHeartbeats 1000000 in
theorem range_any (g b : Nat) (now : Int) (L : List MEnt) (w : World) (c0 : w.cell? ⟨g, 0, none⟩ = some (.int .i64 now)) (c1 : w.cell? ⟨g, 1, none⟩ = some (.map (some b)))
    (hm : IsMap w b L) (ha : Askeds L) (h0 : 0 ≤ now) (h1 : now ≤ 1000000) (hA : ads L ≤ 100000000) (hT : tks L ≤ 100000000) :
    Calls Tryd.prog 17 #[.pointer (some ⟨g, 0, none⟩)] w fun e w' => e = .returned (.tuple #[.int .i64 (now - tks L), .int .i64 (now + ads L)]) ∧ Below w.heap.size w w' := by
  go_enter Tryd.func17, Tryd.ntmps17
  go_wp2
  go_quiet (fail)
  obtain ⟨o, hrg, hR⟩ := run_range_map' (P := Tryd.prog) (w := w.drewN nq) (b := b) (L := L) hm Tryd.underlying111
  go_wp2
  go_loopg [4, 5] L.length (fun k s4 s5 wr => ∃ rest : List MEnt, rest.length ≤ k ∧ s4 = .int .i64 (now - (tks L - tks rest)) ∧ s5 = .int .i64 (now + (ads L - ads rest)) ∧ Ranging wr w.heap.size b L rest ∧ Below w.heap.size w wr)
  case atStart =>
    exact ⟨L, Nat.le_refl _, by simp, by simp, hR, (below_drewN (Below.refl _ w) nq).alloc (by simp) _⟩
  case round =>
    obtain ⟨rest, hk, rfl, rfl, hR1, hB⟩ := hrel
    clear hrg hR
    have hr1 := hR1.rest_ok
    have hsz := hB.size
    have H1 := Lib.hid hR1
    rcases run_next_rng (P := Tryd.prog) hR1 with ⟨h00, hnx⟩ | ⟨e, he, w2, hnx, hR2, hgr, hs2, hen⟩
    · clear hR1
      subst h00
      have H2 := Lib.hid hB
      go_wp2
      go_ret2
      refine ⟨?_, H2.out⟩
      simp [tks, ads]
    · have hin := hr1.2 e he
      obtain ⟨hv, hv1, hv2⟩ := ha e hin
      have hT1 := sum_split (fun x => takeV x.v) e rest hr1.1 he
      have hA1 := sum_split (fun x => addV x.v) e rest hr1.1 he
      have hT2 := sum_nonneg (fun x => takeV x.v) (rest.filter fun x => x.born != e.born) (fun x hx => (ha x (hr1.2 x (List.mem_filter.1 hx).1)).2.2)
      have hA2 := sum_nonneg (fun x => addV x.v) (rest.filter fun x => x.born != e.born) (fun x hx => (ha x (hr1.2 x (List.mem_filter.1 hx).1)).2.1)
      have hT3 : tks rest ≤ tks L := hR1.rest_le _ fun x hx => (ha x hx).2.2
      have hA3 : ads rest ≤ ads L := hR1.rest_le _ fun x hx => (ha x hx).2.1
      have hlen := filter_born_lt e rest he
      rw [hv] at hnx hen
      generalize addV e.v = ea at *
      generalize takeV e.v = et at *
      clear hv
      have H2 : Hid (Below w.heap.size w wr ∧ wr.grownBy w2 (some w.heap.size) ∧ w2.heap.size = wr.heap.size) := ⟨hB, hgr, hs2⟩
      have H3 := Lib.hid hR2
      have HT : Hid (tks rest = et + tks (rest.filter fun x => x.born != e.born)) := hT1
      have HA : Hid (ads rest = ea + ads (rest.filter fun x => x.born != e.born)) := hA1
      have hb1 : 0 ≤ tks rest - et := by have := HT.out; simp only [tks] at *; omega
      have hb2 : 0 ≤ ads rest - ea := by have := HA.out; simp only [ads] at *; omega
      clear hR1 hR2 hB hgr hs2 hT1 hA1 hT2 hA2
      generalize tks L = TL at *
      generalize ads L = AL at *
      generalize hTr : tks rest = TR at *
      generalize hAr : ads rest = AR at *
      clear hTr hAr
      go_wp2
      go_roundg (rest.filter fun x => x.born != e.born).length
      case measure => omega
      case rel =>
        refine ⟨_, Nat.le_refl _, ?_, ?_, H3.out.keep ?_ ?_, ?_⟩
        · have := HT.out; congr 1; omega
        · have := HA.out; congr 1; omega
        · rw [Below.heap_alloc _ _ _ (by have := H3.out.lt; omega)]
        · rw [Below.heap_alloc _ _ _ (by have := H3.out.lt; omega)]
        · exact (H2.out.1.grown H2.out.2.1 hsz (fun k hk => by cases hk; exact Nat.le_refl _)).alloc (by have := H2.out.2.2; omega) _

/-! ### What a stock is in memory -/
structure StockIs (w : World) (g b : Nat) (now : Int) (L : List MEnt) : Prop where
  row : w.heap[g]? = some (.cells #[.int .i64 now, .map (some b)] 113)
  map : IsMap w b L
  asked : Askeds L
theorem StockIs.ne {w : World} {g b : Nat} {now : Int} {L : List MEnt} (h : StockIs w g b now L) : g ≠ b := by
  rintro rfl
  obtain ⟨c, h1, _⟩ := h.map
  rw [h.row] at h1
  cases h1
theorem StockIs.c0 {w : World} {g b : Nat} {now : Int} {L : List MEnt} (h : StockIs w g b now L) : w.cell? ⟨g, 0, none⟩ = some (.int .i64 now) := by
  rw [cell_of_row w g 0 _ _ _ h.row]; rfl
theorem StockIs.c1 {w : World} {g b : Nat} {now : Int} {L : List MEnt} (h : StockIs w g b now L) : w.cell? ⟨g, 1, none⟩ = some (.map (some b)) := by
  rw [cell_of_row w g 1 _ _ _ h.row]; rfl
theorem zero_asked : ∀ W : World, (zeroValue 116).run Tryd.prog W = .ok (.agg #[.int .i64 0, .int .i64 0]) W := fun _ => by kernel_rfl

set_option maxHeartbeats 1000000 in
theorem ask_bad (g : Nat) (tx d : Int) (w : World) (h : (tx < 1 ∨ 6 < tx) ∨ d = 0 ∨ d < -1000000 ∨ 1000000 < d) :
    Calls Tryd.prog 15 #[.pointer (some ⟨g, 0, none⟩), .int .i64 tx, .int .i64 d] w fun e w' => e = .returned (.tuple #[.bool false, .iface 110 (.int .i64 1)]) ∧ w = w' := by
  by_cases ht : 1 ≤ tx ∧ tx ≤ 6
  · by_cases hd : d = 0
    · subst hd
      go_enter Tryd.func15, Tryd.ntmps15
      go_wp2_with (go_at_call 61; refine (tx_true _ _ ht.1 ht.2).mono ?_; rintro e w' ⟨rfl, rfl⟩)
      go_ret2
      exact ⟨rfl, rfl⟩
    · have hd0 : (d == 0) = false := by simpa using hd
      by_cases hd1 : d < -1000000
      · go_enter Tryd.func15, Tryd.ntmps15
        go_wp2_with (go_at_call 61; refine (tx_true _ _ ht.1 ht.2).mono ?_; rintro e w' ⟨rfl, rfl⟩)
        go_ret2
        exact ⟨rfl, rfl⟩
      · have hd2 : 1000000 < d := by omega
        go_enter Tryd.func15, Tryd.ntmps15
        go_wp2_with (go_at_call 61; refine (tx_true _ _ ht.1 ht.2).mono ?_; rintro e w' ⟨rfl, rfl⟩)
        go_ret2
        exact ⟨rfl, rfl⟩
  · have hT : tx < 1 ∨ 6 < tx := by omega
    go_enter Tryd.func15, Tryd.ntmps15
    go_wp2_with (go_at_call 61; refine (tx_false _ _ hT).mono ?_; rintro e w' ⟨rfl, rfl⟩)
    go_ret2
    exact ⟨rfl, rfl⟩

set_option maxHeartbeats 1000000 in
theorem ask_no (g b : Nat) (now : Int) (L : List MEnt) (tx d : Int) (w : World) (hS : StockIs w g b now L) (h0 : 0 ≤ tks L) (h1 : tks L ≤ now) (h2 : 0 ≤ ads L) (h3 : now + ads L ≤ 1000000)
    (t1 : 1 ≤ tx) (t2 : tx ≤ 6) (d0 : d ≠ 0) (d1 : -1000000 ≤ d) (d2 : d ≤ 1000000) (hno : now - tks L + d < 0 ∨ 1000000 < now + ads L + d) :
    Calls Tryd.prog 15 #[.pointer (some ⟨g, 0, none⟩), .int .i64 tx, .int .i64 d] w fun e w' => e = .returned (.tuple #[.bool false, .nilIface]) ∧ Below w.heap.size w w' := by
  have hd0 : (d == 0) = false := by simpa using d0
  have hc := range_any g b now L w hS.c0 hS.c1 hS.map hS.asked (by omega) (by omega) (by omega) (by omega)
  have HC := Lib.hid hc
  clear hc hS d0
  generalize tks L = TL at *
  generalize ads L = AL at *
  go_enter Tryd.func15, Tryd.ntmps15
  go_wp2_with (first | (go_at_call 61; refine (tx_true _ _ t1 t2).mono ?_; rintro e w' ⟨rfl, rfl⟩) | (go_at_call 17; refine HC.out.mono ?_; rintro e w' ⟨rfl, hB⟩))
  all_goals (go_ret2; exact ⟨rfl, hB⟩)

theorem StockIs.below {w w' : World} {g b : Nat} {now : Int} {L : List MEnt} (h : StockIs w g b now L) (hB : Below w.heap.size w w') : StockIs w' g b now L := by
  obtain ⟨clock, hb, hok⟩ := h.map
  exact ⟨(hB.block g (Array.getElem?_eq_some_iff.1 h.row).1).trans h.row, ⟨clock, (hB.block b (Array.getElem?_eq_some_iff.1 hb).1).trans hb, hok⟩, h.asked⟩

def askedOf (L : List MEnt) (tx : Int) : Value := (mget L tx).getD (.agg #[.int .i64 0, .int .i64 0])
theorem askedOf_form {L : List MEnt} (h : Askeds L) (tx : Int) : askedOf L tx = .agg #[.int .i64 (addV (askedOf L tx)), .int .i64 (takeV (askedOf L tx))] ∧ 0 ≤ addV (askedOf L tx) ∧ 0 ≤ takeV (askedOf L tx) ∧ addV (askedOf L tx) ≤ ads L ∧ takeV (askedOf L tx) ≤ tks L := by
  unfold askedOf mget
  cases hf : L.find? (fun e => e.k == tx) with
  | none =>
    refine ⟨rfl, by simp [addV, intV], by simp [takeV, intV], ?_, ?_⟩
    · show (0 : Int) ≤ _; exact sum_nonneg (fun e => addV e.v) L fun e he => (h e he).2.1
    · show (0 : Int) ≤ _; exact sum_nonneg (fun e => takeV e.v) L fun e he => (h e he).2.2
  | some e =>
    have he := List.mem_of_find?_eq_some hf
    obtain ⟨h1, h2, h3⟩ := h e he
    refine ⟨by simpa using h1, by simpa using h2, by simpa using h3, ?_, ?_⟩
    · simp only [Option.map_some, Option.getD_some]
      clear hf h1
      induction L with
      | nil => cases he
      | cons x L ih =>
        have hx := h x (List.mem_cons.2 (.inl rfl))
        have hn := sum_nonneg (fun e => addV e.v) L fun e he => (h e (List.mem_cons.2 (.inr he))).2.1
        simp only [ads, List.map_cons, List.sum_cons] at *
        rcases List.mem_cons.1 he with rfl | he'
        · omega
        · have := ih (fun e he => h e (List.mem_cons.2 (.inr he))) he'
          omega
    · simp only [Option.map_some, Option.getD_some]
      clear hf h1
      induction L with
      | nil => cases he
      | cons x L ih =>
        have hx := h x (List.mem_cons.2 (.inl rfl))
        have hn := sum_nonneg (fun e => takeV e.v) L fun e he => (h e (List.mem_cons.2 (.inr he))).2.2
        simp only [tks, List.map_cons, List.sum_cons] at *
        rcases List.mem_cons.1 he with rfl | he'
        · omega
        · have := ih (fun e he => h e (List.mem_cons.2 (.inr he))) he'
          omega

end Go.Proofs.YtbnobgoenoppkaaDoor
