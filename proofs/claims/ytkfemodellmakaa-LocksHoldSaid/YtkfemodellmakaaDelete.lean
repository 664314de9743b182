/- slices.DeleteFunc at []api.Lock, of a slice that the call owns. -/
import Derived.Test.YtkfemodellmakaaHold
import Derived.Test.YtkfemodellmakaaOwn2
import Derived.Laws.CopyRow
namespace Go.Proofs.Ytkfemodellmakaa
open Go.RowKit
set_option linter.unusedSimpArgs false
set_option linter.unusedVariables false

theorem flatO_take : ∀ (L : List OpV) (i : Nat), (flatO L).take (i * 3) = flatO (L.take i)
  | [], i => by simp [flatO]
  | x :: r, 0 => by simp [flatO]
  | x :: r, i + 1 => by
    have ih := flatO_take r i
    simp only [flatO, List.flatMap_cons, List.take_succ_cons] at ih ⊢
    rw [show (i + 1) * 3 = (encO x).length + i * 3 by simp [encO]; omega, List.take_length_add_append, ih]
theorem zeroLock (w : World) : (zeroValue 29).run Try.prog w = .ok (.agg #[.int .i64 0, .int .i64 0, .int .i64 0]) w := by
  obtain ⟨i0, hi, hz0, hz1, hz2⟩ := info_parts inf1Lock
  simp [zeroValue, typeInfo, hi, hz0]
theorem run_clear_own (w : World) (ty : TypeId) (B g n cap i : Nat) (xs : List Value) (ho : w.ownsRow B 29 3 (.slice (some ⟨g, 0, none⟩) n cap) n xs) (hi : i < n) (c : Nat) :
    ∃ w', (Builtin.clear_ #[34] ty #[.slice (some ⟨g, i * 3, none⟩) (n - i) c]).run Try.prog w = .ok (.tuple #[]) w' ∧ w'.ownsRow B 29 3 (.slice (some ⟨g, 0, none⟩) i cap) i (xs.take (i * 3)) ∧ Fr (fun k => k = g) w w' := by
  rcases ho.2 with ⟨h, _⟩ | ⟨g', cap', cur, h, hb, hg, hnc, hcm, hcs, ht⟩
  · cases h
  injection h with h1 _ h3
  injection h1 with h1
  injection h1 with h1
  subst h1 h3
  have hzl : (Builtin.zeroCells (Value.agg #[.int .i64 0, .int .i64 0, .int .i64 0]).cells (n - i)).toList.length = (n - i) * 3 := by
    have := size_zeroCells (Value.agg #[.int .i64 0, .int .i64 0, .int .i64 0]).cells (n - i)
    simpa [Value.cells] using this
  have h1z : ∀ v ∈ (Builtin.zeroCells (Value.agg #[.int .i64 0, .int .i64 0, .int .i64 0]).cells (n - i)).toList, v.oneCell' = true := by
    intro v hv
    simp [Builtin.zeroCells, Value.cells] at hv
    obtain ⟨k, _, hk⟩ := hv
    have : k % 3 < 3 := Nat.mod_lt _ (by decide)
    have : k % 3 = 0 ∨ k % 3 = 1 ∨ k % 3 = 2 := by omega
    rcases this with h | h | h <;> (simp [h] at hk; subst hk; rfl)
  obtain ⟨zs, hzs⟩ : ∃ zs, zs = (Builtin.zeroCells (Value.agg #[.int .i64 0, .int .i64 0, .int .i64 0]).cells (n - i)).toList := ⟨_, rfl⟩
  rw [← hzs] at hzl h1z
  have hcap : n * 3 ≤ cap * 3 := Nat.mul_le_mul_right 3 hnc
  have hst := run_storeCells_at Try.prog g (i * 3) _ zs 0 cur w hg (by rw [hzl]; omega) h1z
  simp only [Nat.add_zero] at hst
  refine ⟨w.setRow g (cur.toList.take (i * 3) ++ zs ++ cur.toList.drop (i * 3 + zs.length)).toArray, ?_, ⟨?_, .inr ⟨g, cap, _, rfl, hb, setRow_heap w g cur _ _ _ hg, by omega, hcm, ?_, ?_⟩⟩, ?_⟩
  · obtain ⟨m, hm⟩ : ∃ m, n - i = m + 1 := ⟨n - i - 1, by omega⟩
    rw [hm] at hzs ⊢
    simp [Builtin.clear_, run_underlying Try.underlying34, zeroLock, ← hzs, hst]
  · rw [List.length_take, ho.1]; omega
  · simp only [List.size_toArray, List.length_append, List.length_take, List.length_drop, Array.length_toList]
    omega
  · rw [← ht, List.take_take, Nat.min_eq_left (by omega), List.append_assoc, List.take_append_of_le_length (by rw [List.length_take, Array.length_toList]; omega), List.take_take, Nat.min_self]
  · refine ⟨rfl, rfl, rfl, by simp [World.setRow], fun k hk hS => setRow_other w g k _ hS⟩
theorem wpList_clear {ops : Array Oper} {rest : List Oper} {o : Oper} {a : Act} {Q : Exit → Act → World → Prop} (w : World) (hgd : o.guard = none) (s : Operand)
    (ho : o.op = .call { callee := .builtin .clear, args := #[s], argTypes := #[34] }) (B g n cap i : Nat) (xs : List Value) (c : Nat) (hs : a.eval s = .slice (some ⟨g, i * 3, none⟩) (n - i) c)
    (hown : w.ownsRow B 29 3 (.slice (some ⟨g, 0, none⟩) n cap) n xs) (hi : i < n)
    (hk : ∀ w', w'.ownsRow B 29 3 (.slice (some ⟨g, 0, none⟩) i cap) i (xs.take (i * 3)) → Fr (fun k => k = g) w w' → wpList Try.prog ops Q rest (a.put o.dst (.tuple #[])) w') : wpList Try.prog ops Q (o :: rest) a w := by
  refine wpList_plain hgd fun _ hK => ?_
  obtain ⟨w', hrun, h2, h3⟩ := run_clear_own w o.type B g n cap i xs hown hi c
  unfold Oper.wp execOp
  simp only [ho, resolve, invoke, builtin, Sem.run_bind, Sem.run_pure, Result.andThen_ok, List.map_toArray, List.map_cons, List.map_nil, hs, hrun]
  exact hK _ _ (hk w' h2 h3)

/-- A function value that tells p of a triple, wherever C holds; C outlives what a call makes, and stores into block g. -/
structure PredC (F : FuncId) (cap : Array Value) (p : OpV → Bool) (C : World → Prop) (g : Nat) : Prop where
  ent : ∀ args w, (callFunc F args).run Try.prog w = .ok (.enter F args) w
  tells : ∀ (x : OpV) (w1 : World), C w1 → Calls Try.prog F (#[x.agg] ++ cap) w1 fun e w2 => e = .returned (.bool (p x)) ∧ Below w1.heap.size w1 w2
  below : ∀ w1 w2, C w1 → Below w1.heap.size w1 w2 → C w2
  store : ∀ w1 o u, C w1 → C (w1.setCell ⟨g, o, none⟩ u)
theorem filter_no (l : List OpV) (p : OpV → Bool) (j : Nat) (hj : j < l.length) (hp : p l[j] = true) : (l.take (j + 1)).filter (fun x => !p x) = (l.take j).filter (fun x => !p x) := by
  rw [List.take_succ_eq_append_getElem hj, List.filter_append]
  simp [hp]
theorem filter_yes (l : List OpV) (p : OpV → Bool) (j : Nat) (hj : j < l.length) (hp : p l[j] = false) : (l.take (j + 1)).filter (fun x => !p x) = (l.take j).filter (fun x => !p x) ++ [l[j]] := by
  rw [List.take_succ_eq_append_getElem hj, List.filter_append]
  simp [hp]
theorem filter_first (l : List OpV) (p : OpV → Bool) (i : Nat) (h : l.findIdx? p = some i) : (l.take (i + 1)).filter (fun x => !p x) = l.take i := by
  obtain ⟨hi, hp, hn⟩ := List.findIdx?_eq_some_iff_getElem.1 h
  rw [filter_no l p i hi hp, List.filter_eq_self]
  intro x hx
  obtain ⟨j, hj, rfl⟩ := List.mem_take_iff_getElem.1 hx
  have := hn j (by omega)
  simpa using this

set_option maxRecDepth 100000 in
set_option maxHeartbeats 4000000 in
theorem delete_own (F : FuncId) (cp : Array Value) (p : OpV → Bool) (C : World → Prop) (v : Value) (B n : Nat) (l : List OpV) (w : World) (ho : w.ownsRow B 29 3 v n (flatO l)) (hn : n ≤ 1000000) (hC : C w)
    (hF : ∀ g, v.ownBlock = some g → PredC F cp p C g) (hF0 : Pred F cp p w) :
    Calls Try.prog 23 #[v, .func (.func F) #[] cp] w fun e w' => ∃ v', e = .returned v' ∧ v'.ownBlock = v.ownBlock ∧ w'.ownsRow B 29 3 v' (l.filter fun x => !p x).length (flatO (l.filter fun x => !p x)) ∧ Fr (fun k => v.ownBlock = some k) w w' := by
  have hl : l.length = n := by have := ho.1; rw [flatO_length] at this; omega
  subst hl
  obtain ⟨A, c, rfl, hA, hA'⟩ := own_slice ho
  have HI := Lib.hid (indexFunc_Lock F cp p l A c w (of_own3 ho) (by omega) hF0)
  cases hf : l.findIdx? p with
  | none =>
    have hi : idxV p l = -1 := by simp [idxV, hf]
    have hfl : (l.filter fun x => !p x) = l := by
      rw [List.filter_eq_self]
      intro x hx
      have := List.findIdx?_eq_none_iff.1 hf x hx
      simp [this]
    rw [hi] at HI
    have HO := Lib.hid ho
    have HFL := Lib.hid hfl
    clear ho hf hi hfl hA hA' hF hF0 hC
    go_enter Try.func23, Try.ntmps23
    go_wp2_with (go_at_call 26; refine HI.out.mono ?_; rintro e w2 ⟨rfl, hB2⟩; have HB2 := Lib.hid hB2; clear hB2)
    go_ret
    rw [HFL.out]
    exact ⟨_, rfl, rfl, own_below HO.out HB2.out, Fr.of_new HB2.out⟩
  | some i0 =>
    have hi : idxV p l = i0 := by simp [idxV, hf]
    obtain ⟨hi0, _, _⟩ := List.findIdx?_eq_some_iff_getElem.1 hf
    have hff := filter_first l p i0 hf
    obtain ⟨g, cap, hv, hb1, hglt⟩ := ho.form (by omega)
    cases hv
    have hP := hF g rfl
    obtain ⟨hcap, _, hcap2⟩ := own_caps ho
    have hent := hP.ent
    have HT := Lib.hid hP.tells
    have HPB := Lib.hid hP.below
    have HPS := Lib.hid hP.store
    rw [hi] at HI
    have HO := Lib.hid ho
    have HC := Lib.hid hC
    have HFF := Lib.hid hff
    clear ho hf hi hff hA hA' hF hF0 hP hC
    go_enter Try.func23, Try.ntmps23
    go_wp2_with (go_at_call 26; refine HI.out.mono ?_; rintro e w2 ⟨rfl, hB2⟩; have HB2 := Lib.hid hB2; clear hB2)
    go_loopg [5, 6] (l.length - (i0 + 1)) (fun k s5 s6 wx => ∃ (i j : Nat) (L' : List OpV), j + k = l.length ∧ s5 = .int .i64 i ∧ s6 = .int .i64 j ∧ i < j ∧ wx.ownsRow B 29 3 (.slice (some ⟨g, 0, none⟩) l.length c) l.length (flatO L') ∧ L'.length = l.length ∧ L'.take i = (l.take j).filter (fun x => !p x) ∧ L'.drop j = l.drop j ∧ C wx ∧ Fr (fun k => k = g) w wx)
    case atStart => exact ⟨i0, i0 + 1, l, by omega, rfl, by go_num, by omega, own_below HO.out HB2.out, rfl, HFF.out.symm, rfl, HPB.out _ _ HC.out HB2.out, Fr.of_new HB2.out⟩
    case round =>
      obtain ⟨i, j, L', hk, rfl, rfl, hij, ho, hL', ht, hd, hCx, hFx⟩ := hrel
      have HOx := Lib.hid ho
      have HTk := Lib.hid ht
      have HDr := Lib.hid hd
      have HCx := Lib.hid hCx
      have HFx := Lib.hid hFx
      have HL' := Lib.hid hL'
      by_cases hj : j < l.length
      · have hxe : L'[j]'(by omega) = l[j] := by
          have h1 : (L'.drop j)[0]? = (l.drop j)[0]? := by rw [hd]
          rw [List.getElem?_drop, List.getElem?_drop, List.getElem?_eq_getElem (by omega), List.getElem?_eq_getElem (by omega)] at h1
          simpa using h1
        obtain ⟨b, off, e, _, hglt2, hcell⟩ := Rd.at_ (of_own3 ho) (i := j) (by omega)
        cases e
        rw [hxe] at hcell
        have q0 := hcell 0 _ rfl
        have q1 := hcell 1 _ rfl
        have q2 := hcell 2 _ rfl
        obtain ⟨b', off', e', _, _, hcelli⟩ := Rd.at_ (of_own3 ho) (i := i) (by omega)
        cases e'
        simp only [Nat.zero_add, Nat.add_zero] at q0 q1 q2
        obtain ⟨y0, p0⟩ : ∃ y, wr.cell? ⟨g, i * 3, none⟩ = some y := ⟨_, by simpa using hcelli 0 _ rfl⟩
        obtain ⟨y1, p1⟩ : ∃ y, wr.cell? ⟨g, i * 3 + 1, none⟩ = some y := ⟨_, by simpa using hcelli 1 _ rfl⟩
        obtain ⟨y2, p2⟩ : ∃ y, wr.cell? ⟨g, i * 3 + 2, none⟩ = some y := ⟨_, by simpa using hcelli 2 _ rfl⟩
        have f0 := ho.frozenAt (i * 3)
        have f1 := ho.frozenAt (i * 3 + 1)
        have f2 := ho.frozenAt (i * 3 + 2)
        have hno := filter_no l p j hj
        have hye := filter_yes l p j hj
        have hdr : L'.drop (j + 1) = l.drop (j + 1) := by rw [← List.drop_drop, ← List.drop_drop, hd]
        have i1 : (0 : Int) ≤ (i : Int) := by omega
        have i2 : (i : Int) < (l.length : Int) := by omega
        generalize l[j] = x at *
        have HNO := Lib.hid hno
        have HYE := Lib.hid hye
        have HDR := Lib.hid hdr
        clear ho ht hd hCx hFx hcell hcelli hxe hno hye hdr hL'
        cases hp : p x with
        | true =>
          have HN := Lib.hid (HNO.out hp)
          have HTx := Lib.hid (HT.out x)
          rw [hp] at HTx
          clear hp
          go_wp2_with (refine (HTx.out _ (HPB.out _ _ HCx.out ((Below.refl _ wr).alloc (Nat.le_refl _) _))).mono ?_; rintro e w3 ⟨rfl, hB3⟩; have HB3 := Lib.hid hB3; clear hB3)
          go_roundg (gk - 1)
          case measure => omega
          case rel => exact ⟨i, j + 1, L', by omega, rfl, by go_num, by omega, own_below HOx.out (((Below.refl _ wr).alloc (Nat.le_refl _) _).trans (HB3.out.mono (by simp))), HL'.out, by rw [HN.out]; exact HTk.out, HDR.out, HPB.out _ _ (HPB.out _ _ HCx.out ((Below.refl _ wr).alloc (Nat.le_refl _) _)) HB3.out, HFx.out.new (((Below.refl _ wr).alloc (Nat.le_refl _) _).trans (HB3.out.mono (by simp)))⟩
        | false =>
          have HN := Lib.hid (HYE.out hp)
          have HTx := Lib.hid (HT.out x)
          rw [hp] at HTx
          clear hp
          go_wp2_with (refine (HTx.out _ (HPB.out _ _ HCx.out ((Below.refl _ wr).alloc (Nat.le_refl _) _))).mono ?_; rintro e w3 ⟨rfl, hB3⟩; obtain ⟨hc3, hf3⟩ := bcell hB3; have HB3 := Lib.hid hB3; clear hB3)
          have hBx := ((Below.refl _ wr).alloc (Nat.le_refl _) (.cells #[.int .i64 x.tx, .int .i64 x.what, .int .i64 x.item] 29)).trans (HB3.out.mono (by simp))
          have hox := (((own_below HOx.out hBx).stored (i * 3) (.int .i64 x.tx)).1.stored (i * 3 + 1) (.int .i64 x.what)).1.stored (i * 3 + 2) (.int .i64 x.item)
          have hox' := hox.1
          rw [flatO_set L' i x (by rw [HL'.out]; omega)] at hox'
          have hFf := (((HFx.out.new hBx).set1 g (i * 3) (.int .i64 x.tx) rfl).set1 g (i * 3 + 1) (.int .i64 x.what) rfl).set1 g (i * 3 + 2) (.int .i64 x.item) rfl
          have hCf := HPS.out _ (i * 3 + 2) (.int .i64 x.item) (HPS.out _ (i * 3 + 1) (.int .i64 x.what) (HPS.out _ (i * 3) (.int .i64 x.tx) (HPB.out _ _ (HPB.out _ _ HCx.out ((Below.refl _ wr).alloc (Nat.le_refl _) _)) HB3.out)))
          have htk : (L'.set i x).take (i + 1) = L'.take i ++ [x] := by
            rw [List.take_succ_eq_append_getElem (by rw [List.length_set, HL'.out]; omega), List.getElem_set_self, List.take_set_of_le (Nat.le_refl _)]
          have hdp : (L'.set i x).drop (j + 1) = L'.drop (j + 1) := List.drop_set_of_lt (by omega)
          have HOF := Lib.hid hox'
          have HFF := Lib.hid hFf
          have HCF := Lib.hid hCf
          have HTK := Lib.hid htk
          have HDP := Lib.hid hdp
          clear hox hox' hFf hCf htk hdp hBx
          go_roundg (gk - 1)
          case measure => omega
          case rel => exact ⟨i + 1, j + 1, L'.set i x, by omega, by go_num, by go_num, by omega, HOF.out, by rw [List.length_set]; exact HL'.out, by rw [HTK.out, HN.out, HTk.out], by rw [HDP.out]; exact HDR.out, HCF.out, HFF.out⟩
      · obtain rfl : j = l.length := by omega
        rw [List.take_of_length_le (Nat.le_refl _)] at ht
        have hil : (l.filter fun x => !p x).length = i := by rw [← ht, List.length_take, hL']; omega
        have HIL := Lib.hid hil
        have HTT := Lib.hid ht
        have i1 : (0 : Int) ≤ (i : Int) := by omega
        have i2 : (i : Int) < (l.length : Int) := by omega
        have i3 : (l.length : Int) ≤ (c : Int) := by omega
        have i4 : (i : Int) < (c : Int) := by omega
        clear ho ht hd hCx hFx hil hL'
        go_wp2_with ((with_reducible (refine wpList_clear _ ?_ (.tmp 38) ?_ B g l.length c i (flatO L') (c - i) ?_ HOx.out (by omega) ?_)); rfl; rfl; rfl; intro w4 ho4 hF4; have HO4 := Lib.hid ho4; have HF4 := Lib.hid hF4; clear ho4 hF4)
        go_ret
        have ho5 := HO4.out
        rw [flatO_take, HTT.out] at ho5
        refine ⟨_, rfl, rfl, by rw [HIL.out]; exact ho5, (HFx.out.trans HF4.out).mono (fun k hk => by rw [hk]; rfl)⟩
end Go.Proofs.Ytkfemodellmakaa
