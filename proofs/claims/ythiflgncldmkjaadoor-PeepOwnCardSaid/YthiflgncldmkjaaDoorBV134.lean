/- Part 4 of the proof that: What is handed in stays as it is (PeepOwn): for every input the law returns true, and the input reads as it did. Condition: the two tables of package code start as the program's text lays them (the row's own). -/
import Derived.Test.YthiflgncldmkjaaDoorBV133
set_option linter.unusedVariables false
set_option linter.unusedSimpArgs false
set_option maxRecDepth 100000
namespace Go.Proofs.YthiflgncldmkjaaDoor
open Go.Ri
attribute [local congr] bind_lazy jn_lazy

theorem ret_jn {R : Type} {x : Option (St ⊕ R)} {f : Tm → AH → Option R} {Q : R → Prop} (h : Ret x fun y => Ret (jn (some y) f) Q) : Ret (jn x f) Q := by
  obtain ⟨y, rfl, h⟩ := h
  exact h
def AnyIns (N : Nat) (H : AH) (s : AV) (n : Nat) : Prop := n ≤ 65536 ∧ ((s = .slice none 0 (.kn 0) ∧ n = 0) ∨ ∃ b c B, s = .slice (some (b, 0)) n c ∧ H.m b = some B ∧ B.elem = 29 ∧ B.rw_ = true ∧ n * 3 ≤ B.cells.length ∧ N ≤ b)
theorem AnyIns.of {N : Nat} {H : AH} {s : AV} {L : List Ins} (h : Own N 3 29 H s (insF L)) (hl : L.length ≤ 65536) : AnyIns N H s L.length := by
  refine ⟨hl, ?_⟩
  have hi := insF_len L
  rcases h with ⟨e, h⟩ | ⟨b, n, c, B, rfl, hc, hcl, hb, hbe, hbr, hle, _, hN⟩
  · rw [h] at hi
    rw [List.length_nil] at hi
    exact .inl ⟨e, by omega⟩
  · have : n = L.length := by omega
    subst this
    exact .inr ⟨b, c, B, rfl, hb, hbe, hbr, hle, hN⟩
theorem AnyIns.low {N M : Nat} {H : AH} {s : AV} {n : Nat} (h : AnyIns N H s n) (hM : M ≤ N) : AnyIns M H s n :=
  ⟨h.1, h.2.imp id fun ⟨b, c, B, h1, h2, h3, h4, h5, h6⟩ => ⟨b, c, B, h1, h2, h3, h4, h5, Nat.le_trans hM h6⟩⟩
theorem AnyIns.mono {N : Nat} {H H' : AH} {s : AV} {n : Nat} (h : AnyIns N H s n) (hs : ∀ b B, H.m b = some B → B.elem = 29 → ∃ B', H'.m b = some B' ∧ B'.elem = 29 ∧ B'.rw_ = B.rw_ ∧ B'.cells.length = B.cells.length) : AnyIns N H' s n := by
  refine ⟨h.1, h.2.imp id ?_⟩
  rintro ⟨b, c, B, h1, h2, h3, h4, h5, h6⟩
  obtain ⟨B', k1, k2, k3, k4⟩ := hs b B h2 h3
  exact ⟨b, c, B', h1, k1, k2, by rw [k3]; exact h4, by rw [k4]; exact h5, h6⟩
theorem AnyIns.alen {N : Nat} {H : AH} {s : AV} {n : Nat} (h : AnyIns N H s n) : aLen Tryd.prog 22 s = some (.int .i64 (n : Nat)) := by
  rcases h.2 with ⟨rfl, rfl⟩ | ⟨b, c, B, rfl, _⟩ <;> exact ylen22 _ _ _
theorem AnyIns.at {N : Nat} {H : AH} {s : AV} {n : Nat} (h : AnyIns N H s n) {j : Nat} (hj : j < n) :
    ∃ b B, (∀ kd, idxSl s (.int kd (j : Nat)) 3 = some (.ptr (some (b, j * 3)))) ∧ H.m b = some B ∧ B.rw_ = true ∧ B.elem = 29 ∧ j * 3 + 3 ≤ B.cells.length ∧ N ≤ b := by
  rcases h.2 with ⟨_, e⟩ | ⟨b, c, B, rfl, h2, h3, h4, h5, h6⟩
  · omega
  · exact ⟨b, B, fun kd => by simp [idxSl]; omega, h2, h4, h3, by omega, h6⟩
theorem wr_same {H : AH} {b : Nat} {B : Blk} (hb : H.m b = some B) (hr : B.rw_ = true) {x : List AV} (hx : x.length = 3) {j : Nat} (hj : j * 3 + 3 ≤ B.cells.length) : ∀ b' B', H.m b' = some B' → B'.elem = 29 →
    ∃ B'', (H.put b ⟨List.take (j * 3) B.cells ++ x ++ List.drop (j * 3 + 3) B.cells, B.elem, true⟩).m b' = some B'' ∧ B''.elem = 29 ∧ B''.rw_ = B'.rw_ ∧ B''.cells.length = B'.cells.length := by
  intro b' B' hB' he
  by_cases e : b' = b
  · subst e
    rw [hb] at hB'
    cases hB'
    refine ⟨⟨List.take (j * 3) B.cells ++ x ++ List.drop (j * 3 + 3) B.cells, B.elem, true⟩, by simp only [put_m, if_true], he, hr.symm, ?_⟩
    simp only [List.length_append, List.length_take, List.length_drop, hx]
    omega
  · refine ⟨B', ?_, he, rfl, rfl⟩
    simp only [put_m]
    rw [if_neg e]
    exact hB'
def AnyCodes (N : Nat) (H : AH) (v : AV) (n : Nat) : Prop := n ≤ 1000 ∧ ∃ rows : List (List AV), Own N 4 24 H v rows.flatten ∧ (∀ x ∈ rows, x.length = 4) ∧ rows.length = n ∧ ∀ x ∈ rows, ∃ s a m, x = s :: a ∧ AnyIns N H s m
theorem AnyCodes.mono {N : Nat} {H H' : AH} {v : AV} {n : Nat} (h : AnyCodes N H v n) (h24 : ∀ b B, H.m b = some B → B.elem = 24 → At v b → H'.m b = some B) (hs : ∀ b B, H.m b = some B → B.elem = 29 → ∃ B', H'.m b = some B' ∧ B'.elem = 29 ∧ B'.rw_ = B.rw_ ∧ B'.cells.length = B.cells.length) : AnyCodes N H' v n := by
  obtain ⟨h0, rows, h1, h2, h3, h4⟩ := h
  refine ⟨h0, rows, ?_, h2, h3, fun x hx => ?_⟩
  · rcases h1 with h1 | ⟨b, n, c, B, rfl, hc, hcl, hb, hbe, r⟩
    · exact .inl h1
    · exact .inr ⟨b, n, c, B, rfl, hc, hcl, h24 b B hb hbe ⟨_, _, rfl⟩, hbe, r⟩
  · obtain ⟨s, a, m, e, hs'⟩ := h4 x hx
    exact ⟨s, a, m, e, hs'.mono hs⟩
theorem AnyCodes.sub {N : Nat} {H H' : AH} {v : AV} {n : Nat} (h : AnyCodes N H v n) (hs : H.sub H') : AnyCodes N H' v n := h.mono (fun b B hB _ _ => hs b B hB) fun b B hB he => ⟨B, hs b B hB, he, rfl, rfl⟩
theorem AnyCodes.alen {N : Nat} {H : AH} {v : AV} {n : Nat} (h : AnyCodes N H v n) : aLen Tryd.prog 36 v = some (.int .i64 (n : Nat)) := by
  obtain ⟨_, rows, h1, h2, h3, _⟩ := h
  rw [(Own.row (by omega) h1 h2).alen ysl36.under, h3]
theorem AnyCodes.nil (N : Nat) (H : AH) : AnyCodes N H (.slice none 0 (.kn 0)) 0 := ⟨by omega, [], Own.nil _ _ _ _, by simp, rfl, by simp⟩
theorem AnyCodes.of {N : Nat} {H : AH} {v : AV} {l : List Code} (h : OwnCodes N H v l) (hl : l.length ≤ 1000) (hi : ∀ c ∈ l, c.ins.length ≤ 65536) : AnyCodes N H v l.length := by
  obtain ⟨rows, h1, h2, h3, h4⟩ := h
  refine ⟨hl, rows, h1, h2, h3, fun x hx => ?_⟩
  obtain ⟨j, hj⟩ := List.mem_iff_getElem?.1 hx
  have hlt := (List.getElem?_eq_some_iff.1 hj).1
  rw [List.getElem?_eq_getElem hlt] at hj
  cases hj
  obtain ⟨s, e, ho, _⟩ := h4 j hlt (by omega)
  exact ⟨s, _, _, e, AnyIns.of ho (hi _ (List.getElem_mem _))⟩
theorem AnyCodes.at {N : Nat} {H : AH} {v : AV} {n : Nat} (h : AnyCodes N H v n) {i : Nat} (hi : i < n) :
    ∃ b B s m, At v b ∧ (∀ kd, idxSl v (.int kd (i : Nat)) 4 = some (.ptr (some (b, i * 4)))) ∧ H.m b = some B ∧ B.elem = 24 ∧ B.cells[i * 4]? = some s ∧ AnyIns N H s m := by
  obtain ⟨_, rows, h1, h2, h3, h4⟩ := h
  have hfl := flat_len rows h2
  have hr : rows[i]'(by omega) ∈ rows := List.getElem_mem _
  obtain ⟨s, a, m, e, hs⟩ := h4 _ hr
  have hat := flat_at rows h2 i (by omega)
  rcases h1 with ⟨_, e'⟩ | ⟨b, n', c, B, rfl, hc, hcl, hb, hbe, hbr, hle, htk, hN⟩
  · rw [e'] at hfl
    simp at hfl
    omega
  · have hn : n' = n := by omega
    subst hn
    refine ⟨b, B, s, m, ⟨_, _, rfl⟩, fun kd => by simp [idxSl]; omega, hb, hbe, ?_, hs⟩
    rw [← htk, e] at hat
    have h0 : ((List.drop (i * 4) (List.take (n' * 4) B.cells)).take 4)[0]? = some s := by rw [hat]; rfl
    rw [List.getElem?_take, if_pos (by omega), List.getElem?_drop, Nat.add_zero, List.getElem?_take, if_pos (by omega)] at h0
    exact h0
structure IP1 (T0 : Tm) (M : Nat) (Hb : AH) (q : Nat) (v : AV) (n : Nat) (j : Nat) (t : St) : Prop where
  t0 : t.1 0 = T0 0
  t5 : t.1 5 = T0 5
  t9 : t.1 9 = T0 9
  t11 : t.1 11 = T0 11
  t12 : t.1 12 = .ptr (some (q, 0))
  t14 : t.1 14 = .int .i64 (j : Nat)
  ext : Ext M Hb t.2
  box : ∃ a b c, t.2.m q = some ⟨[v, a, b, c], 24, true⟩
  ins : AnyIns M t.2 v n
theorem wr1_loop (call : CallF) {T0 : Tm} {M : Nat} {Hb : AH} {q : Nat} {v : AV} {n : Nat} {T : Tm} {H1 : AH} (h0 : IP1 T0 M Hb q v n 0 (T, H1)) :
    Ret (Ri.iter big (F13_L1 call (Ri.iter big)) (T, H1)) fun r => r.1 = .exit 4 ∧ IP1 T0 M Hb q v n n r.2 := by
  have hn := h0.ins.1
  refine Ret.upTo (n := n) (IP1 T0 M Hb q v n) (by unfold big; omega) h0 ?_ ?_
  · rintro j ⟨T1, H2⟩ hj ⟨t0, t5, t9, t11, t12, t14, hx, ⟨a, b, c, hq⟩, hi⟩
    simp only at t0 t5 t9 t11 t12 t14 hx hq hi
    have hal := hi.alen
    have hcmp : decide (((j : Nat) : Int) < ((n : Nat) : Int)) = true := decide_eq_true (by omega)
    obtain ⟨bo, Bo, e1, e2, e3, e4, e5, e6⟩ := hi.at hj
    have hne : ¬ bo = q := by
      rintro rfl
      rw [hq] at e2
      cases e2
      cases e4
    have hneq : ¬ q = bo := fun e => hne e.symm
    have hle : (j * 3 + 3 ≤ Bo.cells.length) = True := eq_true e5
    have hlt : bo < H2.next := hx.wf _ _ e2
    unfold F13_L1
    simp -implicitDefEqProofs only [go_sem, Nat.reduceAdd, Nat.reduceMul, Nat.reduceLT, Nat.reduceLeDiff, Nat.reduceEqDiff, Nat.reduceBEq, reduceCtorEq, Int.reduceLT, Int.reduceLE, Int.reduceEq, Int.reduceGT, Int.reduceGE, Int.reduceToNat, Int.reduceNeg, t12, t14, hq, hal, hcmp, e1, e2, e3, hle, wrapS (i := j) (by omega)]
    refine .mk (.inl ⟨rfl, ?_, ?_, ?_, ?_, ?_, ?_, hx.put e6 hlt _, ⟨a, b, c, ?_⟩, hi.mono (wr_same e2 e3 rfl e5)⟩)
    · simp -implicitDefEqProofs only [go_sem, Nat.reduceEqDiff, Nat.reduceBEq, reduceCtorEq, t0]
    · simp -implicitDefEqProofs only [go_sem, Nat.reduceEqDiff, Nat.reduceBEq, reduceCtorEq, t5]
    · simp -implicitDefEqProofs only [go_sem, Nat.reduceEqDiff, Nat.reduceBEq, reduceCtorEq, t9]
    · simp -implicitDefEqProofs only [go_sem, Nat.reduceEqDiff, Nat.reduceBEq, reduceCtorEq, t11]
    · simp -implicitDefEqProofs only [go_sem, Nat.reduceEqDiff, Nat.reduceBEq, reduceCtorEq, t12]
    · simp -implicitDefEqProofs only [go_sem, Nat.reduceEqDiff, Nat.reduceBEq, reduceCtorEq]
    · simp only [put_m]
      rw [if_neg hneq]
      exact hq
  · rintro ⟨T1, H2⟩ ⟨t0, t5, t9, t11, t12, t14, hx, ⟨a, b, c, hq⟩, hi⟩
    simp only at t0 t5 t9 t11 t12 t14 hx hq hi
    have hal := hi.alen
    have hcmp : decide (((n : Nat) : Int) < ((n : Nat) : Int)) = false := decide_eq_false (by omega)
    unfold F13_L1
    simp -implicitDefEqProofs only [go_sem, Nat.reduceAdd, Nat.reduceMul, Nat.reduceLT, Nat.reduceLeDiff, Nat.reduceEqDiff, Nat.reduceBEq, reduceCtorEq, Int.reduceLT, Int.reduceLE, Int.reduceEq, Int.reduceGT, Int.reduceGE, Int.reduceToNat, Int.reduceNeg, t12, t14, hq, hal, hcmp]
    refine .mk ⟨by simp, rfl, ?_, ?_, ?_, ?_, ?_, ?_, hx, ⟨a, b, c, hq⟩, hi⟩
    · simp -implicitDefEqProofs only [go_sem, Nat.reduceEqDiff, Nat.reduceBEq, reduceCtorEq, t0]
    · simp -implicitDefEqProofs only [go_sem, Nat.reduceEqDiff, Nat.reduceBEq, reduceCtorEq, t5]
    · simp -implicitDefEqProofs only [go_sem, Nat.reduceEqDiff, Nat.reduceBEq, reduceCtorEq, t9]
    · simp -implicitDefEqProofs only [go_sem, Nat.reduceEqDiff, Nat.reduceBEq, reduceCtorEq, t11]
    · simp -implicitDefEqProofs only [go_sem, Nat.reduceEqDiff, Nat.reduceBEq, reduceCtorEq, t12]
    · simp -implicitDefEqProofs only [go_sem, Nat.reduceEqDiff, Nat.reduceBEq, reduceCtorEq, t14]
structure IP0 (T0 : Tm) (M : Nat) (Hb : AH) (made : AV) (k i : Nat) (bm : Nat) (Bm : Blk) (s : AV) (n : Nat) (j : Nat) (t : St) : Prop where
  t0 : t.1 0 = T0 0
  t5 : t.1 5 = T0 5
  t9 : t.1 9 = made
  t11 : t.1 11 = .int .i64 (i : Nat)
  t15 : t.1 15 = .int .i64 (j : Nat)
  ext : Ext M Hb t.2
  box : t.2.m bm = some Bm
  ins : AnyIns M t.2 s n
  all : AnyCodes M t.2 made k
theorem wr0_loop (call : CallF) {T0 : Tm} {M : Nat} {Hb : AH} {made : AV} {k i : Nat} {bm : Nat} {Bm : Blk} {s : AV} {n : Nat} (hidx : ∀ kd, idxSl made (.int kd (i : Nat)) 4 = some (.ptr (some (bm, i * 4)))) (hel : Bm.elem = 24) (hs : Bm.cells[i * 4]? = some s) {T : Tm} {H1 : AH} (h0 : IP0 T0 M Hb made k i bm Bm s n 0 (T, H1)) :
    Ret (Ri.iter big (F13_L0 call (Ri.iter big)) (T, H1)) fun r => r.1 = .exit 6 ∧ IP0 T0 M Hb made k i bm Bm s n n r.2 := by
  have hn := h0.ins.1
  refine Ret.upTo (n := n) (IP0 T0 M Hb made k i bm Bm s n) (by unfold big; omega) h0 ?_ ?_
  · rintro j ⟨T1, H2⟩ hj ⟨t0, t5, t9, t11, t15, hx, hq, hi, hall⟩
    simp only at t0 t5 t9 t11 t15 hx hq hi hall
    have hal := hi.alen
    have hcmp : decide (((j : Nat) : Int) < ((n : Nat) : Int)) = true := decide_eq_true (by omega)
    obtain ⟨bo, Bo, e1, e2, e3, e4, e5, e6⟩ := hi.at hj
    have hle : (j * 3 + 3 ≤ Bo.cells.length) = True := eq_true e5
    have hlt : bo < H2.next := hx.wf _ _ e2
    have hst : ∀ b B, H2.m b = some B → B.elem = 24 → (H2.put bo ⟨List.take (j * 3) Bo.cells ++ [.int .i64 1, .int .i64 8, .int .i64 0] ++ List.drop (j * 3 + 3) Bo.cells, Bo.elem, true⟩).m b = some B := fun b B hB he => by
      have : b ≠ bo := by
        rintro rfl
        rw [hB] at e2
        cases e2
        rw [he] at e4
        cases e4
      simp only [put_m]
      rw [if_neg this]
      exact hB
    unfold F13_L0
    simp -implicitDefEqProofs only [go_sem, Nat.reduceAdd, Nat.reduceMul, Nat.reduceLT, Nat.reduceLeDiff, Nat.reduceEqDiff, Nat.reduceBEq, reduceCtorEq, Int.reduceLT, Int.reduceLE, Int.reduceEq, Int.reduceGT, Int.reduceGE, Int.reduceToNat, Int.reduceNeg, t9, t11, t15, hidx, hq, hs, hal, hcmp, e1, e2, e3, hle, wrapS (i := j) (by omega)]
    refine .mk (.inl ⟨rfl, ?_, ?_, ?_, ?_, ?_, hx.put e6 hlt _, hst _ _ hq hel, hi.mono (wr_same e2 e3 rfl e5), hall.mono (fun b B hB he _ => hst b B hB he) (wr_same e2 e3 rfl e5)⟩)
    · simp -implicitDefEqProofs only [go_sem, Nat.reduceEqDiff, Nat.reduceBEq, reduceCtorEq, t0]
    · simp -implicitDefEqProofs only [go_sem, Nat.reduceEqDiff, Nat.reduceBEq, reduceCtorEq, t5]
    · simp -implicitDefEqProofs only [go_sem, Nat.reduceEqDiff, Nat.reduceBEq, reduceCtorEq, t9]
    · simp -implicitDefEqProofs only [go_sem, Nat.reduceEqDiff, Nat.reduceBEq, reduceCtorEq, t11]
    · simp -implicitDefEqProofs only [go_sem, Nat.reduceEqDiff, Nat.reduceBEq, reduceCtorEq]
  · rintro ⟨T1, H2⟩ ⟨t0, t5, t9, t11, t15, hx, hq, hi, hall⟩
    simp only at t0 t5 t9 t11 t15 hx hq hi hall
    have hal := hi.alen
    have hcmp : decide (((n : Nat) : Int) < ((n : Nat) : Int)) = false := decide_eq_false (by omega)
    unfold F13_L0
    simp -implicitDefEqProofs only [go_sem, Nat.reduceAdd, Nat.reduceMul, Nat.reduceLT, Nat.reduceLeDiff, Nat.reduceEqDiff, Nat.reduceBEq, reduceCtorEq, Int.reduceLT, Int.reduceLE, Int.reduceEq, Int.reduceGT, Int.reduceGE, Int.reduceToNat, Int.reduceNeg, t9, t11, t15, hidx, hq, hs, hal, hcmp]
    refine .mk ⟨by simp, rfl, ?_, ?_, ?_, ?_, ?_, hx, hq, hi, hall⟩
    · simp -implicitDefEqProofs only [go_sem, Nat.reduceEqDiff, Nat.reduceBEq, reduceCtorEq, t0]
    · simp -implicitDefEqProofs only [go_sem, Nat.reduceEqDiff, Nat.reduceBEq, reduceCtorEq, t5]
    · simp -implicitDefEqProofs only [go_sem, Nat.reduceEqDiff, Nat.reduceBEq, reduceCtorEq, t9]
    · simp -implicitDefEqProofs only [go_sem, Nat.reduceEqDiff, Nat.reduceBEq, reduceCtorEq, t11]
    · simp -implicitDefEqProofs only [go_sem, Nat.reduceEqDiff, Nat.reduceBEq, reduceCtorEq, t15]
end Go.Proofs.YthiflgncldmkjaaDoor
set_option linter.unusedVariables false
set_option linter.unusedSimpArgs false
set_option maxRecDepth 100000
namespace Go.Proofs.YthiflgncldmkjaaDoor
open Go.Ri
attribute [local congr] bind_lazy jn_lazy

structure IQ3 (Hb : AH) (ls copies made : AV) (k : Nat) (i : Nat) (t : St) : Prop where
  t0 : t.1 0 = ls
  t5 : t.1 5 = copies
  t9 : t.1 9 = made
  t11 : t.1 11 = .int .i64 (i : Nat)
  ext : Ext Hb.next Hb t.2
  all : AnyCodes Hb.next t.2 made k
set_option maxHeartbeats 2000000 in
theorem own13_loop (d : Nat) {Hb : AH} (hw : Hb.wf) (hT : Tabs Hb) {ls copies made : AV} {l : List Code} (hl : CodesRow Hb ls l) (h50 : l.length ≤ 50) {k : Nat} {T : Tm} {H1 : AH} (h0 : IQ3 Hb ls copies made k 0 (T, H1)) :
    Ret (Ri.iter big (F13_L3 (RL (d + 6)) (Ri.iter big)) (T, H1)) fun r => r.1 = .exit 2 ∧ IQ3 Hb ls copies made k l.length r.2 := by
  have hal := hl.alen
  refine Ret.upTo (n := l.length) (IQ3 Hb ls copies made k) (by unfold big; omega) h0 ?_ ?_
  · rintro i ⟨T1, H2⟩ hi ⟨t0, t5, t9, t11, hx, hall⟩
    simp only at t0 t5 t9 t11 hx hall
    have hcmp : decide (((i : Nat) : Int) < ((l.length : Nat) : Int)) = true := decide_eq_true (by omega)
    obtain ⟨⟨x, H3⟩, h49, hx3, v, a, b, c, e, L, rfl, hown, hL⟩ := Once_spec d hx.wf (hT.ext hx hT.two) (hl.mono (hx.sub hw)) hi
    simp only at hx3 hown
    have r49 := (RL_at (d := d + 6) (f := 49) (by decide) _ _).trans h49
    obtain ⟨pv, nv, cv, hv⟩ := hown.shape
    subst hv
    have hwi := wrapS (i := i) (by omega)
    have hx4 : Ext H2.next H2 (H3.new [.slice pv nv cv, .int .i64 a, .int .i64 b, .bool c] 24) := hx3.new _ _
    have hany : AnyIns H2.next (H3.new [.slice pv nv cv, .int .i64 a, .int .i64 b, .bool c] 24) (.slice pv nv cv) L.length := AnyIns.of (hown.new hx3.wf _ _) hL
    -- the last step of a round
    have last : ∀ (T6 : Tm) (H6 : AH), T6 0 = ls → T6 5 = copies → T6 9 = made → T6 11 = .int .i64 (i : Nat) → Ext Hb.next Hb H6 → AnyCodes Hb.next H6 made k →
        Ret (F13_J2 (RL (d + 6)) (Ri.iter big) T6 H6) fun r => (r.1 = .normal ∧ IQ3 Hb ls copies made k (i + 1) r.2) ∨ (r.1 ≠ .normal ∧ r.1 = .exit 2 ∧ IQ3 Hb ls copies made k l.length r.2) := by
      intro T6 H6 u0 u5 u9 u11 hx6 hall6
      unfold F13_J2
      simp -implicitDefEqProofs only [go_sem, Nat.reduceAdd, Nat.reduceMul, Nat.reduceLT, Nat.reduceLeDiff, Nat.reduceEqDiff, Nat.reduceBEq, reduceCtorEq, Int.reduceLT, Int.reduceLE, Int.reduceEq, Int.reduceGT, Int.reduceGE, Int.reduceToNat, Int.reduceNeg, u11, hwi]
      refine .mk (.inl ⟨rfl, ?_, ?_, ?_, ?_, hx6, hall6⟩)
      · simp -implicitDefEqProofs only [go_sem, Nat.reduceEqDiff, Nat.reduceBEq, reduceCtorEq, u0]
      · simp -implicitDefEqProofs only [go_sem, Nat.reduceEqDiff, Nat.reduceBEq, reduceCtorEq, u5]
      · simp -implicitDefEqProofs only [go_sem, Nat.reduceEqDiff, Nat.reduceBEq, reduceCtorEq, u9]
      · simp -implicitDefEqProofs only [go_sem, Nat.reduceEqDiff, Nat.reduceBEq, reduceCtorEq]
    unfold F13_L3
    simp -implicitDefEqProofs only [go_sem, Nat.reduceAdd, Nat.reduceMul, Nat.reduceLT, Nat.reduceLeDiff, Nat.reduceEqDiff, Nat.reduceBEq, reduceCtorEq, Int.reduceLT, Int.reduceLE, Int.reduceEq, Int.reduceGT, Int.reduceGE, Int.reduceToNat, Int.reduceNeg, t0, t11, hal, hcmp, r49, new_put]
    refine ret_jn (Ret.then (wr1_loop (RL (d + 6)) (T0 := T1) (M := H2.next) (Hb := H2) (q := H3.next) (v := .slice pv nv cv) (n := L.length) ⟨?_, ?_, ?_, ?_, ?_, ?_, hx4, ⟨.int .i64 a, .int .i64 b, .bool c, by simp⟩, hany⟩) ?_)
    · simp -implicitDefEqProofs only [go_sem, Nat.reduceEqDiff, Nat.reduceBEq, reduceCtorEq]
    · simp -implicitDefEqProofs only [go_sem, Nat.reduceEqDiff, Nat.reduceBEq, reduceCtorEq]
    · simp -implicitDefEqProofs only [go_sem, Nat.reduceEqDiff, Nat.reduceBEq, reduceCtorEq]
    · simp -implicitDefEqProofs only [go_sem, Nat.reduceEqDiff, Nat.reduceBEq, reduceCtorEq]
    · simp -implicitDefEqProofs only [go_sem, Nat.reduceEqDiff, Nat.reduceBEq, reduceCtorEq]
    · simp -implicitDefEqProofs only [go_sem, Nat.reduceEqDiff, Nat.reduceBEq, reduceCtorEq]
      rfl
    rintro ⟨e', T5, H5⟩ ⟨rfl, u0, u5, u9, u11, _, _, hx5, _, _⟩
    simp only at u0 u5 u9 u11 hx5
    rw [t0] at u0
    rw [t5] at u5
    rw [t9] at u9
    rw [t11] at u11
    have hall5 := hall.sub (hx5.sub hx.wf)
    have hx15 : Ext Hb.next Hb H5 := hx.trans hx5 hx.next
    have hal2 := hall5.alen
    by_cases hik : i < k
    · have hc2 : decide (((i : Nat) : Int) < ((k : Nat) : Int)) = true := decide_eq_true (by omega)
      obtain ⟨bm, Bm, s, m, _, e1, e2, e3, e4, e5⟩ := hall5.at hik
      simp -implicitDefEqProofs only [go_sem, Nat.reduceAdd, Nat.reduceMul, Nat.reduceLT, Nat.reduceLeDiff, Nat.reduceEqDiff, Nat.reduceBEq, reduceCtorEq, Int.reduceLT, Int.reduceLE, Int.reduceEq, Int.reduceGT, Int.reduceGE, Int.reduceToNat, Int.reduceNeg, u9, u11, hal2, hc2]
      refine Ret.then (wr0_loop (RL (d + 6)) (T0 := T5) (M := Hb.next) (Hb := Hb) e1 e3 e4 ⟨?_, ?_, ?_, ?_, ?_, hx15, e2, e5, hall5⟩) ?_
      · simp -implicitDefEqProofs only [go_sem, Nat.reduceEqDiff, Nat.reduceBEq, reduceCtorEq]
      · simp -implicitDefEqProofs only [go_sem, Nat.reduceEqDiff, Nat.reduceBEq, reduceCtorEq]
      · simp -implicitDefEqProofs only [go_sem, Nat.reduceEqDiff, Nat.reduceBEq, reduceCtorEq, u9]
      · simp -implicitDefEqProofs only [go_sem, Nat.reduceEqDiff, Nat.reduceBEq, reduceCtorEq, u11]
      · simp -implicitDefEqProofs only [go_sem, Nat.reduceEqDiff, Nat.reduceBEq, reduceCtorEq]
        rfl
      rintro ⟨e', T6, H6⟩ ⟨rfl, w0, w5, w9, w11, _, hx6, _, _, hall6⟩
      simp only at w0 w5 w9 w11 hx6 hall6
      simp -implicitDefEqProofs only [go_sem, Nat.reduceAdd, Nat.reduceMul, Nat.reduceLT, Nat.reduceLeDiff, Nat.reduceEqDiff, Nat.reduceBEq, reduceCtorEq, Int.reduceLT, Int.reduceLE, Int.reduceEq, Int.reduceGT, Int.reduceGE, Int.reduceToNat, Int.reduceNeg]
      exact .mk (last T6 H6 (w0.trans u0) (w5.trans u5) w9 w11 hx6 hall6)
    · have hc2 : decide (((i : Nat) : Int) < ((k : Nat) : Int)) = false := decide_eq_false (by omega)
      simp -implicitDefEqProofs only [go_sem, Nat.reduceAdd, Nat.reduceMul, Nat.reduceLT, Nat.reduceLeDiff, Nat.reduceEqDiff, Nat.reduceBEq, reduceCtorEq, Int.reduceLT, Int.reduceLE, Int.reduceEq, Int.reduceGT, Int.reduceGE, Int.reduceToNat, Int.reduceNeg, u9, u11, hal2, hc2]
      refine .mk (last _ _ ?_ ?_ ?_ ?_ hx15 hall5)
      · simp -implicitDefEqProofs only [go_sem, Nat.reduceEqDiff, Nat.reduceBEq, reduceCtorEq, u0]
      · simp -implicitDefEqProofs only [go_sem, Nat.reduceEqDiff, Nat.reduceBEq, reduceCtorEq, u5]
      · simp -implicitDefEqProofs only [go_sem, Nat.reduceEqDiff, Nat.reduceBEq, reduceCtorEq, u9]
      · simp -implicitDefEqProofs only [go_sem, Nat.reduceEqDiff, Nat.reduceBEq, reduceCtorEq, u11]
  · rintro ⟨T1, H2⟩ ⟨t0, t5, t9, t11, hx, hall⟩
    simp only at t0 t5 t9 t11 hx hall
    have hcmp : decide (((l.length : Nat) : Int) < ((l.length : Nat) : Int)) = false := decide_eq_false (by omega)
    unfold F13_L3
    simp -implicitDefEqProofs only [go_sem, Nat.reduceAdd, Nat.reduceMul, Nat.reduceLT, Nat.reduceLeDiff, Nat.reduceEqDiff, Nat.reduceBEq, reduceCtorEq, Int.reduceLT, Int.reduceLE, Int.reduceEq, Int.reduceGT, Int.reduceGE, Int.reduceToNat, Int.reduceNeg, t0, t11, hal, hcmp]
    refine .mk ⟨by simp, rfl, ?_, ?_, ?_, ?_, hx, hall⟩
    · simp -implicitDefEqProofs only [go_sem, Nat.reduceEqDiff, Nat.reduceBEq, reduceCtorEq, t0]
    · simp -implicitDefEqProofs only [go_sem, Nat.reduceEqDiff, Nat.reduceBEq, reduceCtorEq, t5]
    · simp -implicitDefEqProofs only [go_sem, Nat.reduceEqDiff, Nat.reduceBEq, reduceCtorEq, t9]
    · simp -implicitDefEqProofs only [go_sem, Nat.reduceEqDiff, Nat.reduceBEq, reduceCtorEq, t11]
set_option maxHeartbeats 2000000 in
theorem law_own (d : Nat) {H : AH} (hw : H.wf) (hT : Tabs H) {ls : AV} {l : List Code} (hl : CodesRow H ls l) (hwt : ∀ c ∈ l, c.ins.length * 24 ≤ 140737488351232) {main : Int} (hm : InI main) :
    Ret (LawR (d + 6) 13 [ls, .int .i64 main] H) fun r => r.1 = .bool true := by
  unfold LawR
  rw [F13_eq]
  unfold F13
  obtain ⟨⟨v1, H1⟩, h31, ⟨g, hg, hfew⟩, hH1⟩ := great10_few (d + 4) hl
  simp only at hg hH1 hfew
  subst hg hH1
  have r31 : RL (d + 6) 31 [ls] H1 = some (.bool g, H1) := (RL_at (by decide) _ _).trans h31
  cases g
  · have h50 := hfew rfl
    simp -implicitDefEqProofs only [go_sem, Nat.reduceAdd, Nat.reduceMul, Nat.reduceLT, Nat.reduceLeDiff, Nat.reduceEqDiff, Nat.reduceBEq, reduceCtorEq, Int.reduceLT, Int.reduceLE, Int.reduceEq, Int.reduceGT, Int.reduceGE, Int.reduceToNat, Int.reduceNeg, r31]
    refine Ret.then (copies_loop (RL (d + 6)) hw (m := .int .i64 main) hl h50 hwt ⟨?_, ?_, ?_, .refl hw, ?_⟩) ?_
    · simp -implicitDefEqProofs only [go_sem, Nat.reduceEqDiff, Nat.reduceBEq, reduceCtorEq]
    · simp -implicitDefEqProofs only [go_sem, Nat.reduceEqDiff, Nat.reduceBEq, reduceCtorEq]
    · simp -implicitDefEqProofs only [go_sem, Nat.reduceEqDiff, Nat.reduceBEq, reduceCtorEq]
      rfl
    · simp -implicitDefEqProofs only [go_sem, Nat.reduceEqDiff, Nat.reduceBEq, reduceCtorEq]
      exact OwnCodes.nil _ _
    rintro ⟨e, T2, H2⟩ ⟨rfl, t0, t1, _, hx2, hcop⟩
    simp only at t0 t1 hx2 hcop
    rw [List.take_of_length_le (Nat.le_refl _)] at hcop
    have hT2 := hT.ext hx2 hT.two
    have hl2 := hl.mono (hx2.sub hw)
    obtain ⟨⟨v3, H3⟩, h33, hx3, hr⟩ := make_spec d hx2.wf hT2 hl2 hm
    simp only at hx3 hr
    have r33 : RL (d + 6) 33 [ls, .int .i64 main] H2 = some (v3, H3) := (RL_at (by decide) _ _).trans h33
    have hmade : ∃ v n k, v3 = .tuple [v, .int .i64 n] ∧ AnyCodes H2.next H3 v k := by
      rcases hr with ⟨_, rfl⟩ | ⟨hs, As, v, rfl, hmd, hown⟩
      · exact ⟨_, _, 0, rfl, AnyCodes.nil _ _⟩
      · refine ⟨v, _, As.length, rfl, AnyCodes.of hown (by rw [hmd.1]; omega) fun c hc => ?_⟩
        obtain ⟨k, hk⟩ := List.mem_iff_getElem?.1 hc
        have hlt := (List.getElem?_eq_some_iff.1 hk).1
        rw [List.getElem?_eq_getElem hlt] at hk
        cases hk
        obtain ⟨_, _, _, _, _, s, _⟩ := hmd.at hs hlt
        exact s.1.few
    obtain ⟨v, n, k, rfl, hany⟩ := hmade
    simp -implicitDefEqProofs only [go_sem, Nat.reduceAdd, Nat.reduceMul, Nat.reduceLT, Nat.reduceLeDiff, Nat.reduceEqDiff, Nat.reduceBEq, reduceCtorEq, Int.reduceLT, Int.reduceLE, Int.reduceEq, Int.reduceGT, Int.reduceGE, Int.reduceToNat, Int.reduceNeg, t0, t1, r33]
    refine Ret.then (own13_loop d hx2.wf hT2 (copies := T2 5) (made := v) (k := k) hl2 h50 ⟨?_, ?_, ?_, ?_, hx3, hany⟩) ?_
    · simp -implicitDefEqProofs only [go_sem, Nat.reduceEqDiff, Nat.reduceBEq, reduceCtorEq, t0]
    · simp -implicitDefEqProofs only [go_sem, Nat.reduceEqDiff, Nat.reduceBEq, reduceCtorEq]
    · simp -implicitDefEqProofs only [go_sem, Nat.reduceEqDiff, Nat.reduceBEq, reduceCtorEq]
    · simp -implicitDefEqProofs only [go_sem, Nat.reduceEqDiff, Nat.reduceBEq, reduceCtorEq]
      rfl
    rintro ⟨e, T4, H4⟩ ⟨rfl, u0, u5, _, _, hx4, _⟩
    simp only at u0 u5 hx4
    have hcr : CodesRow H4 (T2 5) l := (hcop.keep hx2.wf hx4.low).row (by omega) fun c hc => by have := hwt c hc; omega
    obtain ⟨⟨x, H5⟩, h35, hx, hH5⟩ := same_spec (d + 5) (hl2.mono (hx4.sub hx2.wf)) hcr fun c hc => by have := hwt c hc; omega
    simp only at hx hH5
    subst hx hH5
    have r35 : RL (d + 6) 35 [ls, T2 5] H5 = some (.bool true, H5) := (RL_at (by decide) _ _).trans h35
    have r32 := RL_32 (d + 6) (hT2.ext hx4 hT2.two)
    simp -implicitDefEqProofs only [go_sem, Nat.reduceAdd, Nat.reduceMul, Nat.reduceLT, Nat.reduceLeDiff, Nat.reduceEqDiff, Nat.reduceBEq, reduceCtorEq, Int.reduceLT, Int.reduceLE, Int.reduceEq, Int.reduceGT, Int.reduceGE, Int.reduceToNat, Int.reduceNeg, u0, u5, r35, r32]
    exact .mk rfl
  · have r32 := RL_32 (d + 6) hT
    simp -implicitDefEqProofs only [go_sem, Nat.reduceAdd, Nat.reduceMul, Nat.reduceLT, Nat.reduceLeDiff, Nat.reduceEqDiff, Nat.reduceBEq, reduceCtorEq, Int.reduceLT, Int.reduceLE, Int.reduceEq, Int.reduceGT, Int.reduceGE, Int.reduceToNat, Int.reduceNeg, r31, r32]
    exact .mk rfl
end Go.Proofs.YthiflgncldmkjaaDoor
set_option linter.unusedVariables false
set_option linter.unusedSimpArgs false
set_option maxRecDepth 100000
namespace Go.Proofs.YthiflgncldmkjaaDoor
open Go.Ri Go.ChangeShapes Go.WideShapes Go.ChangeAt Go.RowKit
namespace N13
theorem res : Tryd.f13.resultTypes = #[4] := by kernel_rfl
theorem readable : (Tryd.f13.params.toList.all fun t => Tryd.prog.readableRec t && decide (t < Tryd.prog.types.size)) = true := by kernel_rfl
theorem psize : Tryd.f13.params.size = 2 := by kernel_rfl
theorem contract (H : Type) (enc : TypeId × Value → H) (W : World) (base : Nat) (args : Array Value) (ds gs : List (DataW H)) (before : List MemPlace)
    (hval : ∀ (j : Nat) t v, Tryd.f13.params[j]? = some t → args[j]? = some v → Value.okWide Tryd.prog W .any base t v)
    (hW : DataW.Whole enc Tryd.prog Tryd.f13.params.toList Rows.peepOwnSpec.vars false W args.toList ds gs before) (hL : laidMetH Tryd.prog Rows.peepOwnRow.laid W)
    (hwt : (DataW.weightsEach Tryd.prog (Tryd.f13.params.toList ++ (OpenSpec.ofChange Rows.peepOwnSpec).bare.plain.varTypes Tryd.prog) (ds ++ gs)).all (· ≤ reachBytes) = true) :
    Calls Tryd.prog 13 args W fun e W' => ∃ v, e = .returned v ∧ Rows.peepOwnSpec.post enc Tryd.prog Tryd.f13 false true false false W args v W' := by
  refine contract_law res (fun ds hd => ?_) rfl (fun t ht => ?_) hW hL fun ρ0 H0 hS0 hro0 hT0 hA => ?_
  · rw [psize] at hd
    match ds, hd with
    | [d0, d1], _ => rfl
  · have := List.all_eq_true.1 readable t ht
    simpa using this
  · rw [Tryd.params13] at hA hval
    obtain ⟨v0, vs0, d0, ds0, p0, q0, hargs, rfl, rfl, h0, r0⟩ := trodAll_cons hA
    obtain ⟨v1, vs1, d1, ds1, p1, q1, rfl, rfl, rfl, h1, r1⟩ := trodAll_cons r0
    obtain ⟨rfl, rfl, rfl⟩ := trodAll_nil r1
    obtain rfl : args = #[v0, v1] := by cases args; simp_all
    obtain ⟨main, rfl, _, _, hm⟩ := open_int under3 (hval 1 3 v1 rfl rfl) h1
    obtain ⟨fuel0, h0⟩ := h0
    have hc0 : v0.cells.toList = [v0] := slice_cells under36 (hval 0 36 v0 rfl rfl)
    rw [hc0] at h0
    have hb : (DataW.weights Tryd.prog 36 d0).all (· ≤ reachBytes) = true := by
      rw [Tryd.params13] at hwt
      simp only [List.cons_append, List.nil_append, DataW.weightsEach, List.all_append, Bool.and_eq_true] at hwt
      exact hwt.1
    obtain ⟨ρ1, H1, s0, l, hL1, hr1, _, hrow1, _, hlen, hwt1⟩ := lay_codes3 h0 hS0 hro0 hb
    have hw1 : H1.wf := fun b B hB => hL1.sim.dom hB
    refine ⟨ρ1, H1, [s0, .int .i64 main], 6, hL1, relL_cons hr1 (relL_one rfl), ?_⟩
    exact law_own 0 hw1 (hT0.sub hL1.sub hw1) hrow1 hwt1 (inI_of_wf hm)
theorem reads (os : Os) {H : Type} (enc : TypeId × Value → H) : ∃ places, DataW.whole enc Tryd.prog ((laidWorld os).forCall (fun _ _ => 0) ⟨#[], #[.slice none 0 0, .int .i64 0], []⟩).memory Tryd.f13.params.toList Rows.peepOwnSpec.vars false #[Value.slice none 0 0, Value.int .i64 0].toList 8 = some ([.nil, .lit (.int .i64 0)], [], places) :=
  ⟨[], by kernel_rfl⟩
theorem lifted (os : Os) (started : os.Started) (H : Type) (enc : TypeId × Value → H) (F : Stop.Interp) :
    ReturnsInHanded {} Tryd.checked os 13 .any ((OpenSpec.ofChange Rows.peepOwnSpec).preRow enc Tryd.prog Tryd.f13 Rows.peepOwnRow.domain false Rows.peepOwnRow.laid) (((OpenSpec.ofChange Rows.peepOwnSpec).at F).post enc Tryd.prog Tryd.f13 false true false false) := by
  obtain ⟨places, hx⟩ := reads os enc
  refine returnsInHanded_of_row (C := Tryd.checked) (s := OpenSpec.ofChange Rows.peepOwnSpec) own started (by kernel_rfl) Tryd.func13
    (witness_row_at (enc := enc) (C := Tryd.checked) false (laidWorld os) #[Value.slice none 0 0, Value.int .i64 0] rfl (by kernel_rfl) (by kernel_rfl) (by kernel_rfl)
      (OpenSpec.preRow_of_cond 8 hx (by kernel_rfl) (fun k hk => by cases hk) (by kernel_rfl) (laid_met os _))) ?_
  intro W base args ds gs before hval hW _ _ hwt hL _ _
  exact contract H enc W base args ds gs before hval hW hL hwt
theorem said : Rows.PeepOwnSaid :=
  OpenClaim.holds_of_cond 13 Tryd.f13 rfl rfl rfl rfl rfl rfl rfl ⟨rfl, rfl, rfl, rfl, rfl⟩ rfl rfl rfl rfl rfl (by kernel_rfl) Tryd.func13 (by kernel_rfl)
    (of_decide_eq_true (by kernel_rfl)) (by unfold Func.isWrapper; first | (rw [if_pos (by decide +kernel)]; kernel_rfl) | (rw [if_neg (by decide +kernel)]; exact ⟨rfl, rfl⟩))
    (fun os started H enc _ F => by rw [OpenClaim.pre_eq_preRow]; exact lifted os started H enc F)
theorem plain (f : FuncId) (fn : Func) (hf : Tryd.pinned.checked.prog.funcNamed "parallax/parallaxlaw10.PeepOwn" = some f) (hfn : Tryd.pinned.checked.prog.funcs[f]? = some fn) :
    false = Tryd.pinned.checked.prog.looks [] ∧ ∀ (j : Nat) t, fn.params[j]? = some t → Tryd.pinned.checked.prog.wantsStandIn t = false := by
  obtain rfl : f = 13 := Option.some.inj ((show Tryd.prog.funcNamed "parallax/parallaxlaw10.PeepOwn" = some 13 by kernel_rfl).symm.trans hf) |>.symm
  obtain rfl : fn = Tryd.f13 := (Option.some.inj (Tryd.func13.symm.trans hfn)).symm
  refine ⟨by kernel_rfl, fun j t ht => ?_⟩
  rw [Tryd.params13] at ht
  have hm : t ∈ [36, 3] := by simpa using Array.mem_of_getElem? ht
  have hall : ([36, 3].all fun u => !Tryd.prog.wantsStandIn u) = true := by kernel_rfl
  exact (show Tryd.prog.wantsStandIn t = false by simpa using List.all_eq_true.1 hall t hm)
end N13
theorem peepOwn_holds : Rows.PeepOwnCardSaid :=
  Claim7.holds_tied_plain_at .later [] _ _ _ _ N13.said (fun _ h => by cases h) (by kernel_rfl) (fun _ h => by cases h) peepOwn_row_tie rfl ⟨rfl, rfl⟩ (by kernel_rfl) rfl N13.plain (by kernel_rfl)
#print axioms peepOwn_holds
end Go.Proofs.YthiflgncldmkjaaDoor
