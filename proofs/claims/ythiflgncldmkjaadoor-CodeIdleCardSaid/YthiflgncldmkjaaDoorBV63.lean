/- Part 3 of the proof that: An instruction that can not be reached may be any that the table allows (CodeIdle): for every input the law returns true, and the input reads as it did. Condition: the two tables of package code start as the program's text lays them (the row's own). -/
import Derived.Test.YthiflgncldmkjaaDoorBV62
/- Whether codes are sound; how great codes are. -/
set_option linter.unusedVariables false
set_option linter.unusedSimpArgs false
set_option maxRecDepth 100000
namespace Go.Proofs.YthiflgncldmkjaaDoor
open Go.Ri

theorem CodesRow.few {H : AH} {ls : AV} {l : List Code} (h : CodesRow H ls l) : l.length ≤ 9223372036854775807 := by
  obtain ⟨_, _, ⟨_, h⟩, _⟩ := h
  exact h
def IS (H : AH) (ls : AV) (l : List Code) (i : Nat) (t : St) : Prop :=
  t.1 0 = ls ∧ t.1 42 = .int .i64 (l.length : Nat) ∧ t.1 43 = .int .i64 (i : Nat) ∧ Ext H.next H t.2 ∧ ∀ k : Nat, k < i → ∃ h, Hts l k h
theorem sound_loop (d : Nat) {H : AH} (hw : H.wf) (hT : Tabs H) {ls : AV} {l : List Code} (hl : CodesRow H ls l) {T : Tm} {H1 : AH} (h0 : IS H ls l 0 (T, H1)) :
    Ret (Ri.iter big (F27_L0 (RT (d + 4)) (Ri.iter big)) (T, H1)) fun r => Ext H.next H r.2.2 ∧ ((r.1 = .exit 0 ∧ ∀ k : Nat, k < l.length → ∃ h, Hts l k h) ∨ (r.1 = .ret ∧ r.2.1 4 = .bool false ∧ ¬ ∀ k : Nat, k < l.length → ∃ h, Hts l k h)) := by
  have hfew := hl.few
  refine Ret.upTo (n := l.length) (IS H ls l) (by unfold big; omega) h0 ?_ ?_
  · rintro i ⟨T1, H2⟩ hi ⟨t0, t42, t43, hx, hdone⟩
    simp only at t0 t42 t43 hx
    have hcmp : decide (((i : Nat) : Int) < ((l.length : Nat) : Int)) = true := decide_eq_true (by omega)
    obtain ⟨⟨v, H3⟩, h28, hx3, hr⟩ := Heights_spec d hx.wf (hT.ext hx hT.two) (hl.mono (hx.sub hw)) (k := ((i : Nat) : Int)) (by unfold InI; omega)
    simp only at hx3 hr
    have hx4 : Ext H.next H H3 := hx.trans hx3 hx.next
    unfold F27_L0
    rcases hr with ⟨hs, h, rfl, _, hh⟩ | ⟨rfl, hno⟩
    · simp -implicitDefEqProofs only [go_sem, Nat.reduceAdd, Nat.reduceMul, Nat.reduceLT, Nat.reduceLeDiff, Nat.reduceEqDiff, Nat.reduceBEq, reduceCtorEq, Int.reduceLT, Int.reduceLE, Int.reduceEq, Int.reduceGT, Int.reduceGE, Int.reduceToNat, Int.reduceNeg, t0, t42, t43, hcmp, h28, wrapS (i := i) (by omega)]
      refine .mk (.inl ⟨rfl, ?_, ?_, ?_, hx4, fun k hk => ?_⟩)
      · simp -implicitDefEqProofs only [go_sem, Nat.reduceAdd, Nat.reduceMul, Nat.reduceLT, Nat.reduceLeDiff, Nat.reduceEqDiff, Nat.reduceBEq, reduceCtorEq, Int.reduceLT, Int.reduceLE, Int.reduceEq, Int.reduceGT, Int.reduceGE, Int.reduceToNat, Int.reduceNeg, t0]
      · simp -implicitDefEqProofs only [go_sem, Nat.reduceAdd, Nat.reduceMul, Nat.reduceLT, Nat.reduceLeDiff, Nat.reduceEqDiff, Nat.reduceBEq, reduceCtorEq, Int.reduceLT, Int.reduceLE, Int.reduceEq, Int.reduceGT, Int.reduceGE, Int.reduceToNat, Int.reduceNeg, t42]
      · simp -implicitDefEqProofs only [go_sem, Nat.reduceAdd, Nat.reduceMul, Nat.reduceLT, Nat.reduceLeDiff, Nat.reduceEqDiff, Nat.reduceBEq, reduceCtorEq, Int.reduceLT, Int.reduceLE, Int.reduceEq, Int.reduceGT, Int.reduceGE, Int.reduceToNat, Int.reduceNeg]
      · by_cases hki : k = i
        · subst hki; exact ⟨h, hh⟩
        · exact hdone k (by omega)
    · simp -implicitDefEqProofs only [go_sem, Nat.reduceAdd, Nat.reduceMul, Nat.reduceLT, Nat.reduceLeDiff, Nat.reduceEqDiff, Nat.reduceBEq, reduceCtorEq, Int.reduceLT, Int.reduceLE, Int.reduceEq, Int.reduceGT, Int.reduceGE, Int.reduceToNat, Int.reduceNeg, t0, t42, t43, hcmp, h28]
      refine .mk (.inr ⟨by simp, hx4, .inr ⟨rfl, ?_, fun h => hno (h i hi)⟩⟩)
      simp -implicitDefEqProofs only [go_sem, Nat.reduceAdd, Nat.reduceMul, Nat.reduceLT, Nat.reduceLeDiff, Nat.reduceEqDiff, Nat.reduceBEq, reduceCtorEq, Int.reduceLT, Int.reduceLE, Int.reduceEq, Int.reduceGT, Int.reduceGE, Int.reduceToNat, Int.reduceNeg]
  · rintro ⟨T1, H2⟩ ⟨t0, t42, t43, hx, hdone⟩
    simp only at t0 t42 t43 hx
    have hcmp : decide (((l.length : Nat) : Int) < ((l.length : Nat) : Int)) = false := decide_eq_false (by omega)
    unfold F27_L0
    simp -implicitDefEqProofs only [go_sem, Nat.reduceAdd, Nat.reduceMul, Nat.reduceLT, Nat.reduceLeDiff, Nat.reduceEqDiff, Nat.reduceBEq, reduceCtorEq, Int.reduceLT, Int.reduceLE, Int.reduceEq, Int.reduceGT, Int.reduceGE, Int.reduceToNat, Int.reduceNeg, t42, t43, hcmp]
    exact .mk ⟨by simp, hx, .inl ⟨rfl, hdone⟩⟩

theorem Sound_spec (d : Nat) {H : AH} (hw : H.wf) (hT : Tabs H) {ls : AV} {l : List Code} (hl : CodesRow H ls l) {main : Int} (hm : InI main) :
    Ret (RT (d + 5) 27 [ls, .int .i64 main] H) fun r => Ext H.next H r.2 ∧ ∃ b : Bool, r.1 = .bool b ∧ (b = true ↔ SoundP l main) := by
  rw [R27]
  unfold F27
  have hal := hl.alen
  have no : ¬ SoundP l main → Ret (some (AV.bool false, H)) fun r => Ext H.next H r.2 ∧ ∃ b : Bool, r.1 = .bool b ∧ (b = true ↔ SoundP l main) := fun h => .mk ⟨.refl hw, false, rfl, by simp [h]⟩
  by_cases p1 : ((l.length : Nat) : Int) < 1
  · simp -implicitDefEqProofs only [go_sem, Nat.reduceAdd, Nat.reduceMul, Nat.reduceLT, Nat.reduceLeDiff, Nat.reduceEqDiff, Nat.reduceBEq, reduceCtorEq, Int.reduceLT, Int.reduceLE, Int.reduceEq, Int.reduceGT, Int.reduceGE, Int.reduceToNat, Int.reduceNeg, hal, decide_eq_true p1]
    exact no fun h => by have := h.1; omega
  by_cases p2 : ((l.length : Nat) : Int) > 40
  · simp -implicitDefEqProofs only [go_sem, Nat.reduceAdd, Nat.reduceMul, Nat.reduceLT, Nat.reduceLeDiff, Nat.reduceEqDiff, Nat.reduceBEq, reduceCtorEq, Int.reduceLT, Int.reduceLE, Int.reduceEq, Int.reduceGT, Int.reduceGE, Int.reduceToNat, Int.reduceNeg, hal, decide_eq_false p1, decide_eq_true p2]
    exact no fun h => by have := h.2.1; omega
  by_cases p3 : main < 0
  · simp -implicitDefEqProofs only [go_sem, Nat.reduceAdd, Nat.reduceMul, Nat.reduceLT, Nat.reduceLeDiff, Nat.reduceEqDiff, Nat.reduceBEq, reduceCtorEq, Int.reduceLT, Int.reduceLE, Int.reduceEq, Int.reduceGT, Int.reduceGE, Int.reduceToNat, Int.reduceNeg, hal, decide_eq_false p1, decide_eq_false p2, decide_eq_true p3]
    exact no fun h => by have := h.2.2.1; omega
  by_cases p4 : main ≥ ((l.length : Nat) : Int)
  · simp -implicitDefEqProofs only [go_sem, Nat.reduceAdd, Nat.reduceMul, Nat.reduceLT, Nat.reduceLeDiff, Nat.reduceEqDiff, Nat.reduceBEq, reduceCtorEq, Int.reduceLT, Int.reduceLE, Int.reduceEq, Int.reduceGT, Int.reduceGE, Int.reduceToNat, Int.reduceNeg, hal, decide_eq_false p1, decide_eq_false p2, decide_eq_false p3, decide_eq_true p4]
    exact no fun h => by have := h.2.2.2.1; omega
  obtain ⟨b, o, c, q1, q2, _, _, q5, q6, _⟩ := codes_at hl (n := main) (by omega) (by omega)
  have hpa : paramsAt l main = c.params := by simp [paramsAt, q1]
  have haa : answersAt l main = c.answers := by simp [answersAt, q1]
  by_cases p5 : c.params = 0
  · cases p6 : c.answers
    · rw [p6] at q6
      simp -implicitDefEqProofs only [go_sem, Nat.reduceAdd, Nat.reduceMul, Nat.reduceLT, Nat.reduceLeDiff, Nat.reduceEqDiff, Nat.reduceBEq, reduceCtorEq, Int.reduceLT, Int.reduceLE, Int.reduceEq, Int.reduceGT, Int.reduceGE, Int.reduceToNat, Int.reduceNeg, hal, decide_eq_false p1, decide_eq_false p2, decide_eq_false p3, decide_eq_false p4, q2, q5, q6, decide_eq_true p5]
      refine Ret.then (sound_loop d hw hT hl ⟨?_, ?_, ?_, .refl hw, fun k hk => absurd hk (Nat.not_lt_zero _)⟩) ?_
      · simp -implicitDefEqProofs only [go_sem, Nat.reduceAdd, Nat.reduceMul, Nat.reduceLT, Nat.reduceLeDiff, Nat.reduceEqDiff, Nat.reduceBEq, reduceCtorEq, Int.reduceLT, Int.reduceLE, Int.reduceEq, Int.reduceGT, Int.reduceGE, Int.reduceToNat, Int.reduceNeg]
      · simp -implicitDefEqProofs only [go_sem, Nat.reduceAdd, Nat.reduceMul, Nat.reduceLT, Nat.reduceLeDiff, Nat.reduceEqDiff, Nat.reduceBEq, reduceCtorEq, Int.reduceLT, Int.reduceLE, Int.reduceEq, Int.reduceGT, Int.reduceGE, Int.reduceToNat, Int.reduceNeg]
      · simp -implicitDefEqProofs only [go_sem, Nat.reduceAdd, Nat.reduceMul, Nat.reduceLT, Nat.reduceLeDiff, Nat.reduceEqDiff, Nat.reduceBEq, reduceCtorEq, Int.reduceLT, Int.reduceLE, Int.reduceEq, Int.reduceGT, Int.reduceGE, Int.reduceToNat, Int.reduceNeg]
        rfl
      · rintro ⟨e, T, H1⟩ ⟨hx, ⟨rfl, hall⟩ | ⟨rfl, h4, hno⟩⟩
        · simp only at hx
          simp -implicitDefEqProofs only [go_sem, Nat.reduceAdd, Nat.reduceMul, Nat.reduceLT, Nat.reduceLeDiff, Nat.reduceEqDiff, Nat.reduceBEq, reduceCtorEq, Int.reduceLT, Int.reduceLE, Int.reduceEq, Int.reduceGT, Int.reduceGE, Int.reduceToNat, Int.reduceNeg]
          exact .mk ⟨hx, true, rfl, by simp only [true_iff]; exact ⟨by omega, by omega, by omega, by omega, by rw [hpa, p5], by rw [haa, p6], hall⟩⟩
        · simp only at hx h4
          simp -implicitDefEqProofs only [go_sem, Nat.reduceAdd, Nat.reduceMul, Nat.reduceLT, Nat.reduceLeDiff, Nat.reduceEqDiff, Nat.reduceBEq, reduceCtorEq, Int.reduceLT, Int.reduceLE, Int.reduceEq, Int.reduceGT, Int.reduceGE, Int.reduceToNat, Int.reduceNeg, h4]
          exact .mk ⟨hx, false, rfl, by simp only [Bool.false_eq_true, false_iff]; exact fun h => hno h.2.2.2.2.2.2⟩
    · rw [p6] at q6
      simp -implicitDefEqProofs only [go_sem, Nat.reduceAdd, Nat.reduceMul, Nat.reduceLT, Nat.reduceLeDiff, Nat.reduceEqDiff, Nat.reduceBEq, reduceCtorEq, Int.reduceLT, Int.reduceLE, Int.reduceEq, Int.reduceGT, Int.reduceGE, Int.reduceToNat, Int.reduceNeg, hal, decide_eq_false p1, decide_eq_false p2, decide_eq_false p3, decide_eq_false p4, q2, q5, q6, decide_eq_true p5]
      exact no fun h => by have := h.2.2.2.2.2.1; rw [haa, p6] at this; cases this
  · simp -implicitDefEqProofs only [go_sem, Nat.reduceAdd, Nat.reduceMul, Nat.reduceLT, Nat.reduceLeDiff, Nat.reduceEqDiff, Nat.reduceBEq, reduceCtorEq, Int.reduceLT, Int.reduceLE, Int.reduceEq, Int.reduceGT, Int.reduceGE, Int.reduceToNat, Int.reduceNeg, hal, decide_eq_false p1, decide_eq_false p2, decide_eq_false p3, decide_eq_false p4, q2, q5, decide_eq_false p5]
    exact no fun h => p5 (by rw [← hpa]; exact h.2.2.2.2.1)

/-! ### How great -/
theorem Size_spec (d : Nat) {H : AH} {ls : AV} {l : List Code} (hl : CodesRow H ls l) (most : Int) : Ret (RT (d + 1) 26 [ls, .int .i64 most] H) fun r => (∃ n, r.1 = .int .i64 n) ∧ r.2 = H := by
  rw [R26]
  unfold F26
  have hfew := hl.few
  have hal := hl.alen
  refine Ret.then (Q' := fun r => r.1 = .exit 0 ∧ (∃ n, r.2.1 5 = .int .i64 n) ∧ r.2.2 = H) (Ret.upTo (n := l.length) (fun i t => t.1 0 = ls ∧ t.1 1 = .int .i64 most ∧ (∃ n, t.1 5 = .int .i64 n) ∧ t.1 6 = .int .i64 (i : Nat) ∧ t.2 = H) (by unfold big; omega) ⟨?_, ?_, ⟨0, ?_⟩, ?_, rfl⟩ ?_ ?_) ?_
  · simp -implicitDefEqProofs only [go_sem, Nat.reduceAdd, Nat.reduceMul, Nat.reduceLT, Nat.reduceLeDiff, Nat.reduceEqDiff, Nat.reduceBEq, reduceCtorEq, Int.reduceLT, Int.reduceLE, Int.reduceEq, Int.reduceGT, Int.reduceGE, Int.reduceToNat, Int.reduceNeg]
  · simp -implicitDefEqProofs only [go_sem, Nat.reduceAdd, Nat.reduceMul, Nat.reduceLT, Nat.reduceLeDiff, Nat.reduceEqDiff, Nat.reduceBEq, reduceCtorEq, Int.reduceLT, Int.reduceLE, Int.reduceEq, Int.reduceGT, Int.reduceGE, Int.reduceToNat, Int.reduceNeg]
  · simp -implicitDefEqProofs only [go_sem, Nat.reduceAdd, Nat.reduceMul, Nat.reduceLT, Nat.reduceLeDiff, Nat.reduceEqDiff, Nat.reduceBEq, reduceCtorEq, Int.reduceLT, Int.reduceLE, Int.reduceEq, Int.reduceGT, Int.reduceGE, Int.reduceToNat, Int.reduceNeg]
  · simp -implicitDefEqProofs only [go_sem, Nat.reduceAdd, Nat.reduceMul, Nat.reduceLT, Nat.reduceLeDiff, Nat.reduceEqDiff, Nat.reduceBEq, reduceCtorEq, Int.reduceLT, Int.reduceLE, Int.reduceEq, Int.reduceGT, Int.reduceGE, Int.reduceToNat, Int.reduceNeg]
    rfl
  · rintro i ⟨T1, H2⟩ hi ⟨t0, t1, ⟨n, t5⟩, t6, hH⟩
    simp only at t0 t1 t5 t6 hH
    subst hH
    have hcmp : decide (((i : Nat) : Int) < ((l.length : Nat) : Int)) = true := decide_eq_true (by omega)
    obtain ⟨b, o, c, q1, q2, ⟨s, _, q4, q3⟩, _⟩ := codes_at hl (n := ((i : Nat) : Int)) (by omega) (by omega)
    have hia := q4.alen
    unfold F26_L0
    by_cases hle : n ≤ most
    · rw [Nat.add_zero] at q3
      simp -implicitDefEqProofs only [go_sem, Nat.reduceAdd, Nat.reduceMul, Nat.reduceLT, Nat.reduceLeDiff, Nat.reduceEqDiff, Nat.reduceBEq, reduceCtorEq, Int.reduceLT, Int.reduceLE, Int.reduceEq, Int.reduceGT, Int.reduceGE, Int.reduceToNat, Int.reduceNeg, t0, t1, t5, t6, hal, hcmp, decide_eq_true hle, q2, q3, hia, wrapS (i := i) (by omega)]
      refine .mk (.inl ⟨rfl, ?_, ?_, ?_, ?_, rfl⟩)
      · simp -implicitDefEqProofs only [go_sem, Nat.reduceAdd, Nat.reduceMul, Nat.reduceLT, Nat.reduceLeDiff, Nat.reduceEqDiff, Nat.reduceBEq, reduceCtorEq, Int.reduceLT, Int.reduceLE, Int.reduceEq, Int.reduceGT, Int.reduceGE, Int.reduceToNat, Int.reduceNeg, t0]
      · simp -implicitDefEqProofs only [go_sem, Nat.reduceAdd, Nat.reduceMul, Nat.reduceLT, Nat.reduceLeDiff, Nat.reduceEqDiff, Nat.reduceBEq, reduceCtorEq, Int.reduceLT, Int.reduceLE, Int.reduceEq, Int.reduceGT, Int.reduceGE, Int.reduceToNat, Int.reduceNeg, t1]
      · simp -implicitDefEqProofs only [go_sem, Nat.reduceAdd, Nat.reduceMul, Nat.reduceLT, Nat.reduceLeDiff, Nat.reduceEqDiff, Nat.reduceBEq, reduceCtorEq, Int.reduceLT, Int.reduceLE, Int.reduceEq, Int.reduceGT, Int.reduceGE, Int.reduceToNat, Int.reduceNeg]
        exact ⟨_, rfl⟩
      · simp -implicitDefEqProofs only [go_sem, Nat.reduceAdd, Nat.reduceMul, Nat.reduceLT, Nat.reduceLeDiff, Nat.reduceEqDiff, Nat.reduceBEq, reduceCtorEq, Int.reduceLT, Int.reduceLE, Int.reduceEq, Int.reduceGT, Int.reduceGE, Int.reduceToNat, Int.reduceNeg]
    · simp -implicitDefEqProofs only [go_sem, Nat.reduceAdd, Nat.reduceMul, Nat.reduceLT, Nat.reduceLeDiff, Nat.reduceEqDiff, Nat.reduceBEq, reduceCtorEq, Int.reduceLT, Int.reduceLE, Int.reduceEq, Int.reduceGT, Int.reduceGE, Int.reduceToNat, Int.reduceNeg, t0, t1, t5, t6, hal, hcmp, decide_eq_false hle]
      refine .mk (.inr ⟨by simp, rfl, ⟨n, ?_⟩, rfl⟩)
      simp -implicitDefEqProofs only [go_sem, Nat.reduceAdd, Nat.reduceMul, Nat.reduceLT, Nat.reduceLeDiff, Nat.reduceEqDiff, Nat.reduceBEq, reduceCtorEq, Int.reduceLT, Int.reduceLE, Int.reduceEq, Int.reduceGT, Int.reduceGE, Int.reduceToNat, Int.reduceNeg, t5]
  · rintro ⟨T1, H2⟩ ⟨t0, t1, ⟨n, t5⟩, t6, hH⟩
    simp only at t0 t1 t5 t6 hH
    have hcmp : decide (((l.length : Nat) : Int) < ((l.length : Nat) : Int)) = false := decide_eq_false (by omega)
    unfold F26_L0
    simp -implicitDefEqProofs only [go_sem, Nat.reduceAdd, Nat.reduceMul, Nat.reduceLT, Nat.reduceLeDiff, Nat.reduceEqDiff, Nat.reduceBEq, reduceCtorEq, Int.reduceLT, Int.reduceLE, Int.reduceEq, Int.reduceGT, Int.reduceGE, Int.reduceToNat, Int.reduceNeg, t0, t6, hal, hcmp]
    refine .mk ⟨by simp, rfl, ⟨n, ?_⟩, hH⟩
    simp -implicitDefEqProofs only [go_sem, Nat.reduceAdd, Nat.reduceMul, Nat.reduceLT, Nat.reduceLeDiff, Nat.reduceEqDiff, Nat.reduceBEq, reduceCtorEq, Int.reduceLT, Int.reduceLE, Int.reduceEq, Int.reduceGT, Int.reduceGE, Int.reduceToNat, Int.reduceNeg, t5]
  · rintro ⟨e, T1, H2⟩ ⟨rfl, ⟨n, t5⟩, hH⟩
    simp only at t5 hH
    simp -implicitDefEqProofs only [go_sem, Nat.reduceAdd, Nat.reduceMul, Nat.reduceLT, Nat.reduceLeDiff, Nat.reduceEqDiff, Nat.reduceBEq, reduceCtorEq, Int.reduceLT, Int.reduceLE, Int.reduceEq, Int.reduceGT, Int.reduceGE, Int.reduceToNat, Int.reduceNeg, t5]
    exact .mk ⟨⟨n, rfl⟩, hH⟩
theorem great_spec (d : Nat) {H : AH} {ls : AV} {l : List Code} (hl : CodesRow H ls l) : Ret (RT (d + 2) 25 [ls] H) fun r => (∃ b, r.1 = .bool b) ∧ r.2 = H := by
  rw [R25]
  unfold F25
  obtain ⟨⟨v1, H1⟩, h1, ⟨n1, hn1⟩, hH1⟩ := Size_spec d hl 1500
  obtain ⟨⟨v2, H2⟩, h2, ⟨n2, hn2⟩, hH2⟩ := Size_spec d hl 70000
  simp only at hn1 hH1 hn2 hH2
  subst hn1 hH1 hn2 hH2
  have hal := hl.alen
  by_cases p1 : n1 > 1500
  · by_cases p2 : n2 ≤ 70000
    · simp -implicitDefEqProofs only [go_sem, Nat.reduceAdd, Nat.reduceMul, Nat.reduceLT, Nat.reduceLeDiff, Nat.reduceEqDiff, Nat.reduceBEq, reduceCtorEq, Int.reduceLT, Int.reduceLE, Int.reduceEq, Int.reduceGT, Int.reduceGE, Int.reduceToNat, Int.reduceNeg, h1, h2, decide_eq_true p1, decide_eq_true p2]
      exact .mk ⟨⟨_, rfl⟩, rfl⟩
    · simp -implicitDefEqProofs only [go_sem, Nat.reduceAdd, Nat.reduceMul, Nat.reduceLT, Nat.reduceLeDiff, Nat.reduceEqDiff, Nat.reduceBEq, reduceCtorEq, Int.reduceLT, Int.reduceLE, Int.reduceEq, Int.reduceGT, Int.reduceGE, Int.reduceToNat, Int.reduceNeg, h1, h2, hal, decide_eq_true p1, decide_eq_false p2]
      exact .mk ⟨⟨_, rfl⟩, rfl⟩
  · simp -implicitDefEqProofs only [go_sem, Nat.reduceAdd, Nat.reduceMul, Nat.reduceLT, Nat.reduceLeDiff, Nat.reduceEqDiff, Nat.reduceBEq, reduceCtorEq, Int.reduceLT, Int.reduceLE, Int.reduceEq, Int.reduceGT, Int.reduceGE, Int.reduceToNat, Int.reduceNeg, h1, h2, hal, decide_eq_false p1]
    exact .mk ⟨⟨_, rfl⟩, rfl⟩
end Go.Proofs.YthiflgncldmkjaaDoor
/- One code more: what is sound stays so. -/
set_option linter.unusedVariables false
set_option linter.unusedSimpArgs false
set_option maxRecDepth 100000
namespace Go.Ri
theorem Ext.res {N : Nat} {H0 H : AH} (h : Ext N H0 H) (n : Nat) : Ext N H0 (H.res n) := ⟨h.low, Nat.le_trans h.next (by simp), fun b B hB => Nat.lt_of_lt_of_le (h.wf b B hB) (by simp)⟩
end Go.Ri
namespace Go.Proofs.YthiflgncldmkjaaDoor
open Go.Ri

theorem may_call {l : List Code} {c : Code} {i : Ins} (hm : mayI l c i = true) (e : i.op = 19) : 0 ≤ i.n ∧ i.n < (l.length : Nat) ∧ 0 ≤ i.m ∧ i.m ≤ 8 ∧ i.m = paramsAt l i.n := by
  unfold mayI at hm
  split at hm
  · cases hm
  · simp [e] at hm
    omega
theorem paramsAt_more (l : List Code) (x : List Code) {n : Int} (h : n.toNat < l.length) : paramsAt (l ++ x) n = paramsAt l n ∧ answersAt (l ++ x) n = answersAt l n := by
  simp [paramsAt, answersAt, List.getElem?_append_left h]
theorem mayI_call {l : List Code} {c : Code} {i : Ins} (e : i.op = 19) : mayI l c i = if (lineOf i.op i.n i.m).isNone = true then false else decide (0 ≤ i.n) && decide (i.n < (l.length : Nat)) && decide (0 ≤ i.m) && decide (i.m ≤ 8) && decide (i.m = paramsAt l i.n) := by
  unfold mayI
  rw [if_neg (show ¬ (i.op = 2 ∨ i.op = 3) by omega), if_neg (show ¬ (i.op = 4 ∨ i.op = 5 ∨ i.op = 6) by omega), if_neg (show ¬ (i.op = 17 ∨ i.op = 18) by omega), if_pos e]
theorem mayI_more {l : List Code} {c : Code} {i : Ins} (hm : mayI l c i = true) (x : List Code) : mayI (l ++ x) c i = true := by
  by_cases e : i.op = 19
  · obtain ⟨h1, h2, h3, h4, h5⟩ := may_call hm e
    have hp := (paramsAt_more l x (n := i.n) (by omega)).1
    rw [mayI_call e] at hm ⊢
    split at hm
    · cases hm
    · rename_i h
      rw [if_neg h, hp]
      simp only [Bool.and_eq_true, decide_eq_true_eq, List.length_append]
      refine ⟨⟨⟨⟨h1, by omega⟩, h3⟩, h4⟩, h5⟩
  · unfold mayI at hm ⊢
    rw [if_neg e] at hm ⊢
    exact hm
theorem Good.more {l : List Code} {c : Code} {h : List Int} (g : Good l c h) (hmay : ∀ i ∈ c.ins, mayI l c i = true) (x : List Code) : Good (l ++ x) c h := by
  refine ⟨g.len, g.zero, fun a i y hi hy h0 => ?_, g.reach⟩
  have hm := hmay i (List.mem_of_getElem? hi)
  have htk : tk (l ++ x) i = tk l i := rfl
  have hlv : lv (l ++ x) i = lv l i := by
    unfold lv
    by_cases e : i.op = 19
    · obtain ⟨h1, h2, _⟩ := may_call hm e
      rw [if_pos e, if_pos e, (paramsAt_more l x (n := i.n) (by omega)).2]
    · rw [if_neg e, if_neg e]
  obtain ⟨h1, h2⟩ := g.step a i y hi hy h0
  exact ⟨h1, fun p hp => by rw [htk, hlv]; exact h2 p hp⟩
theorem Hts.more {l : List Code} {k : Int} {h : List Int} (g : Hts l k h) (x : List Code) : Hts (l ++ x) k h := by
  obtain ⟨c, h0, h1, h2, h3⟩ := g
  refine ⟨c, h0, ?_, ⟨h2.some_, h2.few, h2.cells, h2.params, fun i hi => mayI_more (h2.may i hi) x⟩, h3.more h2.may x⟩
  rw [List.getElem?_append_left (List.getElem?_eq_some_iff.1 h1).1]
  exact h1
theorem SoundP.more {l : List Code} {main : Int} (h : SoundP l main) (c : Code) (hl : (l ++ [c]).length ≤ 40) : SoundP (l ++ [c]) main ↔ ∃ g, Hts (l ++ [c]) ((l.length : Nat) : Int) g := by
  obtain ⟨h1, h2, h3, h4, h5, h6, h7⟩ := h
  constructor
  · intro hs
    exact hs.2.2.2.2.2.2 l.length (by simp)
  · intro hg
    have hm := paramsAt_more l [c] (n := main) (by omega)
    refine ⟨by simp, hl, h3, by simp; omega, by rw [hm.1, h5], by rw [hm.2, h6], fun k hk => ?_⟩
    by_cases hkl : k < l.length
    · obtain ⟨g, hg'⟩ := h7 k hkl
      exact ⟨g, hg'.more [c]⟩
    · have : k = l.length := by simp at hk; omega
      subst this
      exact hg

/-- A code more behind a row of codes. -/
theorem codes_more {N : Nat} {H : AH} {sv : AV} {rows : List (List AV)} {l : List Code} {x : List AV} {c : Code} (hown : Own N 4 24 H sv (rows.flatten ++ x)) (hr : ∀ x ∈ rows, x.length = 4) (hl : rows.length = l.length)
    (hc : ∀ i (h : i < rows.length) (h' : i < l.length), CodeAt H rows[i] l[i]) (hx : CodeAt H x c) (hfew : l.length + 1 ≤ 9223372036854775807) : CodesRow H sv (l ++ [c]) := by
  have hx4 : x.length = 4 := by obtain ⟨s, rfl, _⟩ := hx; rfl
  have e : rows.flatten ++ x = (rows ++ [x]).flatten := by simp
  rw [e] at hown
  refine ⟨rows ++ [x], hown.row (by omega) fun y hy => ?_, ⟨by simp [hl], by simpa using hfew⟩, fun i h h' => ?_⟩
  · simp only [List.mem_append, List.mem_cons, List.not_mem_nil, or_false] at hy
    rcases hy with hy | rfl
    · exact hr y hy
    · exact hx4
  · by_cases hi : i < l.length
    · rw [List.getElem_append_left (by omega), List.getElem_append_left hi]
      exact hc i (by omega) hi
    · have : i = l.length := by simp at h'; omega
      subst this
      rw [List.getElem_append_right (by omega), List.getElem_append_right (Nat.le_refl _)]
      simp only [hl, Nat.sub_self, List.getElem_cons_zero]
      exact hx

theorem aBin_bool (a b : Bool) : aBin Tryd.prog .eql 4 (.bool a) (.bool b) = some (.bool (a == b)) := by kernel_rfl
theorem law_more (d : Nat) {H : AH} (hw : H.wf) (hT : Tabs H) {ls : AV} {l : List Code} (hl : CodesRow H ls l) (hbig : l.length * 48 ≤ 140737488351232) {main : Int} (hm : InI main) {x : List AV} {c : Code} (hx : CodeAt H x c) :
    Ret (RT (d + 6) 5 [ls, .int .i64 main, .agg x] H) fun r => r.1 = .bool true := by
  rw [R5]
  unfold F5
  obtain ⟨s, rfl, hxr⟩ := hx
  have hx : CodeAt H [s, .int .i64 c.cells, .int .i64 c.params, .bool c.answers] c := ⟨s, rfl, hxr⟩
  have hx1 : Ext H.next H (H.new [s, .int .i64 c.cells, .int .i64 c.params, .bool c.answers] 24) := (Ext.refl hw).new _ _
  have hx2 := hx1.res 1
  have hl0 := hl
  obtain ⟨rows, hrow, ⟨hrn, _⟩, hrc⟩ := hl
  obtain ⟨hs1, hs2⟩ := (hrow.mono (hx2.sub hw)).src
  have hs3 := flat_len rows hrow.len
  have happ := app_own (n := rows.length) (x := ls) (ds := rows.flatten) ysl36 ysl36.seq (Own.nil (H.next + 2) 4 24 ((H.new [s, .int .i64 c.cells, .int .i64 c.params, .bool c.answers] 24).res 1)) (Ext.self hx2.wf (by simp)) hs1 hs2 hs3 (by simp [hs3]; omega)
  obtain ⟨⟨r1, H1⟩, ha1, g1, g2, g3, g4, g5⟩ := happ
  simp only at g1 g2 g3 g4 g5
  simp only [List.nil_append] at g1
  have hnil : ∀ b, ¬ At (.slice none 0 (.kn 0)) b := fun b ⟨n, c, h⟩ => by cases h
  have hbox : H1.m H.next = some ⟨[s, .int .i64 c.cells, .int .i64 c.params, .bool c.answers], 24, true⟩ := by rw [g2.low _ (by omega)]; simp
  have hx3 : Ext H.next H H1 := hx2.trans (g2.less (by omega)) (Nat.le_refl _)
  -- the new element
  have hn2 : H.next + 2 ≤ H1.next := by simpa using g3
  have hx4 : Ext H.next H (H1.put (H.next + 1) ⟨[s, .int .i64 c.cells, .int .i64 c.params, .bool c.answers], 24, true⟩) := hx3.put (by omega) (by omega) _
  have g1' := g1.put (b := H.next + 1) (fun h => by rcases g5 _ h with h | h; exact hnil _ h; simp at h; omega) ⟨[s, .int .i64 c.cells, .int .i64 c.params, .bool c.answers], 24, true⟩
  obtain ⟨⟨r2, H2⟩, ha2, k1, k2, k3, k4, k5⟩ := app_own (n := 1) (x := .slice (some (H.next + 1, 0)) 1 (.kn 1)) (ds := [s, .int .i64 c.cells, .int .i64 c.params, .bool c.answers]) ysl36 ysl36.seq (g1'.low (Nat.le_add_right _ 2)) hx4 rfl (by simp [srcN, AH.ldN]) rfl (by simp [hs3]; omega)
  simp only at k1 k2 k3 k4 k5
  have hc2 : CodesRow H2 r2 (l ++ [c]) := codes_more k1 hrow.len hrn (fun i h h' => (hrc i h h').mono (k2.sub hw)) (hx.mono (k2.sub hw)) (by omega)
  have hT2 := hT.ext k2 hT.two
  have hl2 := hl0.mono (k2.sub hw)
  obtain ⟨⟨v3, H3⟩, h25, ⟨b3, hb3⟩, hH3⟩ := great_spec (d + 3) hc2
  simp only at hb3 hH3
  subst hb3 hH3
  obtain ⟨⟨v4, H4⟩, h26, ⟨n4, hn4⟩, hH4⟩ := Size_spec (d + 4) hc2 70000
  simp only at hn4 hH4
  subst hn4 hH4
  have hal2 := hc2.alen
  obtain ⟨⟨v5, H5⟩, h27, hx5, b5, hb5, hs5⟩ := Sound_spec d k2.wf hT2 hl2 hm
  simp only at hb5 hx5
  subst hb5
  have hx25 : Ext H.next H H5 := k2.trans hx5 k2.next
  have fin : ∀ G : AH, Ext H.next H G → RT (d + 5) 22 [] G = some (.bool true, G) := fun G hG => RT_22 _ (hT.ext hG hT.two)
  have hcell : ∀ G : AH, G.m H.next = some ⟨[s, .int .i64 c.cells, .int .i64 c.params, .bool c.answers], 24, true⟩ → (G.m H.next).bind (fun B => B.cells[0]?) = some s := fun G h => by rw [h]; rfl
  cases b3
  · by_cases p1 : n4 > 70000
    · simp -implicitDefEqProofs only [go_sem, Nat.reduceAdd, Nat.reduceMul, Nat.reduceLT, Nat.reduceLeDiff, Nat.reduceEqDiff, Nat.reduceBEq, reduceCtorEq, Int.reduceLT, Int.reduceLE, Int.reduceEq, Int.reduceGT, Int.reduceGE, Int.reduceToNat, Int.reduceNeg, ha1, hbox, ha2, h25, h26, decide_eq_true p1, fin _ k2]
      exact .mk rfl
    · by_cases p2 : (((l ++ [c]).length : Nat) : Int) > 40
      · simp -implicitDefEqProofs only [go_sem, Nat.reduceAdd, Nat.reduceMul, Nat.reduceLT, Nat.reduceLeDiff, Nat.reduceEqDiff, Nat.reduceBEq, reduceCtorEq, Int.reduceLT, Int.reduceLE, Int.reduceEq, Int.reduceGT, Int.reduceGE, Int.reduceToNat, Int.reduceNeg, ha1, hbox, ha2, h25, h26, decide_eq_false p1, hal2, decide_eq_true p2, fin _ k2]
        exact .mk rfl
      · cases b5
        · simp -implicitDefEqProofs only [go_sem, Nat.reduceAdd, Nat.reduceMul, Nat.reduceLT, Nat.reduceLeDiff, Nat.reduceEqDiff, Nat.reduceBEq, reduceCtorEq, Int.reduceLT, Int.reduceLE, Int.reduceEq, Int.reduceGT, Int.reduceGE, Int.reduceToNat, Int.reduceNeg, ha1, hbox, ha2, h25, h26, decide_eq_false p1, hal2, decide_eq_false p2, h27, fin _ hx25]
          exact .mk rfl
        · have hsl : SoundP l main := hs5.1 rfl
          have hc5 := hc2.mono (hx5.sub k2.wf)
          have hal5 := hl0.alen
          obtain ⟨⟨v6, H6⟩, h28, hx6, hr6⟩ := Heights_spec (d + 1) hx25.wf (hT.ext hx25 hT.two) hc5 (k := ((l.length : Nat) : Int)) (by unfold InI; omega)
          simp only at hx6 hr6
          have hx26 : Ext H.next H H6 := hx25.trans hx6 hx25.next
          obtain ⟨⟨v7, H7⟩, h27', hx7, b7, hb7, hs7⟩ := Sound_spec d hx26.wf (hT.ext hx26 hT.two) (hc5.mono (hx6.sub hx25.wf)) hm
          simp only at hb7 hx7
          subst hb7
          have hx27 : Ext H.next H H7 := hx26.trans hx7 hx26.next
          have hiff := hsl.more c (by omega)
          rcases hr6 with ⟨hs6, h6, rfl, _, hh6⟩ | ⟨rfl, hno⟩
          · have hb : b7 = true := hs7.2 (hiff.2 ⟨h6, hh6⟩)
            subst hb
            simp -implicitDefEqProofs only [go_sem, Nat.reduceAdd, Nat.reduceMul, Nat.reduceLT, Nat.reduceLeDiff, Nat.reduceEqDiff, Nat.reduceBEq, reduceCtorEq, Int.reduceLT, Int.reduceLE, Int.reduceEq, Int.reduceGT, Int.reduceGE, Int.reduceToNat, Int.reduceNeg, ha1, hbox, ha2, h25, h26, decide_eq_false p1, hal2, decide_eq_false p2, h27, hal5, h28, h27', aBin_bool, fin _ hx27]
            exact .mk rfl
          · have hb : b7 = false := by
              cases b7
              · rfl
              · exact absurd (hiff.1 (hs7.1 rfl)) hno
            subst hb
            simp -implicitDefEqProofs only [go_sem, Nat.reduceAdd, Nat.reduceMul, Nat.reduceLT, Nat.reduceLeDiff, Nat.reduceEqDiff, Nat.reduceBEq, reduceCtorEq, Int.reduceLT, Int.reduceLE, Int.reduceEq, Int.reduceGT, Int.reduceGE, Int.reduceToNat, Int.reduceNeg, ha1, hbox, ha2, h25, h26, decide_eq_false p1, hal2, decide_eq_false p2, h27, hal5, h28, h27', aBin_bool, fin _ hx27]
            exact .mk rfl
  · simp -implicitDefEqProofs only [go_sem, Nat.reduceAdd, Nat.reduceMul, Nat.reduceLT, Nat.reduceLeDiff, Nat.reduceEqDiff, Nat.reduceBEq, reduceCtorEq, Int.reduceLT, Int.reduceLE, Int.reduceEq, Int.reduceGT, Int.reduceGE, Int.reduceToNat, Int.reduceNeg, ha1, hbox, ha2, h25, fin _ k2]
    exact .mk rfl
end Go.Proofs.YthiflgncldmkjaaDoor
/- So many instructions, and one more. -/
set_option linter.unusedVariables false
set_option linter.unusedSimpArgs false
set_option maxRecDepth 100000
namespace Go.Ri
/-- The block of a slice of one's own that is not empty. -/
theorem Own.blk {N sz : Nat} {e : TypeId} {H : AH} {s : AV} {cs : List AV} (h : Own N sz e H s cs) (hw : H.wf) (hne : 0 < cs.length) :
    ∃ b B n, At s b ∧ N ≤ b ∧ b < H.next ∧ H.m b = some B ∧ B.rw_ = true ∧ cs.length = n * sz ∧ n * sz ≤ B.cells.length ∧ B.cells.take (n * sz) = cs ∧ (∀ k (i : Nat), i < n → idxSl s (.int k (i : Nat)) sz = some (.ptr (some (b, i * sz)))) ∧
      ∀ B' : Blk, B'.elem = B.elem → B'.rw_ = true → B'.cells.length = B.cells.length → Own N sz e (H.put b B') s (B'.cells.take (n * sz)) := by
  rcases h with ⟨_, rfl⟩ | ⟨b, n, c, B, rfl, hc, hcl, hb, hbe, hbr, hbl, htk, hN⟩
  · simp at hne
  · refine ⟨b, B, n, ⟨_, _, rfl⟩, hN, hw _ _ hb, hb, hbr, hcl, hbl, htk, fun k i hi => ?_, fun B' h1 h2 h3 => ?_⟩
    · simp [idxSl]; omega
    · refine .inr ⟨b, n, c, B', rfl, ?_, by rw [List.length_take]; omega, by simp, h1.trans hbe, h2, by omega, rfl, hN⟩
      rcases hc with h | ⟨m, q1, q2, q3⟩
      · exact .inl h
      · exact .inr ⟨m, q1, q2, by omega⟩
end Go.Ri
namespace Go.Proofs.YthiflgncldmkjaaDoor
open Go.Ri

def clr : Ins := ⟨6, 0, 1⟩
def lev : Ins := ⟨20, 0, 0⟩
def jmp (n : Nat) : Ins := ⟨17, ((n : Nat) : Int), 0⟩
/-- The code of the law: n + 1 instructions, the first of them a jump or not. -/
def longI (n : Nat) (j : Bool) : List Ins := (if j = true then jmp n :: List.replicate (n - 1) clr else List.replicate n clr) ++ [lev]
def longC (n : Nat) (j : Bool) : Code := ⟨longI n j, 1, 0, false⟩
theorem longI_len {n : Nat} (h : 1 ≤ n) (j : Bool) : (longI n j).length = n + 1 := by
  unfold longI
  split <;> simp <;> omega
theorem longI_last {n : Nat} (h : 1 ≤ n) (j : Bool) : (longI n j)[n]? = some lev := by
  unfold longI
  split
  · rw [List.getElem?_append_right (by simp; omega)]
    simp
    have : n - (n - 1 + 1) = 0 := by omega
    rw [this]
    rfl
  · rw [List.getElem?_append_right (by simp)]
    simp
theorem longI_mid {n a : Nat} (j : Bool) (ha : a < n) (h : j = true → 0 < a) : (longI n j)[a]? = some clr := by
  unfold longI
  cases j
  · rw [if_neg (by simp), List.getElem?_append_left (by simpa using ha), List.getElem?_replicate, if_pos ha]
  · have := h rfl
    obtain ⟨b, rfl⟩ : ∃ b, a = b + 1 := ⟨a - 1, by omega⟩
    rw [if_pos rfl, List.getElem?_append_left (by simp; omega), List.getElem?_cons_succ, List.getElem?_replicate, if_pos (by omega)]
theorem longI_first {n : Nat} (h : 1 ≤ n) : (longI n true)[0]? = some (jmp n) := rfl
theorem line_clr : (lineOf 6 0 1).isNone = false := by rfl
theorem line_lev : (lineOf 20 0 0).isNone = false := by rfl
theorem line_jmp (n : Int) : (lineOf 17 n 0).isNone = false := by
  unfold lineOf
  rw [if_neg (by omega), if_neg (by simp [nums])]
  rfl
theorem may_long {n : Nat} (h : 1 ≤ n) (j : Bool) : ∀ i ∈ longI n j, mayI [longC n j] (longC n j) i = true := by
  have hl := longI_len h j
  intro i hi
  have : i = clr ∨ i = lev ∨ i = jmp n := by
    unfold longI at hi
    split at hi
    · simp only [List.cons_append, List.mem_cons, List.mem_append, List.mem_replicate, List.not_mem_nil, or_false] at hi
      rcases hi with h | h | h
      · exact .inr (.inr h)
      · exact .inl h.2
      · exact .inr (.inl h)
    · simp only [List.mem_append, List.mem_replicate, List.mem_cons, List.not_mem_nil, or_false] at hi
      rcases hi with h | h
      · exact .inl h.2
      · exact .inr (.inl h)
  rcases this with rfl | rfl | rfl
  · unfold mayI clr
    simp only [line_clr]
    simp [within, longC]
  · unfold mayI lev
    simp only [line_lev]
    simp [longC]
  · unfold mayI jmp
    simp only [line_jmp]
    simp [longC, hl]
    omega
theorem tk_clr (l : List Code) : tk l clr = 0 ∧ lv l clr = 0 := by constructor <;> rfl
theorem own_long {n : Nat} (h : 1 ≤ n) (hn : n + 1 ≤ 65536) (j : Bool) : OwnOk [longC n j] (longC n j) :=
  ⟨by simp only [longC, longI_len h]; omega, by simp only [longC, longI_len h]; omega, by simp [longC], by simp [longC], may_long h j⟩
theorem good_plain {n : Nat} (h : 1 ≤ n) : Good [longC n false] (longC n false) (List.replicate (n + 1) 0) := by
  have hl := longI_len h false
  have hz : ∀ (a : Nat) (x : Int), (List.replicate (n + 1) (0 : Int))[a]? = some x → a < n + 1 ∧ x = 0 := by
    intro a x hx
    rw [List.getElem?_replicate] at hx
    split at hx
    · cases hx; exact ⟨by assumption, rfl⟩
    · cases hx
  refine ⟨by simp [longC, hl], by rw [List.getElem?_replicate, if_pos (by omega)], fun a i x hi hx h0 => ?_, fun a x hx => ?_⟩
  · obtain ⟨ha, rfl⟩ := hz a x hx
    by_cases han : a < n
    · have := longI_mid false han (by simp)
      simp only [longC] at hi
      rw [this] at hi
      cases hi
      refine ⟨⟨by rw [(tk_clr _).1]; omega, by omega, fun e => by simp [clr] at e, fun e => by simp [clr] at e⟩, fun p hp => ?_⟩
      simp [nextI, clr] at hp
      subst hp
      refine ⟨a + 1, by omega, ?_⟩
      rw [(tk_clr _).1, (tk_clr _).2, List.getElem?_replicate, if_pos (by omega)]
      rfl
    · have : a = n := by omega
      subst this
      simp only [longC, longI_last h] at hi
      cases hi
      refine ⟨⟨by simp [tk, lev], by omega, fun _ => by simp [tk, lev], fun e => by simp [lev] at e⟩, fun p hp => by simp [nextI, lev] at hp⟩
  · obtain ⟨ha, rfl⟩ := hz a x hx
    refine .inr ⟨by omega, ?_⟩
    induction a with
    | zero => exact .zero
    | succ a ih =>
      refine .step (ih (by omega) (by rw [List.getElem?_replicate, if_pos (by omega)])) (i := clr) (longI_mid false (by omega) (by simp)) ?_
      simp [nextI, clr]
def jumpH (n : Nat) : List Int := ((List.replicate (n + 1) (-1)).set 0 0).set n 0
theorem jumpH_at {n : Nat} (h : 1 ≤ n) (a : Nat) : (jumpH n)[a]? = if a = 0 ∨ a = n then some 0 else if a < n then some (-1) else none := by
  unfold jumpH
  rw [List.getElem?_set]
  split
  · rename_i e; subst e; simp
  · rw [List.getElem?_set]
    split
    · rename_i e; subst e; simp
    · rw [List.getElem?_replicate, if_neg (by omega : ¬ (a = 0 ∨ a = n))]
      by_cases q : a < n
      · rw [if_pos (by omega), if_pos q]
      · rw [if_neg (by omega), if_neg q]
theorem good_jump {n : Nat} (h : 1 ≤ n) : Good [longC n true] (longC n true) (jumpH n) := by
  have hl := longI_len h true
  refine ⟨by simp [longC, hl, jumpH], by rw [jumpH_at h]; simp, fun a i x hi hx h0 => ?_, fun a x hx => ?_⟩
  · rw [jumpH_at h] at hx
    by_cases ha : a = 0 ∨ a = n
    · rw [if_pos ha] at hx
      cases hx
      by_cases ha0 : a = 0
      · subst ha0
        simp only [longC, longI_first h] at hi
        cases hi
        refine ⟨⟨by simp [tk, jmp]; decide, by omega, fun e => by simp [jmp] at e, fun e => by simp [jmp] at e⟩, fun p hp => ?_⟩
        simp [nextI, jmp] at hp
        subst hp
        refine ⟨n, rfl, ?_⟩
        rw [jumpH_at h, if_pos (.inr rfl)]
        rfl
      · have : a = n := by omega
        subst this
        simp only [longC, longI_last h] at hi
        cases hi
        refine ⟨⟨by simp [tk, lev], by omega, fun _ => by simp [tk, lev], fun e => by simp [lev] at e⟩, fun p hp => by simp [nextI, lev] at hp⟩
    · rw [if_neg ha] at hx
      split at hx
      · cases hx; omega
      · cases hx
  · rw [jumpH_at h] at hx
    by_cases ha : a = 0 ∨ a = n
    · rw [if_pos ha] at hx
      cases hx
      refine .inr ⟨by omega, ?_⟩
      rcases ha with rfl | rfl
      · exact .zero
      · exact .step .zero (i := jmp a) (longI_first h) (by simp [nextI, jmp])
    · rw [if_neg ha] at hx
      split at hx
      · cases hx; exact .inl rfl
      · cases hx
theorem sound_long {n : Nat} (h : 1 ≤ n) (j : Bool) : SoundP [longC n j] 0 ↔ n + 1 ≤ 65536 := by
  constructor
  · intro hs
    obtain ⟨g, c, _, h1, h2, _⟩ := hs.2.2.2.2.2.2 0 (by simp)
    simp at h1
    subst h1
    have := h2.few
    simp only [longC, longI_len h] at this
    exact this
  · intro hn
    refine ⟨by simp, by simp, by omega, by simp, rfl, rfl, fun k hk => ?_⟩
    have : k = 0 := by simpa using hk
    subst this
    cases j
    · exact ⟨_, longC n false, by omega, rfl, own_long h hn false, good_plain h⟩
    · exact ⟨_, longC n true, by omega, rfl, own_long h hn true, good_jump h⟩
end Go.Proofs.YthiflgncldmkjaaDoor
/- The document's small functions on codes: cells, may, effect, follow, shape. -/
set_option linter.unusedVariables false
set_option linter.unusedSimpArgs false
set_option maxRecDepth 100000
namespace Go.Ri
theorem new_put1 (H : AH) (a cs cs' : List AV) (ea e e' : TypeId) : ((H.new a ea).new cs e).put (H.next + 1) ⟨cs', e', true⟩ = (H.new a ea).new cs' e' := new_put (H.new a ea) cs cs' e e'
end Go.Ri
namespace Go.Proofs.YthiflgncldmkjaaDoor
open Go.Ri

theorem cells_spec (d : Nat) {H : AH} {s : AV} {c : Code} (hc : InI c.cells) {n m : Int} (hn : InI n) (hm : InI m) :
    RT (d + 1) 119 [.agg [s, .int .i64 c.cells, .int .i64 c.params, .bool c.answers], .int .i64 n, .int .i64 m] H = some (.bool (within c n m), H.new [s, .int .i64 c.cells, .int .i64 c.params, .bool c.answers] 24) := by
  rw [R119]
  unfold F119
  by_cases h1 : n ≥ 0
  · by_cases h2 : m ≥ 1
    · by_cases h3 : m ≤ c.cells
      · have hw : IntKind.i64.wrap (c.cells - m) = c.cells - m := wrap_id (by unfold InI at *; omega)
        simp -implicitDefEqProofs only [go_sem, Nat.reduceAdd, Nat.reduceMul, Nat.reduceLT, Nat.reduceLeDiff, Nat.reduceEqDiff, Nat.reduceBEq, reduceCtorEq, Int.reduceLT, Int.reduceLE, Int.reduceEq, Int.reduceGT, Int.reduceGE, Int.reduceToNat, Int.reduceNeg, decide_eq_true h1, decide_eq_true h2, decide_eq_true h3, hw]
        have e : within c n m = decide (n ≤ c.cells - m) := by
          unfold within
          by_cases q : n ≤ c.cells - m
          · rw [decide_eq_true (show 0 ≤ n from h1), decide_eq_true (show 1 ≤ m from h2), decide_eq_true (show n ≤ c.cells by omega), decide_eq_true (show m ≤ c.cells - n by omega), decide_eq_true q]; rfl
          · rw [decide_eq_false q, decide_eq_false (show ¬ (m ≤ c.cells - n) by omega)]; simp
        rw [e]
      · simp -implicitDefEqProofs only [go_sem, Nat.reduceAdd, Nat.reduceMul, Nat.reduceLT, Nat.reduceLeDiff, Nat.reduceEqDiff, Nat.reduceBEq, reduceCtorEq, Int.reduceLT, Int.reduceLE, Int.reduceEq, Int.reduceGT, Int.reduceGE, Int.reduceToNat, Int.reduceNeg, decide_eq_true h1, decide_eq_true h2, decide_eq_false h3]
        have e : within c n m = false := by
          unfold within
          rw [decide_eq_false (show ¬ (m ≤ c.cells - n) by omega)]; simp
        rw [e]
    · simp -implicitDefEqProofs only [go_sem, Nat.reduceAdd, Nat.reduceMul, Nat.reduceLT, Nat.reduceLeDiff, Nat.reduceEqDiff, Nat.reduceBEq, reduceCtorEq, Int.reduceLT, Int.reduceLE, Int.reduceEq, Int.reduceGT, Int.reduceGE, Int.reduceToNat, Int.reduceNeg, decide_eq_true h1, decide_eq_false h2]
      have : ¬ (1 ≤ m) := h2
      simp [within, this]
  · simp -implicitDefEqProofs only [go_sem, Nat.reduceAdd, Nat.reduceMul, Nat.reduceLT, Nat.reduceLeDiff, Nat.reduceEqDiff, Nat.reduceBEq, reduceCtorEq, Int.reduceLT, Int.reduceLE, Int.reduceEq, Int.reduceGT, Int.reduceGE, Int.reduceToNat, Int.reduceNeg, decide_eq_false h1]
    have : ¬ (0 ≤ n) := h1
    simp [within, this]

theorem may_ref (d : Nat) {H : AH} (hw : H.wf) (hT : Tabs H) {ls s : AV} {l : List Code} {c : Code} (hcs : CodesRow H ls l) (hins : InsRow H s c.ins) (hcc : InI c.cells) {i : Ins} (hi : i.Ok) :
    Ret (RT (d + 2) 96 [ls, .agg [s, .int .i64 c.cells, .int .i64 c.params, .bool c.answers], .agg (insC i)] H) fun r => r.1 = .bool (mayI l c i) ∧ Ext H.next H r.2 := by
  rw [R96]
  unfold F96
  have hin : insC i = [.int .i64 i.op, .int .i64 i.n, .int .i64 i.m] := rfl
  have hx : Ext H.next H ((H.new [s, .int .i64 c.cells, .int .i64 c.params, .bool c.answers] 24).new (insC i) 29) := ((Ext.refl hw).new _ _).new _ _
  have hT1 := hT.ext hx hT.two
  have hcs1 := hcs.mono (hx.sub hw)
  have hins1 : InsRow _ s c.ins := ⟨hins.1.mono (hx.sub hw), hins.2⟩
  have hx2 := hx.new [s, .int .i64 c.cells, .int .i64 c.params, .bool c.answers] 24
  rw [hin] at hx hx2 hT1 hcs1 hins1 ⊢
  obtain ⟨op, n, m⟩ := i
  obtain ⟨ho, hn, hm⟩ := hi
  simp only at ho hn hm hx hx2 hT1 hcs1 hins1 ⊢
  have h63 := RT_63 (d + 1) (op := op) hn hm hT1
  have hal := hins1.alen
  have hcl := hcs1.alen
  rcases lineAV_of (i := ⟨op, n, m⟩) with ⟨hl, hv⟩ | ⟨t, hl, hv⟩
  · simp only at hl hv
    simp -implicitDefEqProofs only [go_sem, Nat.reduceAdd, Nat.reduceMul, Nat.reduceLT, Nat.reduceLeDiff, Nat.reduceEqDiff, Nat.reduceBEq, reduceCtorEq, Int.reduceLT, Int.reduceLE, Int.reduceEq, Int.reduceGT, Int.reduceGE, Int.reduceToNat, Int.reduceNeg, h63, hv]
    exact .mk ⟨by simp [mayI, hl], hx⟩
  · simp only at hl hv
    simp -implicitDefEqProofs only [go_sem, Nat.reduceAdd, Nat.reduceMul, Nat.reduceLT, Nat.reduceLeDiff, Nat.reduceEqDiff, Nat.reduceBEq, reduceCtorEq, Int.reduceLT, Int.reduceLE, Int.reduceEq, Int.reduceGT, Int.reduceGE, Int.reduceToNat, Int.reduceNeg, h63, hv]
    have hwn := fun (a b : Int) (ha : InI a) (hb : InI b) => cells_spec d (H := (H.new [s, .int .i64 c.cells, .int .i64 c.params, .bool c.answers] 24).new [.int .i64 op, .int .i64 n, .int .i64 m] 29) (s := s) hcc ha hb
    have hns : (lineOf op n m).isNone = false := by rw [hl]; rfl
    by_cases e2 : op = 2
    · subst e2
      simp -implicitDefEqProofs only [go_sem, Nat.reduceAdd, Nat.reduceMul, Nat.reduceLT, Nat.reduceLeDiff, Nat.reduceEqDiff, Nat.reduceBEq, reduceCtorEq, Int.reduceLT, Int.reduceLE, Int.reduceEq, Int.reduceGT, Int.reduceGE, Int.reduceToNat, Int.reduceNeg, F96_J3, hwn n 1 hn (by unfold InI; omega)]
      exact .mk ⟨by simp [mayI, hns], hx2⟩
    by_cases e3 : op = 3
    · subst e3
      simp -implicitDefEqProofs only [go_sem, Nat.reduceAdd, Nat.reduceMul, Nat.reduceLT, Nat.reduceLeDiff, Nat.reduceEqDiff, Nat.reduceBEq, reduceCtorEq, Int.reduceLT, Int.reduceLE, Int.reduceEq, Int.reduceGT, Int.reduceGE, Int.reduceToNat, Int.reduceNeg, F96_J3, hwn n 1 hn (by unfold InI; omega)]
      exact .mk ⟨by simp [mayI, hns], hx2⟩
    have hfin : (op = 4 ∨ op = 5 ∨ op = 6) → mayI l c ⟨op, n, m⟩ = (decide (m ≤ 64) && within c n m) := fun h => by
      rcases h with rfl | rfl | rfl <;> simp [mayI, hns]
    by_cases e4 : op = 4 ∨ op = 5 ∨ op = 6
    · have hf := hfin e4
      have hwn' := hwn n m hn hm
      cases hwb : within c n m
      · rw [hwb] at hwn'
        rcases e4 with rfl | rfl | rfl <;> simp -implicitDefEqProofs only [go_sem, Nat.reduceAdd, Nat.reduceMul, Nat.reduceLT, Nat.reduceLeDiff, Nat.reduceEqDiff, Nat.reduceBEq, reduceCtorEq, Int.reduceLT, Int.reduceLE, Int.reduceEq, Int.reduceGT, Int.reduceGE, Int.reduceToNat, Int.reduceNeg, F96_J3, F96_J2, hwn'] <;> exact .mk ⟨by rw [hf, hwb]; simp, hx2⟩
      · rw [hwb] at hwn'
        rcases e4 with rfl | rfl | rfl <;> simp -implicitDefEqProofs only [go_sem, Nat.reduceAdd, Nat.reduceMul, Nat.reduceLT, Nat.reduceLeDiff, Nat.reduceEqDiff, Nat.reduceBEq, reduceCtorEq, Int.reduceLT, Int.reduceLE, Int.reduceEq, Int.reduceGT, Int.reduceGE, Int.reduceToNat, Int.reduceNeg, F96_J3, F96_J2, hwn'] <;> exact .mk ⟨by rw [hf, hwb]; simp, hx2⟩
    have n4 : op ≠ 4 := fun h => e4 (.inl h)
    have n5 : op ≠ 5 := fun h => e4 (.inr (.inl h))
    have n6 : op ≠ 6 := fun h => e4 (.inr (.inr h))
    by_cases e17 : op = 17 ∨ op = 18
    · have hf : mayI l c ⟨op, n, m⟩ = (decide (0 ≤ n) && decide (n < (c.ins.length : Nat))) := by
        rcases e17 with rfl | rfl <;> simp [mayI, hns]
      by_cases h0 : n ≥ 0
      · rcases e17 with rfl | rfl <;> simp -implicitDefEqProofs only [go_sem, Nat.reduceAdd, Nat.reduceMul, Nat.reduceLT, Nat.reduceLeDiff, Nat.reduceEqDiff, Nat.reduceBEq, reduceCtorEq, Int.reduceLT, Int.reduceLE, Int.reduceEq, Int.reduceGT, Int.reduceGE, Int.reduceToNat, Int.reduceNeg, F96_J3, F96_J2, F96_J1, decide_eq_true h0, hal] <;> exact .mk ⟨by rw [hf]; simp [h0], hx⟩
      · have h0' : ¬ (0 ≤ n) := h0
        rcases e17 with rfl | rfl <;> simp -implicitDefEqProofs only [go_sem, Nat.reduceAdd, Nat.reduceMul, Nat.reduceLT, Nat.reduceLeDiff, Nat.reduceEqDiff, Nat.reduceBEq, reduceCtorEq, Int.reduceLT, Int.reduceLE, Int.reduceEq, Int.reduceGT, Int.reduceGE, Int.reduceToNat, Int.reduceNeg, F96_J3, F96_J2, F96_J1, decide_eq_false h0] <;> exact .mk ⟨by rw [hf]; simp [h0'], hx⟩
    have n17 : op ≠ 17 := fun h => e17 (.inl h)
    have n18 : op ≠ 18 := fun h => e17 (.inr h)
    by_cases e19 : op = 19
    · subst e19
      have hf : mayI l c ⟨19, n, m⟩ = (decide (0 ≤ n) && decide (n < (l.length : Nat)) && decide (0 ≤ m) && decide (m ≤ 8) && decide (m = paramsAt l n)) := by simp [mayI, hns]
      by_cases h0 : n < 0
      · simp -implicitDefEqProofs only [go_sem, Nat.reduceAdd, Nat.reduceMul, Nat.reduceLT, Nat.reduceLeDiff, Nat.reduceEqDiff, Nat.reduceBEq, reduceCtorEq, Int.reduceLT, Int.reduceLE, Int.reduceEq, Int.reduceGT, Int.reduceGE, Int.reduceToNat, Int.reduceNeg, F96_J3, F96_J2, F96_J1, decide_eq_true h0]
        have h0' : ¬ (0 ≤ n) := by omega
        exact .mk ⟨by rw [hf]; simp [h0'], hx⟩
      by_cases h1 : n ≥ ((l.length : Nat) : Int)
      · simp -implicitDefEqProofs only [go_sem, Nat.reduceAdd, Nat.reduceMul, Nat.reduceLT, Nat.reduceLeDiff, Nat.reduceEqDiff, Nat.reduceBEq, reduceCtorEq, Int.reduceLT, Int.reduceLE, Int.reduceEq, Int.reduceGT, Int.reduceGE, Int.reduceToNat, Int.reduceNeg, F96_J3, F96_J2, F96_J1, decide_eq_false h0, hcl, decide_eq_true h1]
        have h1' : ¬ (n < (l.length : Nat)) := by omega
        exact .mk ⟨by rw [hf]; simp [h1'], hx⟩
      obtain ⟨b, o, c', q1, q2, q3, q4, q5, _⟩ := codes_at hcs1 (n := n) (by omega) (by omega)
      have hp : paramsAt l n = c'.params := by simp [paramsAt, q1]
      have k0 : decide (0 ≤ n) = true := decide_eq_true (by omega)
      have k1 : decide (n < ((l.length : Nat) : Int)) = true := decide_eq_true (by omega)
      by_cases h2 : c'.params = m
      · by_cases h3 : c'.params ≥ 0
        · simp -implicitDefEqProofs only [go_sem, Nat.reduceAdd, Nat.reduceMul, Nat.reduceLT, Nat.reduceLeDiff, Nat.reduceEqDiff, Nat.reduceBEq, reduceCtorEq, Int.reduceLT, Int.reduceLE, Int.reduceEq, Int.reduceGT, Int.reduceGE, Int.reduceToNat, Int.reduceNeg, F96_J3, F96_J2, F96_J1, decide_eq_false h0, hcl, decide_eq_false h1, q2, q5, decide_eq_true h2, decide_eq_true h3]
          refine .mk ⟨?_, hx⟩
          rw [hf, hp, k0, k1, decide_eq_true h2.symm, decide_eq_true (show 0 ≤ m by omega), h2]
          simp
        · simp -implicitDefEqProofs only [go_sem, Nat.reduceAdd, Nat.reduceMul, Nat.reduceLT, Nat.reduceLeDiff, Nat.reduceEqDiff, Nat.reduceBEq, reduceCtorEq, Int.reduceLT, Int.reduceLE, Int.reduceEq, Int.reduceGT, Int.reduceGE, Int.reduceToNat, Int.reduceNeg, F96_J3, F96_J2, F96_J1, decide_eq_false h0, hcl, decide_eq_false h1, q2, q5, decide_eq_true h2, decide_eq_false h3]
          refine .mk ⟨?_, hx⟩
          rw [hf, hp, k0, k1, decide_eq_false (show ¬ (0 ≤ m) by omega)]
          simp
      · simp -implicitDefEqProofs only [go_sem, Nat.reduceAdd, Nat.reduceMul, Nat.reduceLT, Nat.reduceLeDiff, Nat.reduceEqDiff, Nat.reduceBEq, reduceCtorEq, Int.reduceLT, Int.reduceLE, Int.reduceEq, Int.reduceGT, Int.reduceGE, Int.reduceToNat, Int.reduceNeg, F96_J3, F96_J2, F96_J1, decide_eq_false h0, hcl, decide_eq_false h1, q2, q5, decide_eq_false h2]
        refine .mk ⟨?_, hx⟩
        rw [hf, hp, k0, k1, decide_eq_false (fun h => h2 h.symm : ¬ (m = c'.params))]
        simp
    by_cases e20 : op = 20
    · subst e20
      have hf : mayI l c ⟨20, n, m⟩ = decide (n = if c.answers = true then 1 else 0) := by simp [mayI, hns]
      cases hans : c.answers
      · simp -implicitDefEqProofs only [go_sem, Nat.reduceAdd, Nat.reduceMul, Nat.reduceLT, Nat.reduceLeDiff, Nat.reduceEqDiff, Nat.reduceBEq, reduceCtorEq, Int.reduceLT, Int.reduceLE, Int.reduceEq, Int.reduceGT, Int.reduceGE, Int.reduceToNat, Int.reduceNeg, F96_J3, F96_J2, F96_J1, F96_J0, hans]
        rw [hans] at hx
        exact .mk ⟨by rw [hf]; simp [hans], hx⟩
      · simp -implicitDefEqProofs only [go_sem, Nat.reduceAdd, Nat.reduceMul, Nat.reduceLT, Nat.reduceLeDiff, Nat.reduceEqDiff, Nat.reduceBEq, reduceCtorEq, Int.reduceLT, Int.reduceLE, Int.reduceEq, Int.reduceGT, Int.reduceGE, Int.reduceToNat, Int.reduceNeg, F96_J3, F96_J2, F96_J1, F96_J0, hans]
        rw [hans] at hx
        exact .mk ⟨by rw [hf]; simp [hans], hx⟩
    by_cases e24 : op = 24
    · subst e24
      have hf : mayI l c ⟨24, n, m⟩ = (decide (0 ≤ n) && decide (1 ≤ m) && decide (m ≤ 3)) := by simp [mayI, hns]
      by_cases h0 : n ≥ 0
      · by_cases h1 : m ≥ 1
        · simp -implicitDefEqProofs only [go_sem, Nat.reduceAdd, Nat.reduceMul, Nat.reduceLT, Nat.reduceLeDiff, Nat.reduceEqDiff, Nat.reduceBEq, reduceCtorEq, Int.reduceLT, Int.reduceLE, Int.reduceEq, Int.reduceGT, Int.reduceGE, Int.reduceToNat, Int.reduceNeg, F96_J3, F96_J2, F96_J1, decide_eq_true h0, decide_eq_true h1]
          exact .mk ⟨by rw [hf]; simp [h0, h1], hx⟩
        · simp -implicitDefEqProofs only [go_sem, Nat.reduceAdd, Nat.reduceMul, Nat.reduceLT, Nat.reduceLeDiff, Nat.reduceEqDiff, Nat.reduceBEq, reduceCtorEq, Int.reduceLT, Int.reduceLE, Int.reduceEq, Int.reduceGT, Int.reduceGE, Int.reduceToNat, Int.reduceNeg, F96_J3, F96_J2, F96_J1, decide_eq_true h0, decide_eq_false h1]
          have h1' : ¬ (1 ≤ m) := h1
          exact .mk ⟨by rw [hf]; simp [h1'], hx⟩
      · simp -implicitDefEqProofs only [go_sem, Nat.reduceAdd, Nat.reduceMul, Nat.reduceLT, Nat.reduceLeDiff, Nat.reduceEqDiff, Nat.reduceBEq, reduceCtorEq, Int.reduceLT, Int.reduceLE, Int.reduceEq, Int.reduceGT, Int.reduceGE, Int.reduceToNat, Int.reduceNeg, F96_J3, F96_J2, F96_J1, decide_eq_false h0]
        have h0' : ¬ (0 ≤ n) := h0
        exact .mk ⟨by rw [hf]; simp [h0'], hx⟩
    simp -implicitDefEqProofs only [go_sem, Nat.reduceAdd, Nat.reduceMul, Nat.reduceLT, Nat.reduceLeDiff, Nat.reduceEqDiff, Nat.reduceBEq, reduceCtorEq, Int.reduceLT, Int.reduceLE, Int.reduceEq, Int.reduceGT, Int.reduceGE, Int.reduceToNat, Int.reduceNeg, F96_J3, F96_J2, F96_J1, decide_eq_false e2, decide_eq_false e3, decide_eq_false n4, decide_eq_false n5, decide_eq_false n6, decide_eq_false n17, decide_eq_false n18, decide_eq_false e19, decide_eq_false e20, decide_eq_false e24]
    exact .mk ⟨by simp [mayI, hns, e2, e3, n4, n5, n6, n17, n18, e19, e20, e24], hx⟩

theorem effect_spec (d : Nat) {H : AH} (hw : H.wf) {ls : AV} {l : List Code} {c : Code} (hcs : CodesRow H ls l) {i : Ins} (hm : mayI l c i = true) :
    Ret (RT (d + 1) 71 [ls, .agg (insC i)] H) fun r => r.1 = .tuple [.int .i64 (tk l i), .int .i64 (lv l i)] ∧ Ext H.next H r.2 := by
  rw [R71]
  unfold F71
  have hop := mayI_op hm
  have hin : insC i = [.int .i64 i.op, .int .i64 i.n, .int .i64 i.m] := rfl
  have hr := rowAt_in hop
  have hx : Ext H.next H ((H.new (insC i) 29).new [.str (wordOf i.op), .int .i64 (nums i.op), .int .i64 (takes i.op), .int .i64 (leaves i.op)] 133) := ((Ext.refl hw).new _ _).new _ _
  have hcs1 := hcs.mono (hx.sub hw)
  rw [hin] at hx hcs1 ⊢
  by_cases e20 : i.op = 20
  · simp -implicitDefEqProofs only [go_sem, Nat.reduceAdd, Nat.reduceMul, Nat.reduceLT, Nat.reduceLeDiff, Nat.reduceEqDiff, Nat.reduceBEq, reduceCtorEq, Int.reduceLT, Int.reduceLE, Int.reduceEq, Int.reduceGT, Int.reduceGE, Int.reduceToNat, Int.reduceNeg, RT_92, hr, new_put1, decide_eq_true e20]
    exact .mk ⟨by simp [tk, lv, e20], hx⟩
  by_cases e19 : i.op = 19
  · obtain ⟨h1, h2, _⟩ := may_call hm e19
    obtain ⟨b, o, c', q1, q2, q3, q4, q5, q6, _⟩ := codes_at hcs1 h1 h2
    have ha : answersAt l i.n = c'.answers := by simp [answersAt, q1]
    cases hans : c'.answers
    · rw [hans] at q6
      simp -implicitDefEqProofs only [go_sem, Nat.reduceAdd, Nat.reduceMul, Nat.reduceLT, Nat.reduceLeDiff, Nat.reduceEqDiff, Nat.reduceBEq, reduceCtorEq, Int.reduceLT, Int.reduceLE, Int.reduceEq, Int.reduceGT, Int.reduceGE, Int.reduceToNat, Int.reduceNeg, RT_92, hr, new_put1, decide_eq_false e20, decide_eq_true e19, q2, q6]
      exact .mk ⟨by simp [tk, lv, e19, ha, hans], hx⟩
    · rw [hans] at q6
      simp -implicitDefEqProofs only [go_sem, Nat.reduceAdd, Nat.reduceMul, Nat.reduceLT, Nat.reduceLeDiff, Nat.reduceEqDiff, Nat.reduceBEq, reduceCtorEq, Int.reduceLT, Int.reduceLE, Int.reduceEq, Int.reduceGT, Int.reduceGE, Int.reduceToNat, Int.reduceNeg, RT_92, hr, new_put1, decide_eq_false e20, decide_eq_true e19, q2, q6]
      exact .mk ⟨by simp [tk, lv, e19, ha, hans], hx⟩
  · simp -implicitDefEqProofs only [go_sem, Nat.reduceAdd, Nat.reduceMul, Nat.reduceLT, Nat.reduceLeDiff, Nat.reduceEqDiff, Nat.reduceBEq, reduceCtorEq, Int.reduceLT, Int.reduceLE, Int.reduceEq, Int.reduceGT, Int.reduceGE, Int.reduceToNat, Int.reduceNeg, RT_92, hr, new_put1, decide_eq_false e20, decide_eq_false e19]
    exact .mk ⟨by simp [tk, lv, e19, e20], hx⟩
end Go.Proofs.YthiflgncldmkjaaDoor
/- The document's heights, round by round: follow, shape, the loops. -/
set_option linter.unusedVariables false
set_option linter.unusedSimpArgs false
set_option maxRecDepth 100000
namespace Go.Proofs.YthiflgncldmkjaaDoor
open Go.Ri

theorem Way.loose {l : List Code} {c : Code} {h : List Int} {w : List Nat} {ex : Nat → Prop} (W : Way l c h w ex) : Way l c h [] (fun _ => True) :=
  ⟨W.len, W.zero, W.known, fun a ha => by simp at ha, fun _ _ _ _ _ _ hne _ => absurd trivial hne⟩
theorem follow_spec (d : Nat) {H : AH} (hw : H.wf) (i : Ins) {a : Nat} (ha : a < 70000) :
    Ret (RT (d + 1) 72 [.agg (insC i), .int .i64 (a : Nat)] H) fun r => Row r.2 r.1 1 ((nextI i a).map fun p => [.int .i64 p]) ∧ Ext H.next H r.2 ∧ ∀ b o n c, r.1 = .slice (some (b, o)) n c → H.next ≤ b ∧ b < r.2.next := by
  rw [R72]
  unfold F72
  have hin : insC i = [.int .i64 i.op, .int .i64 i.n, .int .i64 i.m] := rfl
  have hx : Ext H.next H (H.new (insC i) 29) := (Ext.refl hw).new _ _
  rw [hin] at hx ⊢
  have hwr := wrapS (i := a) (by omega)
  have one : ∀ p : Int, Row (((H.new [.int .i64 i.op, .int .i64 i.n, .int .i64 i.m] 29).new [.int .i64 p] 3)) (.slice (some (H.next + 1, 0)) 1 (.kn 1)) 1 [[.int .i64 p]] := fun p =>
    Own.row (l := [[.int .i64 p]]) (by omega) (Own.made (N := 0) (H := H.new [.int .i64 i.op, .int .i64 i.n, .int .i64 i.m] 29) (n := 1) (Nat.zero_le _) rfl) (by simp)
  by_cases e20 : i.op = 20
  · simp -implicitDefEqProofs only [go_sem, Nat.reduceAdd, Nat.reduceMul, Nat.reduceLT, Nat.reduceLeDiff, Nat.reduceEqDiff, Nat.reduceBEq, reduceCtorEq, Int.reduceLT, Int.reduceLE, Int.reduceEq, Int.reduceGT, Int.reduceGE, Int.reduceToNat, Int.reduceNeg, decide_eq_true e20]
    refine .mk ⟨?_, hx, fun b o n c h => by cases h⟩
    have e17 : ¬ i.op = 17 := by omega
    have e18 : ¬ i.op = 18 := by omega
    simp only [nextI, if_neg e17, if_neg e18, if_pos e20]
    exact Row.nil _ _
  by_cases e17 : i.op = 17
  · simp -implicitDefEqProofs only [go_sem, Nat.reduceAdd, Nat.reduceMul, Nat.reduceLT, Nat.reduceLeDiff, Nat.reduceEqDiff, Nat.reduceBEq, reduceCtorEq, Int.reduceLT, Int.reduceLE, Int.reduceEq, Int.reduceGT, Int.reduceGE, Int.reduceToNat, Int.reduceNeg, decide_eq_false e20, decide_eq_true e17]
    refine .mk ⟨?_, hx.new _ _, fun b o n c h => by cases h; simp⟩
    simp only [nextI, if_pos e17]
    exact one i.n
  by_cases e18 : i.op = 18
  · have h1 : OwnI (H.next + 1) ((H.new [.int .i64 i.op, .int .i64 i.n, .int .i64 i.m] 29).new [.int .i64 ((a + 1 : Nat) : Int)] 3) (.slice (some (H.next + 1, 0)) 1 (.kn 1)) [((a + 1 : Nat) : Int)] := Own.made (n := 1) (by simp) rfl
    obtain ⟨⟨sv, H2⟩, hap, g1, g2, g3, g4, g5⟩ := OwnI.more (x := i.n) (h1.low (Nat.le_succ _)) (hx.new [.int .i64 ((a + 1 : Nat) : Int)] 3) (by simp)
    simp only at g1 g2 g3 g4 g5
    simp only [new_next] at hap g3
    simp -implicitDefEqProofs only [go_sem, Nat.reduceAdd, Nat.reduceMul, Nat.reduceLT, Nat.reduceLeDiff, Nat.reduceEqDiff, Nat.reduceBEq, reduceCtorEq, Int.reduceLT, Int.reduceLE, Int.reduceEq, Int.reduceGT, Int.reduceGE, Int.reduceToNat, Int.reduceNeg, decide_eq_false e20, decide_eq_false e17, decide_eq_true e18, hwr, hap, F72_J0]
    refine .mk ⟨?_, g2, fun b o n c h => ?_⟩
    · simp only [nextI, if_neg e17, if_pos e18]
      exact Own.row (l := [[.int .i64 ((a + 1 : Nat) : Int)], [.int .i64 i.n]]) (by omega) (by simpa [OwnI, intsC] using g1) (by simp)
    · show H.next ≤ b ∧ b < H2.next
      obtain ⟨p, nn, cc, hsh⟩ := g1.shape
      have ho : o = 0 := by
        rcases g1 with ⟨hh, _⟩ | ⟨b', n', c', B', hh, _⟩
        · rw [hh] at h; cases h
        · rw [hh] at h; cases h; rfl
      subst ho
      rcases g5 b ⟨n, c, h⟩ with ⟨_, _, hh⟩ | hh
      · cases hh; exact ⟨by omega, by omega⟩
      · simp only [new_next] at hh; exact ⟨by omega, hh.2⟩
  · simp -implicitDefEqProofs only [go_sem, Nat.reduceAdd, Nat.reduceMul, Nat.reduceLT, Nat.reduceLeDiff, Nat.reduceEqDiff, Nat.reduceBEq, reduceCtorEq, Int.reduceLT, Int.reduceLE, Int.reduceEq, Int.reduceGT, Int.reduceGE, Int.reduceToNat, Int.reduceNeg, decide_eq_false e20, decide_eq_false e17, decide_eq_false e18, hwr, F72_J0]
    refine .mk ⟨?_, hx.new _ _, fun b o n c h => by cases h; simp⟩
    simp only [nextI, if_neg e17, if_neg e18, if_neg e20]
    exact one _

section
variable {Hb : AH} {ls s : AV} {l : List Code} {c : Code}
/-- The document's code stands in the first block behind the base. -/
structure Cr (Hb : AH) (s : AV) (c : Code) (H : AH) : Prop where
  ext : Ext Hb.next Hb H
  blk : H.m Hb.next = some ⟨[s, .int .i64 c.cells, .int .i64 c.params, .bool c.answers], 24, true⟩
theorem Cr.lt {H : AH} (h : Cr Hb s c H) : Hb.next < H.next := h.ext.wf _ _ h.blk

def IP (Hb : AH) (ls s : AV) (l : List Code) (c : Code) (i : Nat) (t : St) : Prop :=
  t.1 0 = ls ∧ t.1 3 = .ptr (some (Hb.next, 0)) ∧ t.1 5 = .int .i64 (c.ins.length : Nat) ∧ t.1 6 = .int .i64 (i : Nat) ∧ Cr Hb s c t.2 ∧ ∀ j, j < i → ∀ x, c.ins[j]? = some x → mayI l c x = true
theorem shape_loop (d : Nat) (B : Base Hb ls s l c) (hlen : c.ins.length ≤ 65536) {T : Tm} {H : AH} (h0 : IP Hb ls s l c 0 (T, H)) :
    Ret (Ri.iter big (F70_L0 (RT (d + 2)) (Ri.iter big)) (T, H)) fun r => Ext Hb.next Hb r.2.2 ∧ ((r.1 = .exit 0 ∧ ∀ i ∈ c.ins, mayI l c i = true) ∨ (r.1 = .ret ∧ r.2.1 4 = .bool false ∧ ¬ ∀ i ∈ c.ins, mayI l c i = true)) := by
  refine Ret.upTo (n := c.ins.length) (IP Hb ls s l c) (by unfold big; omega) h0 ?_ ?_
  · rintro i ⟨T1, H1⟩ hi ⟨t0, t3, t5, t6, hck, hdone⟩
    simp only at t0 t3 t5 t6 hck
    have hcmp : decide (((i : Nat) : Int) < ((c.ins.length : Nat) : Int)) = true := decide_eq_true (by omega)
    have hsub := hck.ext.sub B.wf
    have hins : InsRow H1 s c.ins := ⟨B.ins.1.mono hsub, B.ins.2⟩
    obtain ⟨pb, po, e1, e2, _⟩ := hins.1.at (i := i) (by simpa using hi)
    simp only [List.getElem_map] at e2
    obtain ⟨⟨v, H2⟩, h96, hv, hx2⟩ := may_ref d hck.ext.wf (B.tabs.ext hck.ext B.tabs.two) (B.codes.mono hsub) hins B.cells (hins.2 c.ins[i] (List.getElem_mem _))
    simp only at hv hx2
    subst hv
    have hx3 : Ext Hb.next Hb H2 := hck.ext.trans hx2 hck.ext.next
    have hb2 : H2.m Hb.next = some ⟨[s, .int .i64 c.cells, .int .i64 c.params, .bool c.answers], 24, true⟩ := by rw [hx2.low _ hck.lt]; exact hck.blk
    unfold F70_L0
    cases hmv : mayI l c c.ins[i]
    · rw [hmv] at h96
      simp -implicitDefEqProofs only [go_sem, Nat.reduceAdd, Nat.reduceMul, Nat.reduceLT, Nat.reduceLeDiff, Nat.reduceEqDiff, Nat.reduceBEq, reduceCtorEq, Int.reduceLT, Int.reduceLE, Int.reduceEq, Int.reduceGT, Int.reduceGE, Int.reduceToNat, Int.reduceNeg, t0, t3, t5, t6, hcmp, hck.blk, e1, e2, h96]
      refine .mk (.inr ⟨by simp, hx3, .inr ⟨rfl, ?_, fun h => ?_⟩⟩)
      · simp -implicitDefEqProofs only [go_sem, Nat.reduceAdd, Nat.reduceMul, Nat.reduceLT, Nat.reduceLeDiff, Nat.reduceEqDiff, Nat.reduceBEq, reduceCtorEq, Int.reduceLT, Int.reduceLE, Int.reduceEq, Int.reduceGT, Int.reduceGE, Int.reduceToNat, Int.reduceNeg]
      · rw [h _ (List.getElem_mem _)] at hmv
        cases hmv
    · rw [hmv] at h96
      simp -implicitDefEqProofs only [go_sem, Nat.reduceAdd, Nat.reduceMul, Nat.reduceLT, Nat.reduceLeDiff, Nat.reduceEqDiff, Nat.reduceBEq, reduceCtorEq, Int.reduceLT, Int.reduceLE, Int.reduceEq, Int.reduceGT, Int.reduceGE, Int.reduceToNat, Int.reduceNeg, t0, t3, t5, t6, hcmp, hck.blk, e1, e2, h96, wrapS (i := i) (by omega)]
      refine .mk (.inl ⟨rfl, ?_, ?_, ?_, ?_, ⟨hx3, hb2⟩, fun j hj x hx => ?_⟩)
      · simp -implicitDefEqProofs only [go_sem, Nat.reduceAdd, Nat.reduceMul, Nat.reduceLT, Nat.reduceLeDiff, Nat.reduceEqDiff, Nat.reduceBEq, reduceCtorEq, Int.reduceLT, Int.reduceLE, Int.reduceEq, Int.reduceGT, Int.reduceGE, Int.reduceToNat, Int.reduceNeg, t0]
      · simp -implicitDefEqProofs only [go_sem, Nat.reduceAdd, Nat.reduceMul, Nat.reduceLT, Nat.reduceLeDiff, Nat.reduceEqDiff, Nat.reduceBEq, reduceCtorEq, Int.reduceLT, Int.reduceLE, Int.reduceEq, Int.reduceGT, Int.reduceGE, Int.reduceToNat, Int.reduceNeg, t3]
      · simp -implicitDefEqProofs only [go_sem, Nat.reduceAdd, Nat.reduceMul, Nat.reduceLT, Nat.reduceLeDiff, Nat.reduceEqDiff, Nat.reduceBEq, reduceCtorEq, Int.reduceLT, Int.reduceLE, Int.reduceEq, Int.reduceGT, Int.reduceGE, Int.reduceToNat, Int.reduceNeg, t5]
      · simp -implicitDefEqProofs only [go_sem, Nat.reduceAdd, Nat.reduceMul, Nat.reduceLT, Nat.reduceLeDiff, Nat.reduceEqDiff, Nat.reduceBEq, reduceCtorEq, Int.reduceLT, Int.reduceLE, Int.reduceEq, Int.reduceGT, Int.reduceGE, Int.reduceToNat, Int.reduceNeg]
      · by_cases hji : j = i
        · subst hji
          rw [List.getElem?_eq_getElem hi] at hx
          cases hx
          exact hmv
        · exact hdone j (by omega) x hx
  · rintro ⟨T1, H1⟩ ⟨t0, t3, t5, t6, hck, hdone⟩
    simp only at t5 t6 hck
    have hcmp : decide (((c.ins.length : Nat) : Int) < ((c.ins.length : Nat) : Int)) = false := decide_eq_false (by omega)
    unfold F70_L0
    simp -implicitDefEqProofs only [go_sem, Nat.reduceAdd, Nat.reduceMul, Nat.reduceLT, Nat.reduceLeDiff, Nat.reduceEqDiff, Nat.reduceBEq, reduceCtorEq, Int.reduceLT, Int.reduceLE, Int.reduceEq, Int.reduceGT, Int.reduceGE, Int.reduceToNat, Int.reduceNeg, t5, t6, hcmp]
    refine .mk ⟨by simp, hck.ext, .inl ⟨rfl, fun i hi => ?_⟩⟩
    obtain ⟨j, hj⟩ := List.mem_iff_getElem?.1 hi
    exact hdone j (List.getElem?_eq_some_iff.1 hj).1 i hj
theorem shape_spec (d : Nat) (B : Base Hb ls s l c) : Ret (RT (d + 3) 70 [ls, .agg [s, .int .i64 c.cells, .int .i64 c.params, .bool c.answers]] Hb) fun r => Ext Hb.next Hb r.2 ∧ ∃ b : Bool, r.1 = .bool b ∧ (b = true ↔ OwnOk l c) := by
  rw [R70]
  unfold F70
  have hal := B.ins.alen
  have hx1 : Ext Hb.next Hb (Hb.new [s, .int .i64 c.cells, .int .i64 c.params, .bool c.answers] 24) := (Ext.refl B.wf).new _ _
  have no : ¬ OwnOk l c → Ret (some (AV.bool false, Hb.new [s, .int .i64 c.cells, .int .i64 c.params, .bool c.answers] 24)) fun r => Ext Hb.next Hb r.2 ∧ ∃ b : Bool, r.1 = .bool b ∧ (b = true ↔ OwnOk l c) :=
    fun h => .mk ⟨hx1, false, rfl, by simp [h]⟩
  by_cases p1 : ((c.ins.length : Nat) : Int) = 0
  · simp -implicitDefEqProofs only [go_sem, Nat.reduceAdd, Nat.reduceMul, Nat.reduceLT, Nat.reduceLeDiff, Nat.reduceEqDiff, Nat.reduceBEq, reduceCtorEq, Int.reduceLT, Int.reduceLE, Int.reduceEq, Int.reduceGT, Int.reduceGE, Int.reduceToNat, Int.reduceNeg, hal, decide_eq_true p1]
    exact no fun h => by have := h.some_; omega
  by_cases p2 : ((c.ins.length : Nat) : Int) > 65536
  · simp -implicitDefEqProofs only [go_sem, Nat.reduceAdd, Nat.reduceMul, Nat.reduceLT, Nat.reduceLeDiff, Nat.reduceEqDiff, Nat.reduceBEq, reduceCtorEq, Int.reduceLT, Int.reduceLE, Int.reduceEq, Int.reduceGT, Int.reduceGE, Int.reduceToNat, Int.reduceNeg, hal, decide_eq_false p1, decide_eq_true p2]
    exact no fun h => by have := h.few; omega
  by_cases p3 : c.cells < 0
  · simp -implicitDefEqProofs only [go_sem, Nat.reduceAdd, Nat.reduceMul, Nat.reduceLT, Nat.reduceLeDiff, Nat.reduceEqDiff, Nat.reduceBEq, reduceCtorEq, Int.reduceLT, Int.reduceLE, Int.reduceEq, Int.reduceGT, Int.reduceGE, Int.reduceToNat, Int.reduceNeg, hal, decide_eq_false p1, decide_eq_false p2, decide_eq_true p3]
    exact no fun h => by have := h.cells; omega
  by_cases p4 : c.cells > 65536
  · simp -implicitDefEqProofs only [go_sem, Nat.reduceAdd, Nat.reduceMul, Nat.reduceLT, Nat.reduceLeDiff, Nat.reduceEqDiff, Nat.reduceBEq, reduceCtorEq, Int.reduceLT, Int.reduceLE, Int.reduceEq, Int.reduceGT, Int.reduceGE, Int.reduceToNat, Int.reduceNeg, hal, decide_eq_false p1, decide_eq_false p2, decide_eq_false p3, decide_eq_true p4]
    exact no fun h => by have := h.cells; omega
  by_cases p5 : c.params < 0
  · simp -implicitDefEqProofs only [go_sem, Nat.reduceAdd, Nat.reduceMul, Nat.reduceLT, Nat.reduceLeDiff, Nat.reduceEqDiff, Nat.reduceBEq, reduceCtorEq, Int.reduceLT, Int.reduceLE, Int.reduceEq, Int.reduceGT, Int.reduceGE, Int.reduceToNat, Int.reduceNeg, hal, decide_eq_false p1, decide_eq_false p2, decide_eq_false p3, decide_eq_false p4, decide_eq_true p5]
    exact no fun h => by have := h.params; omega
  by_cases p6 : c.params > 8
  · simp -implicitDefEqProofs only [go_sem, Nat.reduceAdd, Nat.reduceMul, Nat.reduceLT, Nat.reduceLeDiff, Nat.reduceEqDiff, Nat.reduceBEq, reduceCtorEq, Int.reduceLT, Int.reduceLE, Int.reduceEq, Int.reduceGT, Int.reduceGE, Int.reduceToNat, Int.reduceNeg, hal, decide_eq_false p1, decide_eq_false p2, decide_eq_false p3, decide_eq_false p4, decide_eq_false p5, decide_eq_true p6]
    exact no fun h => by have := h.params; omega
  by_cases p7 : c.params > c.cells
  · simp -implicitDefEqProofs only [go_sem, Nat.reduceAdd, Nat.reduceMul, Nat.reduceLT, Nat.reduceLeDiff, Nat.reduceEqDiff, Nat.reduceBEq, reduceCtorEq, Int.reduceLT, Int.reduceLE, Int.reduceEq, Int.reduceGT, Int.reduceGE, Int.reduceToNat, Int.reduceNeg, hal, decide_eq_false p1, decide_eq_false p2, decide_eq_false p3, decide_eq_false p4, decide_eq_false p5, decide_eq_false p6, decide_eq_true p7]
    exact no fun h => by have := h.params; omega
  simp -implicitDefEqProofs only [go_sem, Nat.reduceAdd, Nat.reduceMul, Nat.reduceLT, Nat.reduceLeDiff, Nat.reduceEqDiff, Nat.reduceBEq, reduceCtorEq, Int.reduceLT, Int.reduceLE, Int.reduceEq, Int.reduceGT, Int.reduceGE, Int.reduceToNat, Int.reduceNeg, hal, decide_eq_false p1, decide_eq_false p2, decide_eq_false p3, decide_eq_false p4, decide_eq_false p5, decide_eq_false p6, decide_eq_false p7]
  refine Ret.then (shape_loop d B (by omega) ⟨?_, ?_, ?_, ?_, ⟨hx1, by simp⟩, fun j hj => absurd hj (Nat.not_lt_zero _)⟩) ?_
  · simp -implicitDefEqProofs only [go_sem, Nat.reduceAdd, Nat.reduceMul, Nat.reduceLT, Nat.reduceLeDiff, Nat.reduceEqDiff, Nat.reduceBEq, reduceCtorEq, Int.reduceLT, Int.reduceLE, Int.reduceEq, Int.reduceGT, Int.reduceGE, Int.reduceToNat, Int.reduceNeg]
  · simp -implicitDefEqProofs only [go_sem, Nat.reduceAdd, Nat.reduceMul, Nat.reduceLT, Nat.reduceLeDiff, Nat.reduceEqDiff, Nat.reduceBEq, reduceCtorEq, Int.reduceLT, Int.reduceLE, Int.reduceEq, Int.reduceGT, Int.reduceGE, Int.reduceToNat, Int.reduceNeg]
  · simp -implicitDefEqProofs only [go_sem, Nat.reduceAdd, Nat.reduceMul, Nat.reduceLT, Nat.reduceLeDiff, Nat.reduceEqDiff, Nat.reduceBEq, reduceCtorEq, Int.reduceLT, Int.reduceLE, Int.reduceEq, Int.reduceGT, Int.reduceGE, Int.reduceToNat, Int.reduceNeg]
  · simp -implicitDefEqProofs only [go_sem, Nat.reduceAdd, Nat.reduceMul, Nat.reduceLT, Nat.reduceLeDiff, Nat.reduceEqDiff, Nat.reduceBEq, reduceCtorEq, Int.reduceLT, Int.reduceLE, Int.reduceEq, Int.reduceGT, Int.reduceGE, Int.reduceToNat, Int.reduceNeg]
    rfl
  · rintro ⟨e, T, H1⟩ ⟨hx, ⟨rfl, hall⟩ | ⟨rfl, h4, hno⟩⟩
    · simp only at hx
      simp -implicitDefEqProofs only [go_sem, Nat.reduceAdd, Nat.reduceMul, Nat.reduceLT, Nat.reduceLeDiff, Nat.reduceEqDiff, Nat.reduceBEq, reduceCtorEq, Int.reduceLT, Int.reduceLE, Int.reduceEq, Int.reduceGT, Int.reduceGE, Int.reduceToNat, Int.reduceNeg]
      exact .mk ⟨hx, true, rfl, by simp only [true_iff]; exact ⟨by omega, by omega, by omega, by omega, hall⟩⟩
    · simp only at hx h4
      simp -implicitDefEqProofs only [go_sem, Nat.reduceAdd, Nat.reduceMul, Nat.reduceLT, Nat.reduceLeDiff, Nat.reduceEqDiff, Nat.reduceBEq, reduceCtorEq, Int.reduceLT, Int.reduceLE, Int.reduceEq, Int.reduceGT, Int.reduceGE, Int.reduceToNat, Int.reduceNeg, h4]
      exact .mk ⟨hx, false, rfl, by simp only [Bool.false_eq_true, false_iff]; exact fun h => hno h.may⟩
end
end Go.Proofs.YthiflgncldmkjaaDoor
/- The document's heights: the loops. -/
set_option linter.unusedVariables false
set_option linter.unusedSimpArgs false
set_option maxRecDepth 100000
namespace Go.Proofs.YthiflgncldmkjaaDoor
open Go.Ri

theorem OwnI.blk {N : Nat} {H : AH} {s : AV} {h : List Int} (ho : OwnI N H s h) (hw : H.wf) (hne : 0 < h.length) :
    ∃ b B, At s b ∧ N ≤ b ∧ b < H.next ∧ H.m b = some B ∧ B.rw_ = true ∧ h.length ≤ B.cells.length ∧ (∀ k (i : Nat), i < h.length → idxSl s (.int k (i : Nat)) 1 = some (.ptr (some (b, i)))) ∧
      (∀ (i : Nat) x, h[i]? = some x → B.cells[i]? = some (.int .i64 x)) ∧ ∀ (i : Nat) v, i < h.length → OwnI N (H.put b ⟨B.cells.set i (.int .i64 v), B.elem, true⟩) s (h.set i v) := by
  obtain ⟨b, B, q1, q2, q3, q4, q5, _, _, _, _⟩ := ho.cell hw (i := 0) (by rw [intsC_len]; exact hne)
  have key : ∀ i : Nat, i < h.length → i < B.cells.length ∧ B.cells[i]? = (intsC h)[i]? ∧ (∀ k, idxSl s (.int k (i : Nat)) 1 = some (.ptr (some (b, i)))) ∧ ∀ v, Own N 1 3 (H.put b ⟨B.cells.set i v, B.elem, B.rw_⟩) s ((intsC h).set i v) := fun i hi => by
    obtain ⟨b', B', p1, p2, p3, p4, p5, p6, p7, p8, p9⟩ := ho.cell hw (i := i) (by rw [intsC_len]; exact hi)
    have := p1.one q1
    subst this
    rw [q4] at p4
    cases p4
    exact ⟨p6, p7, p8, p9⟩
  refine ⟨b, B, q1, q2, q3, q4, q5, ?_, fun k i hi => (key i hi).2.2.1 k, fun i x hx => ?_, fun i v hi => ?_⟩
  · have := (key (h.length - 1) (by omega)).1
    omega
  · have hi := (List.getElem?_eq_some_iff.1 hx).1
    rw [(key i hi).2.1, intsC_get, hx]
    rfl
  · have := (key i hi).2.2.2 (.int .i64 v)
    rw [intsC_set, q5] at this
    exact this

section
variable {Hb : AH} {ls s : AV} {l : List Code} {c : Code}
structure J1 (Hb : AH) (ls s : AV) (l : List Code) (c : Code) (i : Ins) (a : Nat) (x : Int) (sv hs : AV) (n0 : Nat) (j : Nat) (t : St) : Prop where
  t0 : t.1 0 = ls
  t6 : t.1 6 = .ptr (some (Hb.next, 0))
  t7 : t.1 7 = hs
  t10 : t.1 10 = .int .i64 (a : Nat)
  t12 : t.1 12 = .int .i64 (tk l i)
  t13 : t.1 13 = .int .i64 (lv l i)
  t14 : t.1 14 = sv
  t15 : t.1 15 = .int .i64 (j : Nat)
  row : Row t.2 sv 1 ((nextI i a).map fun p => [.int .i64 p])
  rest : ∃ (h : List Int) (more : Bool), t.1 9 = .bool more ∧ Cr Hb s c t.2 ∧ OwnI (Hb.next + 1) t.2 hs h ∧ Way l c h [] (fun b => more = true ∨ a ≤ b) ∧ h[a]? = some x ∧ negs h ≤ n0 ∧ (more = true → negs h < n0) ∧
    ∀ j', j' < j → ∀ p, (nextI i a)[j']? = some p → ∃ q : Nat, p = q ∧ h[q]? = some (x - tk l i + lv l i)
def EJ (Hb : AH) (ls s : AV) (l : List Code) (c : Code) (i : Ins) (a : Nat) (x : Int) (sv hs : AV) (n0 : Nat) (r : Ex × St) : Prop :=
  (r.1 = .exit 6 ∧ J1 Hb ls s l c i a x sv hs n0 (nextI i a).length r.2) ∨ (r.1 = .ret ∧ r.2.1 4 = .slice none 0 (.kn 0) ∧ r.2.1 5 = .bool false ∧ Ext Hb.next Hb r.2.2 ∧ ¬ ∃ g, Good l c g)
set_option maxHeartbeats 4000000 in
theorem jloop1 (d : Nat) {i : Ins} (hm : mayI l c i = true) {a : Nat} (hi : c.ins[a]? = some i) {x : Int} (h0x : 0 ≤ x) (ho : okAt l i x) {sv hs : AV} {n0 N1 : Nat}
    (hlen : c.ins.length ≤ 65536) (hsv : ∀ b, AtR sv b → N1 ≤ b) (hhs : ∀ b, At hs b → b < N1) {T : Tm} {H : AH} (h0 : J1 Hb ls s l c i a x sv hs n0 0 (T, H)) :
    Ret (Ri.iter big (F29_L1 (RT d) (Ri.iter big)) (T, H)) (EJ Hb ls s l c i a x sv hs n0) := by
  have hnl : (nextI i a).length ≤ 2 := by
    unfold nextI
    split
    · simp
    · split
      · simp
      · split <;> simp
  have hrg := okAt_range hm ho
  refine Ret.upTo (n := (nextI i a).length) (J1 Hb ls s l c i a x sv hs n0) (by unfold big; omega) h0 ?_ ?_
  · rintro j ⟨T1, H1⟩ hj ⟨t0, t6, t7, t10, t12, t13, t14, t15, row, h, more, t9, hck, hown, W, hax, hn0, hmore, hdone⟩
    simp only at t0 t6 t7 t10 t12 t13 t14 t15 row t9 hck hown
    obtain ⟨pb, po, e1, _, e3⟩ := row.at (i := j) (by simpa using hj)
    have e3 := e3 0 (by omega)
    simp only [List.getElem_map, List.getElem?_cons_zero, Nat.add_zero] at e3
    have hpm : (nextI i a)[j] ∈ nextI i a := List.getElem_mem hj
    have hp0 := next_nat hm hpm
    obtain ⟨q, hq⟩ : ∃ q : Nat, (nextI i a)[j] = q := ⟨_, (Int.toNat_of_nonneg hp0).symm⟩
    have hjq : (nextI i a)[j]? = some ((q : Nat) : Int) := by rw [List.getElem?_eq_getElem hj, hq]
    rw [hq] at e3 hpm
    have hcmp : decide (((j : Nat) : Int) < (((nextI i a).length : Nat) : Int)) = true := decide_eq_true (by omega)
    have hals : aLen Tryd.prog 40 sv = some (.int .i64 ((nextI i a).length : Nat)) := by rw [row.alen ysl40.under, List.length_map]
    have hal : aLen Tryd.prog 40 hs = some (.int .i64 (h.length : Nat)) := by rw [hown.alen ysl40.under, intsC_len]
    have hah : a < h.length := (List.getElem?_eq_some_iff.1 hax).1
    obtain ⟨bh, Bh, ha, hNb, hbn, hBm, hrw, hcl, hidx, hget, hset⟩ := OwnI.blk hown hck.ext.wf (by omega)
    unfold F29_L1
    by_cases hge : ((q : Nat) : Int) ≥ ((h.length : Nat) : Int)
    · simp -implicitDefEqProofs only [go_sem, Nat.reduceAdd, Nat.reduceMul, Nat.reduceLT, Nat.reduceLeDiff, Nat.reduceEqDiff, Nat.reduceBEq, reduceCtorEq, Int.reduceLT, Int.reduceLE, Int.reduceEq, Int.reduceGT, Int.reduceGE, Int.reduceToNat, Int.reduceNeg, t7, t14, t15, hals, hcmp, e1, e3, hal, decide_eq_true hge]
      refine .mk (.inr ⟨by simp, .inr ⟨rfl, ?_, ?_, hck.ext, ?_⟩⟩)
      · simp -implicitDefEqProofs only [go_sem, Nat.reduceAdd, Nat.reduceMul, Nat.reduceLT, Nat.reduceLeDiff, Nat.reduceEqDiff, Nat.reduceBEq, reduceCtorEq, Int.reduceLT, Int.reduceLE, Int.reduceEq, Int.reduceGT, Int.reduceGE, Int.reduceToNat, Int.reduceNeg]
      · simp -implicitDefEqProofs only [go_sem, Nat.reduceAdd, Nat.reduceMul, Nat.reduceLT, Nat.reduceLeDiff, Nat.reduceEqDiff, Nat.reduceBEq, reduceCtorEq, Int.reduceLT, Int.reduceLE, Int.reduceEq, Int.reduceGT, Int.reduceGE, Int.reduceToNat, Int.reduceNeg]
      · refine W.none hi hax h0x (.inr ⟨_, hpm, fun q' e => ⟨0, .inr ?_⟩⟩)
        have := Int.ofNat_inj.1 e
        omega
    · have hql : q < h.length := by omega
      have hgq : h[q]? = some h[q] := List.getElem?_eq_getElem hql
      have hpos : h[q] = -1 ∨ 0 ≤ h[q] := (W.known q _ hgq).imp id fun h => h.1
      have hbk : ¬ Hb.next = bh := by omega
      have hbk' : ¬ bh = Hb.next := by omega
      by_cases hneg : h[q] < 0
      · have hq1 : h[q] = -1 := by omega
        have hgq' := hgq
        rw [hq1] at hgq'
        have haq : a ≠ q := by
          rintro rfl
          rw [hax] at hgq'
          cases hgq'
          omega
        have hW2 := (W.put hi hax h0x ho hpm hgq').loose
        have hng := negs_set hgq' hrg.2.2.1
        have hown2 := hset q (x - tk l i + lv l i) hql
        have hx2 : Ext Hb.next Hb (H1.put bh ⟨Bh.cells.set q (.int .i64 (x - tk l i + lv l i)), Bh.elem, true⟩) := hck.ext.put (by omega) hbn _
        have hrow2 : Row (H1.put bh ⟨Bh.cells.set q (.int .i64 (x - tk l i + lv l i)), Bh.elem, true⟩) sv 1 ((nextI i a).map fun p => [.int .i64 p]) := row.keep fun b hb => by
          have := hsv b hb
          have := hhs bh ha
          have : ¬ b = bh := by omega
          simp [this]
        obtain ⟨pb', po', e1', _, e3'⟩ := hrow2.at (i := j) (by simpa using hj)
        have e3' := e3' 0 (by omega)
        simp only [List.getElem_map, List.getElem?_cons_zero, Nat.add_zero, hq] at e3'
        have hpp : pb' = pb ∧ po' = po := by
          have := (e1' .i64).symm.trans (e1 .i64)
          simpa using this
        obtain ⟨rfl, rfl⟩ := hpp
        have hcs1 : (Bh.cells.set q (.int .i64 (x - tk l i + lv l i)))[q]? = some (.int .i64 (x - tk l i + lv l i)) := List.getElem?_set_self (by omega)
        have hcs2 : (Bh.cells.set q (.int .i64 (x - tk l i + lv l i)))[a]? = some (.int .i64 x) := by rw [List.getElem?_set_ne (Ne.symm haq)]; exact hget a x hax
        have hqc : q < Bh.cells.length := by omega
        simp -implicitDefEqProofs only [go_sem, Nat.reduceAdd, Nat.reduceMul, Nat.reduceLT, Nat.reduceLeDiff, Nat.reduceEqDiff, Nat.reduceBEq, reduceCtorEq, Int.reduceLT, Int.reduceLE, Int.reduceEq, Int.reduceGT, Int.reduceGE, Int.reduceToNat, Int.reduceNeg, t7, t14, t15, hals, hcmp, e1, e3, hal, decide_eq_false hge, hidx _ _ hql, hBm, hget q _ hgq, decide_eq_true hneg, t10, hidx _ _ hah, hget a x hax, t12, t13, wrapR (x := x - tk l i) (by omega), wrapR (x := x - tk l i + lv l i) (by omega), hrw, hqc, F29_J0, e3', hcs1, hcs2, wrapS (i := j) (by omega)]
        refine .mk (.inl ⟨rfl, ⟨?_, ?_, ?_, ?_, ?_, ?_, ?_, ?_, hrow2, h.set q (x - tk l i + lv l i), true, ?_, ⟨hx2, by simp [hbk, hck.blk]⟩, hown2, ?_, ?_, by omega, fun _ => by omega, ?_⟩⟩)
        · simp -implicitDefEqProofs only [go_sem, Nat.reduceAdd, Nat.reduceMul, Nat.reduceLT, Nat.reduceLeDiff, Nat.reduceEqDiff, Nat.reduceBEq, reduceCtorEq, Int.reduceLT, Int.reduceLE, Int.reduceEq, Int.reduceGT, Int.reduceGE, Int.reduceToNat, Int.reduceNeg, t0]
        · simp -implicitDefEqProofs only [go_sem, Nat.reduceAdd, Nat.reduceMul, Nat.reduceLT, Nat.reduceLeDiff, Nat.reduceEqDiff, Nat.reduceBEq, reduceCtorEq, Int.reduceLT, Int.reduceLE, Int.reduceEq, Int.reduceGT, Int.reduceGE, Int.reduceToNat, Int.reduceNeg, t6]
        · simp -implicitDefEqProofs only [go_sem, Nat.reduceAdd, Nat.reduceMul, Nat.reduceLT, Nat.reduceLeDiff, Nat.reduceEqDiff, Nat.reduceBEq, reduceCtorEq, Int.reduceLT, Int.reduceLE, Int.reduceEq, Int.reduceGT, Int.reduceGE, Int.reduceToNat, Int.reduceNeg, t7]
        · simp -implicitDefEqProofs only [go_sem, Nat.reduceAdd, Nat.reduceMul, Nat.reduceLT, Nat.reduceLeDiff, Nat.reduceEqDiff, Nat.reduceBEq, reduceCtorEq, Int.reduceLT, Int.reduceLE, Int.reduceEq, Int.reduceGT, Int.reduceGE, Int.reduceToNat, Int.reduceNeg, t10]
        · simp -implicitDefEqProofs only [go_sem, Nat.reduceAdd, Nat.reduceMul, Nat.reduceLT, Nat.reduceLeDiff, Nat.reduceEqDiff, Nat.reduceBEq, reduceCtorEq, Int.reduceLT, Int.reduceLE, Int.reduceEq, Int.reduceGT, Int.reduceGE, Int.reduceToNat, Int.reduceNeg, t12]
        · simp -implicitDefEqProofs only [go_sem, Nat.reduceAdd, Nat.reduceMul, Nat.reduceLT, Nat.reduceLeDiff, Nat.reduceEqDiff, Nat.reduceBEq, reduceCtorEq, Int.reduceLT, Int.reduceLE, Int.reduceEq, Int.reduceGT, Int.reduceGE, Int.reduceToNat, Int.reduceNeg, t13]
        · simp -implicitDefEqProofs only [go_sem, Nat.reduceAdd, Nat.reduceMul, Nat.reduceLT, Nat.reduceLeDiff, Nat.reduceEqDiff, Nat.reduceBEq, reduceCtorEq, Int.reduceLT, Int.reduceLE, Int.reduceEq, Int.reduceGT, Int.reduceGE, Int.reduceToNat, Int.reduceNeg, t14]
        · simp -implicitDefEqProofs only [go_sem, Nat.reduceAdd, Nat.reduceMul, Nat.reduceLT, Nat.reduceLeDiff, Nat.reduceEqDiff, Nat.reduceBEq, reduceCtorEq, Int.reduceLT, Int.reduceLE, Int.reduceEq, Int.reduceGT, Int.reduceGE, Int.reduceToNat, Int.reduceNeg]
        · simp -implicitDefEqProofs only [go_sem, Nat.reduceAdd, Nat.reduceMul, Nat.reduceLT, Nat.reduceLeDiff, Nat.reduceEqDiff, Nat.reduceBEq, reduceCtorEq, Int.reduceLT, Int.reduceLE, Int.reduceEq, Int.reduceGT, Int.reduceGE, Int.reduceToNat, Int.reduceNeg]
        · exact ⟨hW2.len, hW2.zero, hW2.known, hW2.wait, fun _ _ _ _ _ _ hne _ => absurd (.inl rfl) hne⟩
        · rw [List.getElem?_set_ne (Ne.symm haq)]
          exact hax
        · intro j' hj' p hp
          by_cases hjj : j' = j
          · subst hjj
            rw [hjq] at hp
            cases hp
            exact ⟨q, rfl, List.getElem?_set_self hql⟩
          · obtain ⟨r, e, hr⟩ := hdone j' (by omega) p hp
            refine ⟨r, e, ?_⟩
            have : q ≠ r := by
              rintro rfl
              rw [hgq'] at hr
              have := Option.some.inj hr
              omega
            rw [List.getElem?_set_ne this]
            exact hr
      · by_cases heq : h[q] = x - tk l i + lv l i
        · simp -implicitDefEqProofs only [go_sem, Nat.reduceAdd, Nat.reduceMul, Nat.reduceLT, Nat.reduceLeDiff, Nat.reduceEqDiff, Nat.reduceBEq, reduceCtorEq, Int.reduceLT, Int.reduceLE, Int.reduceEq, Int.reduceGT, Int.reduceGE, Int.reduceToNat, Int.reduceNeg, t7, t14, t15, hals, hcmp, e1, e3, hal, decide_eq_false hge, hidx _ _ hql, hBm, hget q _ hgq, decide_eq_false hneg, t10, hidx _ _ hah, hget a x hax, t12, t13, wrapR (x := x - tk l i) (by omega), wrapR (x := x - tk l i + lv l i) (by omega), F29_J0, decide_eq_true heq, wrapS (i := j) (by omega)]
          refine .mk (.inl ⟨rfl, ⟨?_, ?_, ?_, ?_, ?_, ?_, ?_, ?_, row, h, more, ?_, hck, hown, W, hax, hn0, hmore, ?_⟩⟩)
          · simp -implicitDefEqProofs only [go_sem, Nat.reduceAdd, Nat.reduceMul, Nat.reduceLT, Nat.reduceLeDiff, Nat.reduceEqDiff, Nat.reduceBEq, reduceCtorEq, Int.reduceLT, Int.reduceLE, Int.reduceEq, Int.reduceGT, Int.reduceGE, Int.reduceToNat, Int.reduceNeg, t0]
          · simp -implicitDefEqProofs only [go_sem, Nat.reduceAdd, Nat.reduceMul, Nat.reduceLT, Nat.reduceLeDiff, Nat.reduceEqDiff, Nat.reduceBEq, reduceCtorEq, Int.reduceLT, Int.reduceLE, Int.reduceEq, Int.reduceGT, Int.reduceGE, Int.reduceToNat, Int.reduceNeg, t6]
          · simp -implicitDefEqProofs only [go_sem, Nat.reduceAdd, Nat.reduceMul, Nat.reduceLT, Nat.reduceLeDiff, Nat.reduceEqDiff, Nat.reduceBEq, reduceCtorEq, Int.reduceLT, Int.reduceLE, Int.reduceEq, Int.reduceGT, Int.reduceGE, Int.reduceToNat, Int.reduceNeg, t7]
          · simp -implicitDefEqProofs only [go_sem, Nat.reduceAdd, Nat.reduceMul, Nat.reduceLT, Nat.reduceLeDiff, Nat.reduceEqDiff, Nat.reduceBEq, reduceCtorEq, Int.reduceLT, Int.reduceLE, Int.reduceEq, Int.reduceGT, Int.reduceGE, Int.reduceToNat, Int.reduceNeg, t10]
          · simp -implicitDefEqProofs only [go_sem, Nat.reduceAdd, Nat.reduceMul, Nat.reduceLT, Nat.reduceLeDiff, Nat.reduceEqDiff, Nat.reduceBEq, reduceCtorEq, Int.reduceLT, Int.reduceLE, Int.reduceEq, Int.reduceGT, Int.reduceGE, Int.reduceToNat, Int.reduceNeg, t12]
          · simp -implicitDefEqProofs only [go_sem, Nat.reduceAdd, Nat.reduceMul, Nat.reduceLT, Nat.reduceLeDiff, Nat.reduceEqDiff, Nat.reduceBEq, reduceCtorEq, Int.reduceLT, Int.reduceLE, Int.reduceEq, Int.reduceGT, Int.reduceGE, Int.reduceToNat, Int.reduceNeg, t13]
          · simp -implicitDefEqProofs only [go_sem, Nat.reduceAdd, Nat.reduceMul, Nat.reduceLT, Nat.reduceLeDiff, Nat.reduceEqDiff, Nat.reduceBEq, reduceCtorEq, Int.reduceLT, Int.reduceLE, Int.reduceEq, Int.reduceGT, Int.reduceGE, Int.reduceToNat, Int.reduceNeg, t14]
          · simp -implicitDefEqProofs only [go_sem, Nat.reduceAdd, Nat.reduceMul, Nat.reduceLT, Nat.reduceLeDiff, Nat.reduceEqDiff, Nat.reduceBEq, reduceCtorEq, Int.reduceLT, Int.reduceLE, Int.reduceEq, Int.reduceGT, Int.reduceGE, Int.reduceToNat, Int.reduceNeg]
          · simp -implicitDefEqProofs only [go_sem, Nat.reduceAdd, Nat.reduceMul, Nat.reduceLT, Nat.reduceLeDiff, Nat.reduceEqDiff, Nat.reduceBEq, reduceCtorEq, Int.reduceLT, Int.reduceLE, Int.reduceEq, Int.reduceGT, Int.reduceGE, Int.reduceToNat, Int.reduceNeg, t9]
          · intro j' hj' p hp
            by_cases hjj : j' = j
            · subst hjj
              rw [hjq] at hp
              cases hp
              exact ⟨q, rfl, by rw [hgq, heq]⟩
            · exact hdone j' (by omega) p hp
        · simp -implicitDefEqProofs only [go_sem, Nat.reduceAdd, Nat.reduceMul, Nat.reduceLT, Nat.reduceLeDiff, Nat.reduceEqDiff, Nat.reduceBEq, reduceCtorEq, Int.reduceLT, Int.reduceLE, Int.reduceEq, Int.reduceGT, Int.reduceGE, Int.reduceToNat, Int.reduceNeg, t7, t14, t15, hals, hcmp, e1, e3, hal, decide_eq_false hge, hidx _ _ hql, hBm, hget q _ hgq, decide_eq_false hneg, t10, hidx _ _ hah, hget a x hax, t12, t13, wrapR (x := x - tk l i) (by omega), wrapR (x := x - tk l i + lv l i) (by omega), F29_J0, decide_eq_false heq]
          refine .mk (.inr ⟨by simp, .inr ⟨rfl, ?_, ?_, hck.ext, ?_⟩⟩)
          · simp -implicitDefEqProofs only [go_sem, Nat.reduceAdd, Nat.reduceMul, Nat.reduceLT, Nat.reduceLeDiff, Nat.reduceEqDiff, Nat.reduceBEq, reduceCtorEq, Int.reduceLT, Int.reduceLE, Int.reduceEq, Int.reduceGT, Int.reduceGE, Int.reduceToNat, Int.reduceNeg]
          · simp -implicitDefEqProofs only [go_sem, Nat.reduceAdd, Nat.reduceMul, Nat.reduceLT, Nat.reduceLeDiff, Nat.reduceEqDiff, Nat.reduceBEq, reduceCtorEq, Int.reduceLT, Int.reduceLE, Int.reduceEq, Int.reduceGT, Int.reduceGE, Int.reduceToNat, Int.reduceNeg]
          · refine W.none hi hax h0x (.inr ⟨_, hpm, fun q' e => ⟨h[q], .inl ?_⟩⟩)
            have := Int.ofNat_inj.1 e
            subst this
            exact ⟨hgq, by omega, heq⟩
  · rintro ⟨T1, H1⟩ ⟨t0, t6, t7, t10, t12, t13, t14, t15, row, h, more, t9, hck, hown, W, hax, hn0, hmore, hdone⟩
    simp only at t0 t6 t7 t10 t12 t13 t14 t15 row t9 hck hown
    have hcmp : decide ((((nextI i a).length : Nat) : Int) < (((nextI i a).length : Nat) : Int)) = false := decide_eq_false (by omega)
    have hals : aLen Tryd.prog 40 sv = some (.int .i64 ((nextI i a).length : Nat)) := by rw [row.alen ysl40.under, List.length_map]
    unfold F29_L1
    simp -implicitDefEqProofs only [go_sem, Nat.reduceAdd, Nat.reduceMul, Nat.reduceLT, Nat.reduceLeDiff, Nat.reduceEqDiff, Nat.reduceBEq, reduceCtorEq, Int.reduceLT, Int.reduceLE, Int.reduceEq, Int.reduceGT, Int.reduceGE, Int.reduceToNat, Int.reduceNeg, t14, t15, hals, hcmp]
    refine .mk ⟨by simp, .inl ⟨rfl, ⟨?_, ?_, ?_, ?_, ?_, ?_, ?_, ?_, row, h, more, ?_, hck, hown, W, hax, hn0, hmore, hdone⟩⟩⟩
    · simp -implicitDefEqProofs only [go_sem, Nat.reduceAdd, Nat.reduceMul, Nat.reduceLT, Nat.reduceLeDiff, Nat.reduceEqDiff, Nat.reduceBEq, reduceCtorEq, Int.reduceLT, Int.reduceLE, Int.reduceEq, Int.reduceGT, Int.reduceGE, Int.reduceToNat, Int.reduceNeg, t0]
    · simp -implicitDefEqProofs only [go_sem, Nat.reduceAdd, Nat.reduceMul, Nat.reduceLT, Nat.reduceLeDiff, Nat.reduceEqDiff, Nat.reduceBEq, reduceCtorEq, Int.reduceLT, Int.reduceLE, Int.reduceEq, Int.reduceGT, Int.reduceGE, Int.reduceToNat, Int.reduceNeg, t6]
    · simp -implicitDefEqProofs only [go_sem, Nat.reduceAdd, Nat.reduceMul, Nat.reduceLT, Nat.reduceLeDiff, Nat.reduceEqDiff, Nat.reduceBEq, reduceCtorEq, Int.reduceLT, Int.reduceLE, Int.reduceEq, Int.reduceGT, Int.reduceGE, Int.reduceToNat, Int.reduceNeg, t7]
    · simp -implicitDefEqProofs only [go_sem, Nat.reduceAdd, Nat.reduceMul, Nat.reduceLT, Nat.reduceLeDiff, Nat.reduceEqDiff, Nat.reduceBEq, reduceCtorEq, Int.reduceLT, Int.reduceLE, Int.reduceEq, Int.reduceGT, Int.reduceGE, Int.reduceToNat, Int.reduceNeg, t10]
    · simp -implicitDefEqProofs only [go_sem, Nat.reduceAdd, Nat.reduceMul, Nat.reduceLT, Nat.reduceLeDiff, Nat.reduceEqDiff, Nat.reduceBEq, reduceCtorEq, Int.reduceLT, Int.reduceLE, Int.reduceEq, Int.reduceGT, Int.reduceGE, Int.reduceToNat, Int.reduceNeg, t12]
    · simp -implicitDefEqProofs only [go_sem, Nat.reduceAdd, Nat.reduceMul, Nat.reduceLT, Nat.reduceLeDiff, Nat.reduceEqDiff, Nat.reduceBEq, reduceCtorEq, Int.reduceLT, Int.reduceLE, Int.reduceEq, Int.reduceGT, Int.reduceGE, Int.reduceToNat, Int.reduceNeg, t13]
    · simp -implicitDefEqProofs only [go_sem, Nat.reduceAdd, Nat.reduceMul, Nat.reduceLT, Nat.reduceLeDiff, Nat.reduceEqDiff, Nat.reduceBEq, reduceCtorEq, Int.reduceLT, Int.reduceLE, Int.reduceEq, Int.reduceGT, Int.reduceGE, Int.reduceToNat, Int.reduceNeg, t14]
    · simp -implicitDefEqProofs only [go_sem, Nat.reduceAdd, Nat.reduceMul, Nat.reduceLT, Nat.reduceLeDiff, Nat.reduceEqDiff, Nat.reduceBEq, reduceCtorEq, Int.reduceLT, Int.reduceLE, Int.reduceEq, Int.reduceGT, Int.reduceGE, Int.reduceToNat, Int.reduceNeg, t15]
    · simp -implicitDefEqProofs only [go_sem, Nat.reduceAdd, Nat.reduceMul, Nat.reduceLT, Nat.reduceLeDiff, Nat.reduceEqDiff, Nat.reduceBEq, reduceCtorEq, Int.reduceLT, Int.reduceLE, Int.reduceEq, Int.reduceGT, Int.reduceGE, Int.reduceToNat, Int.reduceNeg, t9]
end
end Go.Proofs.YthiflgncldmkjaaDoor
/- The document's heights: the fill, and one round. -/
set_option linter.unusedVariables false
set_option linter.unusedSimpArgs false
set_option maxRecDepth 100000
namespace Go.Proofs.YthiflgncldmkjaaDoor
open Go.Ri

section
variable {Hb : AH} {ls s : AV} {l : List Code} {c : Code}
def JF (Hb : AH) (ls s : AV) (c : Code) (i : Nat) (t : St) : Prop :=
  t.1 0 = ls ∧ t.1 6 = .ptr (some (Hb.next, 0)) ∧ t.1 8 = .int .i64 (i : Nat) ∧ Cr Hb s c t.2 ∧ OwnI (Hb.next + 1) t.2 (t.1 7) (List.replicate i (-1))
theorem jfill (d : Nat) (B : Base Hb ls s l c) (hlen : c.ins.length ≤ 65536) {T : Tm} {H : AH} (h0 : JF Hb ls s c 0 (T, H)) :
    Ret (Ri.iter big (F29_L5 (RT d) (Ri.iter big)) (T, H)) fun r => r.1 = .exit 0 ∧ JF Hb ls s c c.ins.length r.2 := by
  refine Ret.upTo (n := c.ins.length) (JF Hb ls s c) (by unfold big; omega) h0 ?_ ?_
  · rintro i ⟨T1, H1⟩ hi ⟨t0, t6, t8, hck, hown⟩
    simp only at t0 t6 t8 hck hown
    have hal := B.ins.alen
    have hcmp : decide (((i : Nat) : Int) < ((c.ins.length : Nat) : Int)) = true := decide_eq_true (by omega)
    obtain ⟨⟨hs', H2⟩, hap, g1, g2, g3, g4, g5⟩ := OwnI.more (x := -1) hown (Ext.self hck.ext.wf hck.lt) (by simp; omega)
    simp only at g1 g2 g3 g4 g5
    have hx2 : Ext Hb.next Hb H2 := hck.ext.trans (g2.less (Nat.le_succ _)) (Nat.le_refl _)
    have hb2 : H2.m Hb.next = some ⟨[s, .int .i64 c.cells, .int .i64 c.params, .bool c.answers], 24, true⟩ := by rw [g2.low _ (Nat.lt_succ_self _)]; exact hck.blk
    unfold F29_L5
    simp -implicitDefEqProofs only [go_sem, Nat.reduceAdd, Nat.reduceMul, Nat.reduceLT, Nat.reduceLeDiff, Nat.reduceEqDiff, Nat.reduceBEq, reduceCtorEq, Int.reduceLT, Int.reduceLE, Int.reduceEq, Int.reduceGT, Int.reduceGE, Int.reduceToNat, Int.reduceNeg, t6, t8, hck.blk, hal, hcmp, hap, wrapS (i := i) (by omega)]
    refine .mk (.inl ⟨rfl, ?_, ?_, ?_, ⟨hx2, hb2⟩, ?_⟩)
    · simp -implicitDefEqProofs only [go_sem, Nat.reduceAdd, Nat.reduceMul, Nat.reduceLT, Nat.reduceLeDiff, Nat.reduceEqDiff, Nat.reduceBEq, reduceCtorEq, Int.reduceLT, Int.reduceLE, Int.reduceEq, Int.reduceGT, Int.reduceGE, Int.reduceToNat, Int.reduceNeg, t0]
    · simp -implicitDefEqProofs only [go_sem, Nat.reduceAdd, Nat.reduceMul, Nat.reduceLT, Nat.reduceLeDiff, Nat.reduceEqDiff, Nat.reduceBEq, reduceCtorEq, Int.reduceLT, Int.reduceLE, Int.reduceEq, Int.reduceGT, Int.reduceGE, Int.reduceToNat, Int.reduceNeg, t6]
    · simp -implicitDefEqProofs only [go_sem, Nat.reduceAdd, Nat.reduceMul, Nat.reduceLT, Nat.reduceLeDiff, Nat.reduceEqDiff, Nat.reduceBEq, reduceCtorEq, Int.reduceLT, Int.reduceLE, Int.reduceEq, Int.reduceGT, Int.reduceGE, Int.reduceToNat, Int.reduceNeg]
    · simp -implicitDefEqProofs only [go_sem, Nat.reduceAdd, Nat.reduceMul, Nat.reduceLT, Nat.reduceLeDiff, Nat.reduceEqDiff, Nat.reduceBEq, reduceCtorEq, Int.reduceLT, Int.reduceLE, Int.reduceEq, Int.reduceGT, Int.reduceGE, Int.reduceToNat, Int.reduceNeg]
      rw [List.replicate_succ']
      exact g1
  · rintro ⟨T1, H1⟩ ⟨t0, t6, t8, hck, hown⟩
    simp only at t0 t6 t8 hck hown
    have hal := B.ins.alen
    have hcmp : decide (((c.ins.length : Nat) : Int) < ((c.ins.length : Nat) : Int)) = false := decide_eq_false (by omega)
    unfold F29_L5
    simp -implicitDefEqProofs only [go_sem, Nat.reduceAdd, Nat.reduceMul, Nat.reduceLT, Nat.reduceLeDiff, Nat.reduceEqDiff, Nat.reduceBEq, reduceCtorEq, Int.reduceLT, Int.reduceLE, Int.reduceEq, Int.reduceGT, Int.reduceGE, Int.reduceToNat, Int.reduceNeg, t6, t8, hck.blk, hal, hcmp]
    refine .mk ⟨by simp, rfl, ?_, ?_, ?_, hck, ?_⟩
    · simp -implicitDefEqProofs only [go_sem, Nat.reduceAdd, Nat.reduceMul, Nat.reduceLT, Nat.reduceLeDiff, Nat.reduceEqDiff, Nat.reduceBEq, reduceCtorEq, Int.reduceLT, Int.reduceLE, Int.reduceEq, Int.reduceGT, Int.reduceGE, Int.reduceToNat, Int.reduceNeg, t0]
    · simp -implicitDefEqProofs only [go_sem, Nat.reduceAdd, Nat.reduceMul, Nat.reduceLT, Nat.reduceLeDiff, Nat.reduceEqDiff, Nat.reduceBEq, reduceCtorEq, Int.reduceLT, Int.reduceLE, Int.reduceEq, Int.reduceGT, Int.reduceGE, Int.reduceToNat, Int.reduceNeg, t6]
    · simp -implicitDefEqProofs only [go_sem, Nat.reduceAdd, Nat.reduceMul, Nat.reduceLT, Nat.reduceLeDiff, Nat.reduceEqDiff, Nat.reduceBEq, reduceCtorEq, Int.reduceLT, Int.reduceLE, Int.reduceEq, Int.reduceGT, Int.reduceGE, Int.reduceToNat, Int.reduceNeg, t8]
    · simp -implicitDefEqProofs only [go_sem, Nat.reduceAdd, Nat.reduceMul, Nat.reduceLT, Nat.reduceLeDiff, Nat.reduceEqDiff, Nat.reduceBEq, reduceCtorEq, Int.reduceLT, Int.reduceLE, Int.reduceEq, Int.reduceGT, Int.reduceGE, Int.reduceToNat, Int.reduceNeg]
      exact hown

structure J2 (Hb : AH) (ls s : AV) (l : List Code) (c : Code) (hs : AV) (n0 : Nat) (a : Nat) (t : St) : Prop where
  t0 : t.1 0 = ls
  t6 : t.1 6 = .ptr (some (Hb.next, 0))
  t7 : t.1 7 = hs
  t10 : t.1 10 = .int .i64 (a : Nat)
  rest : ∃ (h : List Int) (more : Bool), t.1 9 = .bool more ∧ Cr Hb s c t.2 ∧ OwnI (Hb.next + 1) t.2 hs h ∧ Way l c h [] (fun b => more = true ∨ a ≤ b) ∧ negs h ≤ n0 ∧ (more = true → negs h < n0)
def EK (Hb : AH) (ls s : AV) (l : List Code) (c : Code) (hs : AV) (n0 : Nat) (r : Ex × St) : Prop :=
  (r.1 = .exit 4 ∧ J2 Hb ls s l c hs n0 c.ins.length r.2) ∨ (r.1 = .ret ∧ r.2.1 4 = .slice none 0 (.kn 0) ∧ r.2.1 5 = .bool false ∧ Ext Hb.next Hb r.2.2 ∧ ¬ ∃ g, Good l c g)
theorem Way.next_ {l : List Code} {c : Code} {h : List Int} {more : Bool} {a : Nat} (W : Way l c h [] (fun b => more = true ∨ a ≤ b))
    (hd : ∀ i x, c.ins[a]? = some i → h[a]? = some x → 0 ≤ x → Done l i a x h) : Way l c h [] (fun b => more = true ∨ a + 1 ≤ b) := by
  refine ⟨W.len, W.zero, W.known, W.wait, fun b i x hb h0 hw hne hi => ?_⟩
  by_cases hba : b = a
  · subst hba
    exact hd i x hi hb h0
  · refine W.done b i x hb h0 hw (fun h => hne ?_) hi
    rcases h with h | h
    · exact .inl h
    · exact .inr (by omega)
set_option maxHeartbeats 4000000 in
theorem jround (d : Nat) (B : Base Hb ls s l c) (hmay : ∀ i ∈ c.ins, mayI l c i = true) (hlen : c.ins.length ≤ 65536) {hs : AV} {n0 : Nat} {a : Nat} (hac : a < c.ins.length) {T : Tm} {H : AH}
    (hI : J2 Hb ls s l c hs n0 a (T, H)) : Ret (F29_L3 (RT (d + 1)) (Ri.iter big) (T, H)) fun r => (r.1 = .normal ∧ J2 Hb ls s l c hs n0 (a + 1) r.2) ∨ (r.1 ≠ .normal ∧ EK Hb ls s l c hs n0 r) := by
  obtain ⟨t0, t6, t7, t10, h, more, t9, hck, hown, W, hn0, hmore⟩ := hI
  simp only at t0 t6 t7 t10 t9 hck hown
  have hhl := W.len
  have hah : a < h.length := by omega
  have hcmp : decide (((a : Nat) : Int) < ((h.length : Nat) : Int)) = true := decide_eq_true (by omega)
  have hal : aLen Tryd.prog 40 hs = some (.int .i64 (h.length : Nat)) := by rw [hown.alen ysl40.under, intsC_len]
  obtain ⟨bh, Bh, ha, hNb, hbn, hBm, hrw, hcl, hidx, hget, hset⟩ := OwnI.blk hown hck.ext.wf (by omega)
  obtain ⟨x, hax⟩ : ∃ x, h[a]? = some x := ⟨_, List.getElem?_eq_getElem hah⟩
  have hpos : x = -1 ∨ 0 ≤ x := (W.known a x hax).imp id fun h => h.1
  have hws : IntKind.i64.wrap (((a : Nat) : Int) + 1) = ((a + 1 : Nat) : Int) := wrapS (i := a) (by omega)
  unfold F29_L3
  by_cases hneg : x < 0
  · simp -implicitDefEqProofs only [go_sem, Nat.reduceAdd, Nat.reduceMul, Nat.reduceLT, Nat.reduceLeDiff, Nat.reduceEqDiff, Nat.reduceBEq, reduceCtorEq, Int.reduceLT, Int.reduceLE, Int.reduceEq, Int.reduceGT, Int.reduceGE, Int.reduceToNat, Int.reduceNeg, t7, t10, hal, hcmp, hidx _ _ hah, hBm, hget a x hax, decide_eq_true hneg, F29_J2, hws]
    refine .mk (.inl ⟨rfl, ?_, ?_, ?_, ?_, h, more, ?_, hck, hown, W.next_ fun i y _ hy h0 => ?_, hn0, hmore⟩)
    · simp -implicitDefEqProofs only [go_sem, Nat.reduceAdd, Nat.reduceMul, Nat.reduceLT, Nat.reduceLeDiff, Nat.reduceEqDiff, Nat.reduceBEq, reduceCtorEq, Int.reduceLT, Int.reduceLE, Int.reduceEq, Int.reduceGT, Int.reduceGE, Int.reduceToNat, Int.reduceNeg, t0]
    · simp -implicitDefEqProofs only [go_sem, Nat.reduceAdd, Nat.reduceMul, Nat.reduceLT, Nat.reduceLeDiff, Nat.reduceEqDiff, Nat.reduceBEq, reduceCtorEq, Int.reduceLT, Int.reduceLE, Int.reduceEq, Int.reduceGT, Int.reduceGE, Int.reduceToNat, Int.reduceNeg, t6]
    · simp -implicitDefEqProofs only [go_sem, Nat.reduceAdd, Nat.reduceMul, Nat.reduceLT, Nat.reduceLeDiff, Nat.reduceEqDiff, Nat.reduceBEq, reduceCtorEq, Int.reduceLT, Int.reduceLE, Int.reduceEq, Int.reduceGT, Int.reduceGE, Int.reduceToNat, Int.reduceNeg, t7]
    · simp -implicitDefEqProofs only [go_sem, Nat.reduceAdd, Nat.reduceMul, Nat.reduceLT, Nat.reduceLeDiff, Nat.reduceEqDiff, Nat.reduceBEq, reduceCtorEq, Int.reduceLT, Int.reduceLE, Int.reduceEq, Int.reduceGT, Int.reduceGE, Int.reduceToNat, Int.reduceNeg]
    · simp -implicitDefEqProofs only [go_sem, Nat.reduceAdd, Nat.reduceMul, Nat.reduceLT, Nat.reduceLeDiff, Nat.reduceEqDiff, Nat.reduceBEq, reduceCtorEq, Int.reduceLT, Int.reduceLE, Int.reduceEq, Int.reduceGT, Int.reduceGE, Int.reduceToNat, Int.reduceNeg, t9]
    · rw [hax] at hy
      cases hy
      omega
  · have h0x : 0 ≤ x := by omega
    obtain ⟨i, hi⟩ : ∃ i, c.ins[a]? = some i := ⟨_, List.getElem?_eq_getElem hac⟩
    have him : i ∈ c.ins := List.mem_of_getElem? hi
    have hm := hmay i him
    have hsub := hck.ext.sub B.wf
    have hins : InsRow H s c.ins := ⟨B.ins.1.mono hsub, B.ins.2⟩
    obtain ⟨pb, po, e1, e2, _⟩ := hins.1.at (i := a) (by simpa using hac)
    simp only [List.getElem_map] at e2
    have hig : c.ins[a] = i := by rw [List.getElem?_eq_getElem hac] at hi; exact Option.some.inj hi
    rw [hig] at e2
    have hin : insC i = [.int .i64 i.op, .int .i64 i.n, .int .i64 i.m] := rfl
    have hkn : ¬ Hb.next = H.next := Nat.ne_of_lt hck.lt
    have hbn' : ¬ bh = H.next := by omega
    have hx1 : Ext Hb.next Hb (H.new (insC i) 29) := hck.ext.new _ _
    obtain ⟨⟨v, H2⟩, h71, hv, hx2⟩ := effect_spec d hx1.wf (B.codes.mono (hx1.sub B.wf)) (i := i) hm
    simp only at hv hx2
    subst hv
    simp only [new_next] at hx2
    have hx12 : Ext Hb.next Hb H2 := hx1.trans hx2 (by have := hck.lt; omega)
    have hb2 : H2.m bh = some Bh := by rw [hx2.low bh (by omega)]; simp [hbn', hBm]
    have hi2 : H2.m H.next = some ⟨insC i, 29, true⟩ := by rw [hx2.low _ (by omega)]; simp
    obtain ⟨⟨sv, H3⟩, h72, hrow3, hx3, hat3⟩ := follow_spec d hx12.wf i (a := a) (by omega)
    simp only at hrow3 hx3 hat3
    have hn2 : H.next < H2.next := hx12.wf _ _ hi2
    have old : ∀ b, b < H.next → H3.m b = H.m b := fun b hb => by
      rw [hx3.low b (by omega), hx2.low b (by omega)]
      have h1 : ¬ b = H.next := by omega
      simp [h1]
    have hlow : ∀ b, At hs b → b < H2.next := fun b hb => by
      obtain ⟨B', h1, _⟩ := hown.at hb
      have := hck.ext.wf _ _ h1
      omega
    have hlow1 : ∀ b, At hs b → b < H.next := fun b hb => by
      obtain ⟨B', h1, _⟩ := hown.at hb
      exact hck.ext.wf _ _ h1
    have hck3 : Cr Hb s c H3 := ⟨hx12.trans hx3 (by have := hck.lt; omega), by rw [old _ hck.lt]; exact hck.blk⟩
    have bad : ¬ okAt l i x → ¬ ∃ g, Good l c g := fun hb => W.none hi hax h0x (.inl hb)
    have tail : okAt l i x → ∀ T' : Tm, T' 0 = ls → T' 6 = .ptr (some (Hb.next, 0)) → T' 7 = hs → T' 9 = .bool more → T' 10 = .int .i64 (a : Nat) → T' 12 = .int .i64 (tk l i) → T' 13 = .int .i64 (lv l i) → T' 14 = sv → T' 15 = .int .i64 0 →
        Ret (jn ((Ri.iter big (F29_L1 (RT (d + 1)) (Ri.iter big)) (T', H3)).bind fun r137 => match r137.1 with
           | .normal => none
           | .exit j138 => if j138 = 6 then
           (some (.inl (r137.2.1, r137.2.2)))
           else
           (if j138 = 5 then some (.inl (r137.2.1, r137.2.2)) else (some (.exit j138, r137.2.1, r137.2.2)).map .inr)
           | .ret => (some (.ret, r137.2.1, r137.2.2)).map .inr) (F29_J2 (RT (d + 1)) (Ri.iter big))) fun r => (r.1 = .normal ∧ J2 Hb ls s l c hs n0 (a + 1) r.2) ∨ (r.1 ≠ .normal ∧ EK Hb ls s l c hs n0 r) := by
      intro ho T' a0 a6 a7 a9 a10 a12 a13 a14 a15
      obtain ⟨⟨e, T4, H4⟩, hit, hE⟩ := jloop1 (d + 1) hm hi h0x ho (N1 := H2.next) (sv := sv) (hs := hs) (n0 := n0) (Hb := Hb) (ls := ls) (s := s) (T := T') (H := H3) hlen (fun b ⟨o, n, cc, e⟩ => (hat3 b o n cc e).1) hlow
        ⟨a0, a6, a7, a10, a12, a13, a14, a15, hrow3, h, more, a9, hck3, hown.to fun b hb => old b (hlow1 b hb), W, hax, hn0, hmore, fun j' hj' => absurd hj' (Nat.not_lt_zero _)⟩
      rcases hE with ⟨he, q⟩ | ⟨he, q1, q2, q3, q4⟩
      · simp only at he
        subst he
        obtain ⟨b0, b6, b7, b10, _, _, _, _, _, h4, more4, k1, k2, k3, k4, k5, k6, k7, k8⟩ := q
        simp only at b0 b6 b7 b10 k1 k2 k3
        simp -implicitDefEqProofs only [go_sem, Nat.reduceAdd, Nat.reduceMul, Nat.reduceLT, Nat.reduceLeDiff, Nat.reduceEqDiff, Nat.reduceBEq, reduceCtorEq, Int.reduceLT, Int.reduceLE, Int.reduceEq, Int.reduceGT, Int.reduceGE, Int.reduceToNat, Int.reduceNeg, hit, F29_J2, b10, hws]
        refine .mk (.inl ⟨rfl, ?_, ?_, ?_, ?_, h4, more4, ?_, k2, k3, k4.next_ fun i' y hi' hy hy0 => ?_, k6, k7⟩)
        · simp -implicitDefEqProofs only [go_sem, Nat.reduceAdd, Nat.reduceMul, Nat.reduceLT, Nat.reduceLeDiff, Nat.reduceEqDiff, Nat.reduceBEq, reduceCtorEq, Int.reduceLT, Int.reduceLE, Int.reduceEq, Int.reduceGT, Int.reduceGE, Int.reduceToNat, Int.reduceNeg, b0]
        · simp -implicitDefEqProofs only [go_sem, Nat.reduceAdd, Nat.reduceMul, Nat.reduceLT, Nat.reduceLeDiff, Nat.reduceEqDiff, Nat.reduceBEq, reduceCtorEq, Int.reduceLT, Int.reduceLE, Int.reduceEq, Int.reduceGT, Int.reduceGE, Int.reduceToNat, Int.reduceNeg, b6]
        · simp -implicitDefEqProofs only [go_sem, Nat.reduceAdd, Nat.reduceMul, Nat.reduceLT, Nat.reduceLeDiff, Nat.reduceEqDiff, Nat.reduceBEq, reduceCtorEq, Int.reduceLT, Int.reduceLE, Int.reduceEq, Int.reduceGT, Int.reduceGE, Int.reduceToNat, Int.reduceNeg, b7]
        · simp -implicitDefEqProofs only [go_sem, Nat.reduceAdd, Nat.reduceMul, Nat.reduceLT, Nat.reduceLeDiff, Nat.reduceEqDiff, Nat.reduceBEq, reduceCtorEq, Int.reduceLT, Int.reduceLE, Int.reduceEq, Int.reduceGT, Int.reduceGE, Int.reduceToNat, Int.reduceNeg]
        · simp -implicitDefEqProofs only [go_sem, Nat.reduceAdd, Nat.reduceMul, Nat.reduceLT, Nat.reduceLeDiff, Nat.reduceEqDiff, Nat.reduceBEq, reduceCtorEq, Int.reduceLT, Int.reduceLE, Int.reduceEq, Int.reduceGT, Int.reduceGE, Int.reduceToNat, Int.reduceNeg, k1]
        · rw [hi] at hi'
          cases hi'
          rw [k5] at hy
          cases hy
          refine ⟨ho, fun p hp => ?_⟩
          obtain ⟨j, hj⟩ := List.mem_iff_getElem?.1 hp
          exact k8 j (List.getElem?_eq_some_iff.1 hj).1 p hj
      · simp only at he q1 q2 q3
        subst he
        simp -implicitDefEqProofs only [go_sem, Nat.reduceAdd, Nat.reduceMul, Nat.reduceLT, Nat.reduceLeDiff, Nat.reduceEqDiff, Nat.reduceBEq, reduceCtorEq, Int.reduceLT, Int.reduceLE, Int.reduceEq, Int.reduceGT, Int.reduceGE, Int.reduceToNat, Int.reduceNeg, hit]
        exact .mk (.inr ⟨by simp, .inr ⟨rfl, q1, q2, q3, q4⟩⟩)
    rw [hin] at e2 h71 hi2 h72
    have done : ∀ T' : Tm, T' 4 = .slice none 0 (.kn 0) → T' 5 = .bool false → ¬ okAt l i x → Ret (some (Ex.ret, T', H2)) fun r => (r.1 = .normal ∧ J2 Hb ls s l c hs n0 (a + 1) r.2) ∨ (r.1 ≠ .normal ∧ EK Hb ls s l c hs n0 r) :=
      fun T' h4 h5 hb => .mk (.inr ⟨by simp, .inr ⟨rfl, h4, h5, hx12, bad hb⟩⟩)
    by_cases q1 : x < tk l i
    · simp -implicitDefEqProofs only [go_sem, Nat.reduceAdd, Nat.reduceMul, Nat.reduceLT, Nat.reduceLeDiff, Nat.reduceEqDiff, Nat.reduceBEq, reduceCtorEq, Int.reduceLT, Int.reduceLE, Int.reduceEq, Int.reduceGT, Int.reduceGE, Int.reduceToNat, Int.reduceNeg, t0, t6, t7, t10, hal, hcmp, hidx _ _ hah, hBm, hget a x hax, decide_eq_false hneg, hck.blk, e1, e2, new_put, h71, hb2, hi2, decide_eq_true q1]
      exact done _ (by simp -implicitDefEqProofs only [go_sem, Nat.reduceAdd, Nat.reduceMul, Nat.reduceLT, Nat.reduceLeDiff, Nat.reduceEqDiff, Nat.reduceBEq, reduceCtorEq, Int.reduceLT, Int.reduceLE, Int.reduceEq, Int.reduceGT, Int.reduceGE, Int.reduceToNat, Int.reduceNeg]) (by simp -implicitDefEqProofs only [go_sem, Nat.reduceAdd, Nat.reduceMul, Nat.reduceLT, Nat.reduceLeDiff, Nat.reduceEqDiff, Nat.reduceBEq, reduceCtorEq, Int.reduceLT, Int.reduceLE, Int.reduceEq, Int.reduceGT, Int.reduceGE, Int.reduceToNat, Int.reduceNeg]) fun h => by have := h.1; omega
    by_cases q2 : x > 4096
    · simp -implicitDefEqProofs only [go_sem, Nat.reduceAdd, Nat.reduceMul, Nat.reduceLT, Nat.reduceLeDiff, Nat.reduceEqDiff, Nat.reduceBEq, reduceCtorEq, Int.reduceLT, Int.reduceLE, Int.reduceEq, Int.reduceGT, Int.reduceGE, Int.reduceToNat, Int.reduceNeg, t0, t6, t7, t10, hal, hcmp, hidx _ _ hah, hBm, hget a x hax, decide_eq_false hneg, hck.blk, e1, e2, new_put, h71, hb2, hi2, decide_eq_false q1, decide_eq_true q2]
      exact done _ (by simp -implicitDefEqProofs only [go_sem, Nat.reduceAdd, Nat.reduceMul, Nat.reduceLT, Nat.reduceLeDiff, Nat.reduceEqDiff, Nat.reduceBEq, reduceCtorEq, Int.reduceLT, Int.reduceLE, Int.reduceEq, Int.reduceGT, Int.reduceGE, Int.reduceToNat, Int.reduceNeg]) (by simp -implicitDefEqProofs only [go_sem, Nat.reduceAdd, Nat.reduceMul, Nat.reduceLT, Nat.reduceLeDiff, Nat.reduceEqDiff, Nat.reduceBEq, reduceCtorEq, Int.reduceLT, Int.reduceLE, Int.reduceEq, Int.reduceGT, Int.reduceGE, Int.reduceToNat, Int.reduceNeg]) fun h => by have := h.2.1; omega
    by_cases q24 : i.op = 24
    · have q20 : ¬ i.op = 20 := by omega
      by_cases q4 : x = 0
      · simp -implicitDefEqProofs only [go_sem, Nat.reduceAdd, Nat.reduceMul, Nat.reduceLT, Nat.reduceLeDiff, Nat.reduceEqDiff, Nat.reduceBEq, reduceCtorEq, Int.reduceLT, Int.reduceLE, Int.reduceEq, Int.reduceGT, Int.reduceGE, Int.reduceToNat, Int.reduceNeg, t0, t6, t7, t10, hal, hcmp, hidx _ _ hah, hBm, hget a x hax, decide_eq_false hneg, hck.blk, e1, e2, new_put, h71, hb2, hi2, decide_eq_false q1, decide_eq_false q2, decide_eq_true q24, decide_eq_true q4, decide_eq_false q20, h72]
        refine tail ⟨by omega, by omega, fun h => absurd h q20, fun _ => q4⟩ _ ?_ ?_ ?_ ?_ ?_ ?_ ?_ ?_ ?_ <;> simp -implicitDefEqProofs only [go_sem, Nat.reduceAdd, Nat.reduceMul, Nat.reduceLT, Nat.reduceLeDiff, Nat.reduceEqDiff, Nat.reduceBEq, reduceCtorEq, Int.reduceLT, Int.reduceLE, Int.reduceEq, Int.reduceGT, Int.reduceGE, Int.reduceToNat, Int.reduceNeg, t0, t6, t7, t9, t10]
      · simp -implicitDefEqProofs only [go_sem, Nat.reduceAdd, Nat.reduceMul, Nat.reduceLT, Nat.reduceLeDiff, Nat.reduceEqDiff, Nat.reduceBEq, reduceCtorEq, Int.reduceLT, Int.reduceLE, Int.reduceEq, Int.reduceGT, Int.reduceGE, Int.reduceToNat, Int.reduceNeg, t0, t6, t7, t10, hal, hcmp, hidx _ _ hah, hBm, hget a x hax, decide_eq_false hneg, hck.blk, e1, e2, new_put, h71, hb2, hi2, decide_eq_false q1, decide_eq_false q2, decide_eq_true q24, decide_eq_false q4]
        exact done _ (by simp -implicitDefEqProofs only [go_sem, Nat.reduceAdd, Nat.reduceMul, Nat.reduceLT, Nat.reduceLeDiff, Nat.reduceEqDiff, Nat.reduceBEq, reduceCtorEq, Int.reduceLT, Int.reduceLE, Int.reduceEq, Int.reduceGT, Int.reduceGE, Int.reduceToNat, Int.reduceNeg]) (by simp -implicitDefEqProofs only [go_sem, Nat.reduceAdd, Nat.reduceMul, Nat.reduceLT, Nat.reduceLeDiff, Nat.reduceEqDiff, Nat.reduceBEq, reduceCtorEq, Int.reduceLT, Int.reduceLE, Int.reduceEq, Int.reduceGT, Int.reduceGE, Int.reduceToNat, Int.reduceNeg]) fun h => q4 (h.2.2.2 q24)
    by_cases q20 : i.op = 20
    · by_cases q3 : x = tk l i
      · simp -implicitDefEqProofs only [go_sem, Nat.reduceAdd, Nat.reduceMul, Nat.reduceLT, Nat.reduceLeDiff, Nat.reduceEqDiff, Nat.reduceBEq, reduceCtorEq, Int.reduceLT, Int.reduceLE, Int.reduceEq, Int.reduceGT, Int.reduceGE, Int.reduceToNat, Int.reduceNeg, t0, t6, t7, t10, hal, hcmp, hidx _ _ hah, hBm, hget a x hax, decide_eq_false hneg, hck.blk, e1, e2, new_put, h71, hb2, hi2, decide_eq_false q1, decide_eq_false q2, decide_eq_false q24, decide_eq_true q20, decide_eq_true q3, h72]
        refine tail ⟨by omega, by omega, fun _ => q3, fun h => absurd h q24⟩ _ ?_ ?_ ?_ ?_ ?_ ?_ ?_ ?_ ?_ <;> simp -implicitDefEqProofs only [go_sem, Nat.reduceAdd, Nat.reduceMul, Nat.reduceLT, Nat.reduceLeDiff, Nat.reduceEqDiff, Nat.reduceBEq, reduceCtorEq, Int.reduceLT, Int.reduceLE, Int.reduceEq, Int.reduceGT, Int.reduceGE, Int.reduceToNat, Int.reduceNeg, t0, t6, t7, t9, t10]
      · simp -implicitDefEqProofs only [go_sem, Nat.reduceAdd, Nat.reduceMul, Nat.reduceLT, Nat.reduceLeDiff, Nat.reduceEqDiff, Nat.reduceBEq, reduceCtorEq, Int.reduceLT, Int.reduceLE, Int.reduceEq, Int.reduceGT, Int.reduceGE, Int.reduceToNat, Int.reduceNeg, t0, t6, t7, t10, hal, hcmp, hidx _ _ hah, hBm, hget a x hax, decide_eq_false hneg, hck.blk, e1, e2, new_put, h71, hb2, hi2, decide_eq_false q1, decide_eq_false q2, decide_eq_false q24, decide_eq_true q20, decide_eq_false q3]
        exact done _ (by simp -implicitDefEqProofs only [go_sem, Nat.reduceAdd, Nat.reduceMul, Nat.reduceLT, Nat.reduceLeDiff, Nat.reduceEqDiff, Nat.reduceBEq, reduceCtorEq, Int.reduceLT, Int.reduceLE, Int.reduceEq, Int.reduceGT, Int.reduceGE, Int.reduceToNat, Int.reduceNeg]) (by simp -implicitDefEqProofs only [go_sem, Nat.reduceAdd, Nat.reduceMul, Nat.reduceLT, Nat.reduceLeDiff, Nat.reduceEqDiff, Nat.reduceBEq, reduceCtorEq, Int.reduceLT, Int.reduceLE, Int.reduceEq, Int.reduceGT, Int.reduceGE, Int.reduceToNat, Int.reduceNeg]) fun h => q3 (h.2.2.1 q20)
    · simp -implicitDefEqProofs only [go_sem, Nat.reduceAdd, Nat.reduceMul, Nat.reduceLT, Nat.reduceLeDiff, Nat.reduceEqDiff, Nat.reduceBEq, reduceCtorEq, Int.reduceLT, Int.reduceLE, Int.reduceEq, Int.reduceGT, Int.reduceGE, Int.reduceToNat, Int.reduceNeg, t0, t6, t7, t10, hal, hcmp, hidx _ _ hah, hBm, hget a x hax, decide_eq_false hneg, hck.blk, e1, e2, new_put, h71, hb2, hi2, decide_eq_false q1, decide_eq_false q2, decide_eq_false q24, decide_eq_false q20, h72]
      refine tail ⟨by omega, by omega, fun h => absurd h q20, fun h => absurd h q24⟩ _ ?_ ?_ ?_ ?_ ?_ ?_ ?_ ?_ ?_ <;> simp -implicitDefEqProofs only [go_sem, Nat.reduceAdd, Nat.reduceMul, Nat.reduceLT, Nat.reduceLeDiff, Nat.reduceEqDiff, Nat.reduceBEq, reduceCtorEq, Int.reduceLT, Int.reduceLE, Int.reduceEq, Int.reduceGT, Int.reduceGE, Int.reduceToNat, Int.reduceNeg, t0, t6, t7, t9, t10]
end
end Go.Proofs.YthiflgncldmkjaaDoor
/- The document's heights: what the function comes to. -/
set_option linter.unusedVariables false
set_option linter.unusedSimpArgs false
set_option maxRecDepth 100000
namespace Go.Proofs.YthiflgncldmkjaaDoor
open Go.Ri

theorem AH.ldN_sub {H H' : AH} (hs : H.sub H') {p : Nat × Nat} {n : Nat} {v : List AV} (h : H.ldN p n = some v) : H'.ldN p n = some v := by
  unfold AH.ldN at h ⊢
  cases hB : H.m p.1 with
  | none => simp [hB] at h
  | some B => simp only [hB] at h; simp only [hs _ _ hB]; exact h
theorem ldAgg_sub {H H' : AH} (hs : H.sub H') {p : Nat × Nat} {n : Nat} {v : AV} (h : ldAgg (.ptr (some p)) n H = some v) : ldAgg (.ptr (some p)) n H' = some v := by
  unfold ldAgg at h ⊢
  simp only [Option.map_eq_some_iff] at h ⊢
  obtain ⟨a, h1, h2⟩ := h
  exact ⟨a, AH.ldN_sub hs h1, h2⟩

section
variable {Hb : AH} {ls s : AV} {l : List Code} {c : Code}
structure JO (Hb : AH) (ls s : AV) (l : List Code) (c : Code) (hs : AV) (f : Nat) (t : St) : Prop where
  t0 : t.1 0 = ls
  t6 : t.1 6 = .ptr (some (Hb.next, 0))
  t7 : t.1 7 = hs
  rest : ∃ (h : List Int) (more : Bool), t.1 9 = .bool more ∧ Cr Hb s c t.2 ∧ OwnI (Hb.next + 1) t.2 hs h ∧ ((more = true ∧ Way l c h [] (fun _ => True) ∧ negs h + 2 ≤ f) ∨ (more = false ∧ Good l c h ∧ 1 ≤ f))
def EO (Hb : AH) (ls s : AV) (l : List Code) (c : Code) (hs : AV) (r : Ex × St) : Prop :=
  (r.1 = .exit 2 ∧ r.2.1 7 = hs ∧ Cr Hb s c r.2.2 ∧ ∃ h, OwnI (Hb.next + 1) r.2.2 hs h ∧ Good l c h) ∨ (r.1 = .ret ∧ r.2.1 4 = .slice none 0 (.kn 0) ∧ r.2.1 5 = .bool false ∧ Ext Hb.next Hb r.2.2 ∧ ¬ ∃ g, Good l c g)
theorem jloop3 (d : Nat) (B : Base Hb ls s l c) (hmay : ∀ i ∈ c.ins, mayI l c i = true) (hlen : c.ins.length ≤ 65536) (h1 : 1 ≤ c.ins.length) {hs : AV} {n0 : Nat} {T : Tm} {H : AH} (h0 : J2 Hb ls s l c hs n0 0 (T, H)) :
    Ret (Ri.iter big (F29_L3 (RT (d + 1)) (Ri.iter big)) (T, H)) (EK Hb ls s l c hs n0) := by
  refine Ret.upTo (n := c.ins.length) (J2 Hb ls s l c hs n0) (by unfold big; omega) h0 (fun a t ha hI => jround d B hmay hlen ha hI) ?_
  rintro ⟨T1, H1⟩ ⟨t0, t6, t7, t10, h, more, t9, hck, hown, W, hn0, hmore⟩
  simp only at t0 t6 t7 t10 t9 hck hown
  have hcmp : decide (((c.ins.length : Nat) : Int) < ((h.length : Nat) : Int)) = false := decide_eq_false (by have := W.len; omega)
  have hal : aLen Tryd.prog 40 hs = some (.int .i64 (h.length : Nat)) := by rw [hown.alen ysl40.under, intsC_len]
  unfold F29_L3
  simp -implicitDefEqProofs only [go_sem, Nat.reduceAdd, Nat.reduceMul, Nat.reduceLT, Nat.reduceLeDiff, Nat.reduceEqDiff, Nat.reduceBEq, reduceCtorEq, Int.reduceLT, Int.reduceLE, Int.reduceEq, Int.reduceGT, Int.reduceGE, Int.reduceToNat, Int.reduceNeg, t7, t10, hal, hcmp]
  refine .mk ⟨by simp, .inl ⟨rfl, ?_, ?_, ?_, ?_, h, more, ?_, hck, hown, W, hn0, hmore⟩⟩
  · simp -implicitDefEqProofs only [go_sem, Nat.reduceAdd, Nat.reduceMul, Nat.reduceLT, Nat.reduceLeDiff, Nat.reduceEqDiff, Nat.reduceBEq, reduceCtorEq, Int.reduceLT, Int.reduceLE, Int.reduceEq, Int.reduceGT, Int.reduceGE, Int.reduceToNat, Int.reduceNeg, t0]
  · simp -implicitDefEqProofs only [go_sem, Nat.reduceAdd, Nat.reduceMul, Nat.reduceLT, Nat.reduceLeDiff, Nat.reduceEqDiff, Nat.reduceBEq, reduceCtorEq, Int.reduceLT, Int.reduceLE, Int.reduceEq, Int.reduceGT, Int.reduceGE, Int.reduceToNat, Int.reduceNeg, t6]
  · simp -implicitDefEqProofs only [go_sem, Nat.reduceAdd, Nat.reduceMul, Nat.reduceLT, Nat.reduceLeDiff, Nat.reduceEqDiff, Nat.reduceBEq, reduceCtorEq, Int.reduceLT, Int.reduceLE, Int.reduceEq, Int.reduceGT, Int.reduceGE, Int.reduceToNat, Int.reduceNeg, t7]
  · simp -implicitDefEqProofs only [go_sem, Nat.reduceAdd, Nat.reduceMul, Nat.reduceLT, Nat.reduceLeDiff, Nat.reduceEqDiff, Nat.reduceBEq, reduceCtorEq, Int.reduceLT, Int.reduceLE, Int.reduceEq, Int.reduceGT, Int.reduceGE, Int.reduceToNat, Int.reduceNeg, t10]
  · simp -implicitDefEqProofs only [go_sem, Nat.reduceAdd, Nat.reduceMul, Nat.reduceLT, Nat.reduceLeDiff, Nat.reduceEqDiff, Nat.reduceBEq, reduceCtorEq, Int.reduceLT, Int.reduceLE, Int.reduceEq, Int.reduceGT, Int.reduceGE, Int.reduceToNat, Int.reduceNeg, t9]
theorem jouter (d : Nat) (B : Base Hb ls s l c) (hmay : ∀ i ∈ c.ins, mayI l c i = true) (hlen : c.ins.length ≤ 65536) (h1 : 1 ≤ c.ins.length) {hs : AV} (f : Nat) (t : St) (hI : JO Hb ls s l c hs (f + 1) t) :
    Ret (F29_L4 (RT (d + 1)) (Ri.iter big) t) fun r => (r.1 = .normal ∧ JO Hb ls s l c hs f r.2) ∨ (r.1 ≠ .normal ∧ EO Hb ls s l c hs r) := by
  obtain ⟨T, H⟩ := t
  obtain ⟨t0, t6, t7, h, more, t9, hck, hown, hw⟩ := hI
  simp only at t0 t6 t7 t9 hck hown
  unfold F29_L4
  rcases hw with ⟨rfl, W, hf⟩ | ⟨rfl, hg, hf⟩
  · simp -implicitDefEqProofs only [go_sem, Nat.reduceAdd, Nat.reduceMul, Nat.reduceLT, Nat.reduceLeDiff, Nat.reduceEqDiff, Nat.reduceBEq, reduceCtorEq, Int.reduceLT, Int.reduceLE, Int.reduceEq, Int.reduceGT, Int.reduceGE, Int.reduceToNat, Int.reduceNeg, t9]
    refine Ret.then (jloop3 d B hmay hlen h1 (hs := hs) (n0 := negs h) ⟨?_, ?_, ?_, ?_, h, false, ?_, hck, hown, ⟨W.len, W.zero, W.known, W.wait, fun _ _ _ _ _ _ hne _ => absurd (.inr (Nat.zero_le _)) hne⟩, Nat.le_refl _, fun e => by cases e⟩) ?_
    · simp -implicitDefEqProofs only [go_sem, Nat.reduceAdd, Nat.reduceMul, Nat.reduceLT, Nat.reduceLeDiff, Nat.reduceEqDiff, Nat.reduceBEq, reduceCtorEq, Int.reduceLT, Int.reduceLE, Int.reduceEq, Int.reduceGT, Int.reduceGE, Int.reduceToNat, Int.reduceNeg, t0]
    · simp -implicitDefEqProofs only [go_sem, Nat.reduceAdd, Nat.reduceMul, Nat.reduceLT, Nat.reduceLeDiff, Nat.reduceEqDiff, Nat.reduceBEq, reduceCtorEq, Int.reduceLT, Int.reduceLE, Int.reduceEq, Int.reduceGT, Int.reduceGE, Int.reduceToNat, Int.reduceNeg, t6]
    · simp -implicitDefEqProofs only [go_sem, Nat.reduceAdd, Nat.reduceMul, Nat.reduceLT, Nat.reduceLeDiff, Nat.reduceEqDiff, Nat.reduceBEq, reduceCtorEq, Int.reduceLT, Int.reduceLE, Int.reduceEq, Int.reduceGT, Int.reduceGE, Int.reduceToNat, Int.reduceNeg, t7]
    · simp -implicitDefEqProofs only [go_sem, Nat.reduceAdd, Nat.reduceMul, Nat.reduceLT, Nat.reduceLeDiff, Nat.reduceEqDiff, Nat.reduceBEq, reduceCtorEq, Int.reduceLT, Int.reduceLE, Int.reduceEq, Int.reduceGT, Int.reduceGE, Int.reduceToNat, Int.reduceNeg]
      rfl
    · simp -implicitDefEqProofs only [go_sem, Nat.reduceAdd, Nat.reduceMul, Nat.reduceLT, Nat.reduceLeDiff, Nat.reduceEqDiff, Nat.reduceBEq, reduceCtorEq, Int.reduceLT, Int.reduceLE, Int.reduceEq, Int.reduceGT, Int.reduceGE, Int.reduceToNat, Int.reduceNeg]
    · rintro ⟨e, T4, H4⟩ (⟨he, q⟩ | ⟨he, q1, q2, q3, q4⟩)
      · simp only at he
        subst he
        obtain ⟨b0, b6, b7, _, h4, more4, b9, k2, k3, k4, k6, k7⟩ := q
        simp only at b0 b6 b7 b9 k2 k3
        simp -implicitDefEqProofs only [go_sem, Nat.reduceAdd, Nat.reduceMul, Nat.reduceLT, Nat.reduceLeDiff, Nat.reduceEqDiff, Nat.reduceBEq, reduceCtorEq, Int.reduceLT, Int.reduceLE, Int.reduceEq, Int.reduceGT, Int.reduceGE, Int.reduceToNat, Int.reduceNeg]
        refine .mk (.inl ⟨rfl, b0, b6, b7, h4, more4, b9, k2, k3, ?_⟩)
        cases more4 with
        | true => exact .inl ⟨rfl, k4.loose, by have := k7 rfl; omega⟩
        | false =>
          refine .inr ⟨rfl, Way.good ⟨k4.len, k4.zero, k4.known, k4.wait, fun b i x hb h0 hw hne hi => k4.done b i x hb h0 hw ?_ hi⟩, by omega⟩
          rintro (h | h)
          · cases h
          · have := (List.getElem?_eq_some_iff.1 hi).1
            omega
      · simp only at he q1 q2 q3
        subst he
        simp -implicitDefEqProofs only [go_sem, Nat.reduceAdd, Nat.reduceMul, Nat.reduceLT, Nat.reduceLeDiff, Nat.reduceEqDiff, Nat.reduceBEq, reduceCtorEq, Int.reduceLT, Int.reduceLE, Int.reduceEq, Int.reduceGT, Int.reduceGE, Int.reduceToNat, Int.reduceNeg]
        exact .mk (.inr ⟨by simp, .inr ⟨rfl, q1, q2, q3, q4⟩⟩)
  · simp -implicitDefEqProofs only [go_sem, Nat.reduceAdd, Nat.reduceMul, Nat.reduceLT, Nat.reduceLeDiff, Nat.reduceEqDiff, Nat.reduceBEq, reduceCtorEq, Int.reduceLT, Int.reduceLE, Int.reduceEq, Int.reduceGT, Int.reduceGE, Int.reduceToNat, Int.reduceNeg, t9]
    refine .mk (.inr ⟨by simp, .inl ⟨rfl, ?_, hck, h, hown, hg⟩⟩)
    simp -implicitDefEqProofs only [go_sem, Nat.reduceAdd, Nat.reduceMul, Nat.reduceLT, Nat.reduceLeDiff, Nat.reduceEqDiff, Nat.reduceBEq, reduceCtorEq, Int.reduceLT, Int.reduceLE, Int.reduceEq, Int.reduceGT, Int.reduceGE, Int.reduceToNat, Int.reduceNeg, t7]
end

/-- The document's heights: a row of one's own, or none. -/
theorem Heights_ref (d : Nat) {H : AH} (hw : H.wf) (hT : Tabs H) {ls : AV} {l : List Code} (hl : CodesRow H ls l) {k : Int} (hk : InI k) :
    Ret (RT (d + 4) 29 [ls, .int .i64 k] H) fun r => Ext H.next H r.2 ∧ ((∃ hs h, r.1 = .tuple [hs, .bool true] ∧ OwnI (H.next + 1) r.2 hs h ∧ Hts l k h) ∨ (r.1 = .tuple [.slice none 0 (.kn 0), .bool false] ∧ ¬ ∃ h, Hts l k h)) := by
  rw [R29]
  unfold F29
  have hal := hl.alen
  by_cases p1 : k < 0
  · simp -implicitDefEqProofs only [go_sem, Nat.reduceAdd, Nat.reduceMul, Nat.reduceLT, Nat.reduceLeDiff, Nat.reduceEqDiff, Nat.reduceBEq, reduceCtorEq, Int.reduceLT, Int.reduceLE, Int.reduceEq, Int.reduceGT, Int.reduceGE, Int.reduceToNat, Int.reduceNeg, hal, decide_eq_true p1]
    exact .mk ⟨.refl hw, .inr ⟨rfl, fun ⟨h, c, h0, _⟩ => by omega⟩⟩
  by_cases p2 : k ≥ ((l.length : Nat) : Int)
  · simp -implicitDefEqProofs only [go_sem, Nat.reduceAdd, Nat.reduceMul, Nat.reduceLT, Nat.reduceLeDiff, Nat.reduceEqDiff, Nat.reduceBEq, reduceCtorEq, Int.reduceLT, Int.reduceLE, Int.reduceEq, Int.reduceGT, Int.reduceGE, Int.reduceToNat, Int.reduceNeg, hal, decide_eq_false p1, decide_eq_true p2]
    refine .mk ⟨.refl hw, .inr ⟨rfl, fun ⟨h, c, h0, h1, _⟩ => ?_⟩⟩
    have := (List.getElem?_eq_some_iff.1 h1).1
    omega
  obtain ⟨b, o, c, q1, q2, ⟨s, q3, q4, _⟩, _, _, _, q5, q6, _⟩ := codes_at hl (n := k) (by omega) (by omega)
  have B : Base H ls s l c := ⟨hw, hT, hl, q4, q5, q6⟩
  obtain ⟨⟨v, H2⟩, h70, hx2, ok, hv, hok⟩ := shape_spec d B
  simp only at hx2 hv hok
  subst hv
  cases ok with
  | false =>
    simp -implicitDefEqProofs only [go_sem, Nat.reduceAdd, Nat.reduceMul, Nat.reduceLT, Nat.reduceLeDiff, Nat.reduceEqDiff, Nat.reduceBEq, reduceCtorEq, Int.reduceLT, Int.reduceLE, Int.reduceEq, Int.reduceGT, Int.reduceGE, Int.reduceToNat, Int.reduceNeg, hal, decide_eq_false p1, decide_eq_false p2, q2, q3, h70]
    refine .mk ⟨hx2, .inr ⟨rfl, fun ⟨h, c', h0, h1, h2, h3⟩ => ?_⟩⟩
    rw [q1] at h1
    cases h1
    have := hok.2 h2
    cases this
  | true =>
    have hok1 := hok.1 rfl
    have q3' := ldAgg_sub (hx2.sub hw) q3
    have q3'' := q3'
    simp only [ldAgg, AH.ldN] at q3''
    have hw2 := hx2.wf
    have B2 : Base H2 ls s l c := ⟨hw2, hT.ext hx2 hT.two, hl.mono (hx2.sub hw), ⟨q4.1.mono (hx2.sub hw), q4.2⟩, q5, q6⟩
    have hx3 : Ext H2.next H2 (H2.new [s, .int .i64 c.cells, .int .i64 c.params, .bool c.answers] 24) := (Ext.refl hw2).new _ _
    simp -implicitDefEqProofs only [go_sem, Nat.reduceAdd, Nat.reduceMul, Nat.reduceLT, Nat.reduceLeDiff, Nat.reduceEqDiff, Nat.reduceBEq, reduceCtorEq, Int.reduceLT, Int.reduceLE, Int.reduceEq, Int.reduceGT, Int.reduceGE, Int.reduceToNat, Int.reduceNeg, hal, decide_eq_false p1, decide_eq_false p2, q2, q3, h70, q3', q3'', new_put]
    refine Ret.then (jfill (d + 3) B2 hok1.few ⟨?_, ?_, ?_, ⟨hx3, by simp⟩, ?_⟩) ?_
    · simp -implicitDefEqProofs only [go_sem, Nat.reduceAdd, Nat.reduceMul, Nat.reduceLT, Nat.reduceLeDiff, Nat.reduceEqDiff, Nat.reduceBEq, reduceCtorEq, Int.reduceLT, Int.reduceLE, Int.reduceEq, Int.reduceGT, Int.reduceGE, Int.reduceToNat, Int.reduceNeg]
    · simp -implicitDefEqProofs only [go_sem, Nat.reduceAdd, Nat.reduceMul, Nat.reduceLT, Nat.reduceLeDiff, Nat.reduceEqDiff, Nat.reduceBEq, reduceCtorEq, Int.reduceLT, Int.reduceLE, Int.reduceEq, Int.reduceGT, Int.reduceGE, Int.reduceToNat, Int.reduceNeg]
    · simp -implicitDefEqProofs only [go_sem, Nat.reduceAdd, Nat.reduceMul, Nat.reduceLT, Nat.reduceLeDiff, Nat.reduceEqDiff, Nat.reduceBEq, reduceCtorEq, Int.reduceLT, Int.reduceLE, Int.reduceEq, Int.reduceGT, Int.reduceGE, Int.reduceToNat, Int.reduceNeg]
      rfl
    · simp -implicitDefEqProofs only [go_sem, Nat.reduceAdd, Nat.reduceMul, Nat.reduceLT, Nat.reduceLeDiff, Nat.reduceEqDiff, Nat.reduceBEq, reduceCtorEq, Int.reduceLT, Int.reduceLE, Int.reduceEq, Int.reduceGT, Int.reduceGE, Int.reduceToNat, Int.reduceNeg]
      exact Own.nil _ _ _ _
    · rintro ⟨e, T, H4⟩ ⟨he, t0, t6, _, hck, hown⟩
      simp only at he t0 t6 hck hown
      subst he
      have h1 := hok1.some_
      obtain ⟨bh, Bh, ha, hNb, hbn, hBm, hrw, hcl, hidx, hget, hset⟩ := OwnI.blk hown hck.ext.wf (by simp; omega)
      have hbk : ¬ H2.next = bh := by omega
      have hc0 : 0 < Bh.cells.length := by simp at hcl; omega
      have hid0 : ∀ kd, idxSl (T 7) (.int kd 0) 1 = some (.ptr (some (bh, 0))) := fun kd => hidx kd 0 (by simp; omega)
      have hx5 : Ext H2.next H2 (H4.put bh ⟨Bh.cells.set 0 (.int .i64 0), Bh.elem, true⟩) := hck.ext.put (by omega) hbn _
      have hck5 : Cr H2 s c (H4.put bh ⟨Bh.cells.set 0 (.int .i64 0), Bh.elem, true⟩) := ⟨hx5, by simp [hbk, hck.blk]⟩
      have hown5 := hset 0 0 (by simp; omega)
      simp -implicitDefEqProofs only [go_sem, Nat.reduceAdd, Nat.reduceMul, Nat.reduceLT, Nat.reduceLeDiff, Nat.reduceEqDiff, Nat.reduceBEq, reduceCtorEq, Int.reduceLT, Int.reduceLE, Int.reduceEq, Int.reduceGT, Int.reduceGE, Int.reduceToNat, Int.reduceNeg, hid0, hBm, hrw, hc0]
      refine Ret.then (Q' := EO H2 ls s l c (T 7)) (Ret.iter (JO H2 ls s l c (T 7)) _ (fun f t hI => jouter (d + 2) B2 hok1.may hok1.few h1 f t hI) (fun t ht => by obtain ⟨_, _, _, _, _, _, _, _, h | h⟩ := ht <;> omega) 200000 big _ (by unfold big; omega)
        ⟨?_, ?_, ?_, (List.replicate c.ins.length (-1)).set 0 0, true, ?_, hck5, hown5, .inl ⟨rfl, (Way.start h1).loose, ?_⟩⟩) ?_
      · simp -implicitDefEqProofs only [go_sem, Nat.reduceAdd, Nat.reduceMul, Nat.reduceLT, Nat.reduceLeDiff, Nat.reduceEqDiff, Nat.reduceBEq, reduceCtorEq, Int.reduceLT, Int.reduceLE, Int.reduceEq, Int.reduceGT, Int.reduceGE, Int.reduceToNat, Int.reduceNeg, t0]
      · simp -implicitDefEqProofs only [go_sem, Nat.reduceAdd, Nat.reduceMul, Nat.reduceLT, Nat.reduceLeDiff, Nat.reduceEqDiff, Nat.reduceBEq, reduceCtorEq, Int.reduceLT, Int.reduceLE, Int.reduceEq, Int.reduceGT, Int.reduceGE, Int.reduceToNat, Int.reduceNeg, t6]
      · simp -implicitDefEqProofs only [go_sem, Nat.reduceAdd, Nat.reduceMul, Nat.reduceLT, Nat.reduceLeDiff, Nat.reduceEqDiff, Nat.reduceBEq, reduceCtorEq, Int.reduceLT, Int.reduceLE, Int.reduceEq, Int.reduceGT, Int.reduceGE, Int.reduceToNat, Int.reduceNeg]
      · simp -implicitDefEqProofs only [go_sem, Nat.reduceAdd, Nat.reduceMul, Nat.reduceLT, Nat.reduceLeDiff, Nat.reduceEqDiff, Nat.reduceBEq, reduceCtorEq, Int.reduceLT, Int.reduceLE, Int.reduceEq, Int.reduceGT, Int.reduceGE, Int.reduceToNat, Int.reduceNeg]
      · have := negs_le ((List.replicate c.ins.length (-1 : Int)).set 0 0)
        have := hok1.few
        simp at *
        omega
      · rintro ⟨e, T5, H5⟩ (⟨he, k7, k1, h, k2, k3⟩ | ⟨he, k1, k2, k3, k4⟩)
        · simp only at he k7 k1 k2
          subst he
          simp -implicitDefEqProofs only [go_sem, Nat.reduceAdd, Nat.reduceMul, Nat.reduceLT, Nat.reduceLeDiff, Nat.reduceEqDiff, Nat.reduceBEq, reduceCtorEq, Int.reduceLT, Int.reduceLE, Int.reduceEq, Int.reduceGT, Int.reduceGE, Int.reduceToNat, Int.reduceNeg, k7]
          exact .mk ⟨hx2.trans k1.ext hx2.next, .inl ⟨_, h, rfl, k2.low (by have := hx2.next; omega), c, by omega, q1, hok1, k3⟩⟩
        · simp only at he k1 k2 k3
          subst he
          simp -implicitDefEqProofs only [go_sem, Nat.reduceAdd, Nat.reduceMul, Nat.reduceLT, Nat.reduceLeDiff, Nat.reduceEqDiff, Nat.reduceBEq, reduceCtorEq, Int.reduceLT, Int.reduceLE, Int.reduceEq, Int.reduceGT, Int.reduceGE, Int.reduceToNat, Int.reduceNeg, k1, k2]
          refine .mk ⟨hx2.trans k3 hx2.next, .inr ⟨rfl, fun ⟨h, c', h0, h1, h2, h3⟩ => k4 ?_⟩⟩
          rw [q1] at h1
          cases h1
          exact ⟨h, h3⟩
end Go.Proofs.YthiflgncldmkjaaDoor
/- An instruction that is never reached may be another one: the pure law; equal rows of ints; rows set within a slice. -/
set_option linter.unusedVariables false
set_option linter.unusedSimpArgs false
set_option maxRecDepth 100000
namespace Go.Proofs.YthiflgncldmkjaaDoor
open Go.Ri

theorem answers_set {l : List Code} {k : Nat} {c c' : Code} (hk : l[k]? = some c) (ha : c'.answers = c.answers) (n : Int) : answersAt (l.set k c') n = answersAt l n := by
  unfold answersAt
  by_cases h : n.toNat = k
  · rw [h, List.getElem?_set_self (List.getElem?_eq_some_iff.1 hk).1, hk]
    simp [ha]
  · rw [List.getElem?_set_ne (Ne.symm h)]
theorem Reach.other {l : List Code} {c c' : Code} {h : List Int} (g : Good l c h) {n : Nat} (hn : h[n]? = some (-1)) (hc : ∀ a, a ≠ n → c'.ins[a]? = c.ins[a]?) {a : Nat} (hr : Reach c a) : Reach c' a := by
  induction hr with
  | zero => exact .zero
  | step hr hi hp ih =>
    obtain ⟨x, hx, h0⟩ := g.at_reach hr
    refine .step ih ?_ hp
    rw [hc _ (by rintro rfl; rw [hn] at hx; cases hx; omega)]
    exact hi
theorem Good.idle {l l' : List Code} {c c' : Code} {h : List Int} (g : Good l c h) {n : Nat} (hn : h[n]? = some (-1)) (hlen : c'.ins.length = c.ins.length) (hc : ∀ a, a ≠ n → c'.ins[a]? = c.ins[a]?) (ha : ∀ m, answersAt l' m = answersAt l m) : Good l' c' h := by
  refine ⟨by rw [hlen]; exact g.len, g.zero, fun a i x hi hx h0 => ?_, fun a x hx => (g.reach a x hx).imp id fun h => ⟨h.1, h.2.other g hn hc⟩⟩
  have hlv : lv l' i = lv l i := by simp only [lv, ha]
  have han : a ≠ n := by
    rintro rfl
    rw [hn] at hx
    cases hx
    omega
  obtain ⟨h1, h2⟩ := g.step a i x (by rw [← hc a han]; exact hi) hx h0
  exact ⟨h1, fun p hp => by rw [hlv]; exact h2 p hp⟩
theorem Hts.idle {l : List Code} {k : Int} {h g : List Int} {n : Nat} {c : Code} {i : Ins} (gh : Hts l k h) (hk : l[k.toNat]? = some c) (hn : h[n]? = some (-1))
    (hg : Hts (l.set k.toNat ⟨c.ins.set n i, c.cells, c.params, c.answers⟩) k g) : g = h := by
  obtain ⟨c0, h0, h1, _, h3⟩ := gh
  rw [hk] at h1
  cases h1
  obtain ⟨c1, _, k1, _, k3⟩ := hg
  rw [List.getElem?_set_self (List.getElem?_eq_some_iff.1 hk).1] at k1
  cases k1
  exact k3.unique (h3.idle hn (by simp) (fun a ha => List.getElem?_set_ne (Ne.symm ha)) (answers_set hk rfl))

/-- A row set anew within the flat list of rows. -/
theorem flat_set {α : Type} {sz : Nat} (rows : List (List α)) (h : ∀ x ∈ rows, x.length = sz) (i : Nat) (hi : i < rows.length) (v : List α) :
    (rows.set i v).flatten = rows.flatten.take (i * sz) ++ (v ++ rows.flatten.drop (i * sz + sz)) := by
  induction rows generalizing i with
  | nil => simp at hi
  | cons r rows ih =>
    have hr : r.length = sz := h r (by simp)
    cases i with
    | zero => simp [← hr]
    | succ i =>
      have := ih (fun x hx => h x (by simp [hx])) i (by simpa using hi)
      rw [List.set_cons_succ, List.flatten_cons, this, List.flatten_cons]
      have e1 : (i + 1) * sz = r.length + i * sz := by rw [hr, Nat.succ_mul]; omega
      have e2 : (i + 1) * sz + sz = r.length + (i * sz + sz) := by omega
      rw [e2, e1, List.take_length_add_append, List.drop_length_add_append, List.append_assoc]

def JS (s1 s2 : AV) (H : AH) (l1 l2 : List Int) (i : Nat) (t : St) : Prop :=
  t.1 0 = s1 ∧ t.1 1 = s2 ∧ t.1 5 = .int .i64 (i : Nat) ∧ t.2 = H ∧ ∀ j, j < i → l1[j]? = l2[j]?
theorem SameInts_spec (d : Nat) {H : AH} (hw : H.wf) {N M : Nat} {s1 s2 : AV} {l1 l2 : List Int} (h1 : OwnI N H s1 l1) (h2 : OwnI M H s2 l2) (hb : l1.length ≤ 70000) :
    Ret (RT (d + 1) 30 [s1, s2] H) fun r => r.2 = H ∧ ∃ b : Bool, r.1 = .bool b ∧ (b = true ↔ l1 = l2) := by
  rw [R30]
  unfold F30
  have hal1 : aLen Tryd.prog 40 s1 = some (.int .i64 (l1.length : Nat)) := by rw [h1.alen ysl40.under, intsC_len]
  have hal2 : aLen Tryd.prog 40 s2 = some (.int .i64 (l2.length : Nat)) := by rw [h2.alen ysl40.under, intsC_len]
  by_cases p : ((l1.length : Nat) : Int) = ((l2.length : Nat) : Int)
  · have hl : l1.length = l2.length := Int.ofNat_inj.1 p
    simp -implicitDefEqProofs only [go_sem, Nat.reduceAdd, Nat.reduceMul, Nat.reduceLT, Nat.reduceLeDiff, Nat.reduceEqDiff, Nat.reduceBEq, reduceCtorEq, Int.reduceLT, Int.reduceLE, Int.reduceEq, Int.reduceGT, Int.reduceGE, Int.reduceToNat, Int.reduceNeg, hal1, hal2, decide_eq_true p]
    refine Ret.then (Q' := fun r => r.2.2 = H ∧ ((r.1 = .exit 0 ∧ l1 = l2) ∨ (r.1 = .ret ∧ r.2.1 4 = .bool false ∧ l1 ≠ l2))) (Ret.upTo (n := l1.length) (JS s1 s2 H l1 l2) (by unfold big; omega) ⟨?_, ?_, ?_, rfl, fun j hj => absurd hj (Nat.not_lt_zero _)⟩ ?_ ?_) ?_
    · simp -implicitDefEqProofs only [go_sem, Nat.reduceAdd, Nat.reduceMul, Nat.reduceLT, Nat.reduceLeDiff, Nat.reduceEqDiff, Nat.reduceBEq, reduceCtorEq, Int.reduceLT, Int.reduceLE, Int.reduceEq, Int.reduceGT, Int.reduceGE, Int.reduceToNat, Int.reduceNeg]
    · simp -implicitDefEqProofs only [go_sem, Nat.reduceAdd, Nat.reduceMul, Nat.reduceLT, Nat.reduceLeDiff, Nat.reduceEqDiff, Nat.reduceBEq, reduceCtorEq, Int.reduceLT, Int.reduceLE, Int.reduceEq, Int.reduceGT, Int.reduceGE, Int.reduceToNat, Int.reduceNeg]
    · simp -implicitDefEqProofs only [go_sem, Nat.reduceAdd, Nat.reduceMul, Nat.reduceLT, Nat.reduceLeDiff, Nat.reduceEqDiff, Nat.reduceBEq, reduceCtorEq, Int.reduceLT, Int.reduceLE, Int.reduceEq, Int.reduceGT, Int.reduceGE, Int.reduceToNat, Int.reduceNeg]
      rfl
    · rintro i ⟨T1, H1⟩ hi ⟨t0, t1, t5, e, hdone⟩
      simp only at t0 t1 t5 e
      subst e
      have hcmp : decide (((i : Nat) : Int) < ((l1.length : Nat) : Int)) = true := decide_eq_true (by omega)
      obtain ⟨b1, B1, _, _, _, hm1, _, _, hx1, hg1, _⟩ := h1.blk hw (by omega)
      obtain ⟨b2, B2, _, _, _, hm2, _, _, hx2, hg2, _⟩ := h2.blk hw (by omega)
      have q1 : l1[i]? = some l1[i] := List.getElem?_eq_getElem hi
      have q2 : l2[i]? = some l2[i] := List.getElem?_eq_getElem (by omega)
      unfold F30_L0
      by_cases he : l1[i] = l2[i]
      · simp -implicitDefEqProofs only [go_sem, Nat.reduceAdd, Nat.reduceMul, Nat.reduceLT, Nat.reduceLeDiff, Nat.reduceEqDiff, Nat.reduceBEq, reduceCtorEq, Int.reduceLT, Int.reduceLE, Int.reduceEq, Int.reduceGT, Int.reduceGE, Int.reduceToNat, Int.reduceNeg, t0, t1, t5, hal1, hcmp, hx1 _ i hi, hx2 _ i (by omega), hm1, hm2, hg1 i _ q1, hg2 i _ q2, decide_eq_true he, wrapS (i := i) (by omega)]
        refine .mk (.inl ⟨rfl, ?_, ?_, ?_, rfl, fun j hj => ?_⟩)
        · simp -implicitDefEqProofs only [go_sem, Nat.reduceAdd, Nat.reduceMul, Nat.reduceLT, Nat.reduceLeDiff, Nat.reduceEqDiff, Nat.reduceBEq, reduceCtorEq, Int.reduceLT, Int.reduceLE, Int.reduceEq, Int.reduceGT, Int.reduceGE, Int.reduceToNat, Int.reduceNeg, t0]
        · simp -implicitDefEqProofs only [go_sem, Nat.reduceAdd, Nat.reduceMul, Nat.reduceLT, Nat.reduceLeDiff, Nat.reduceEqDiff, Nat.reduceBEq, reduceCtorEq, Int.reduceLT, Int.reduceLE, Int.reduceEq, Int.reduceGT, Int.reduceGE, Int.reduceToNat, Int.reduceNeg, t1]
        · simp -implicitDefEqProofs only [go_sem, Nat.reduceAdd, Nat.reduceMul, Nat.reduceLT, Nat.reduceLeDiff, Nat.reduceEqDiff, Nat.reduceBEq, reduceCtorEq, Int.reduceLT, Int.reduceLE, Int.reduceEq, Int.reduceGT, Int.reduceGE, Int.reduceToNat, Int.reduceNeg]
        · by_cases hji : j = i
          · subst hji
            rw [q1, q2, he]
          · exact hdone j (by omega)
      · simp -implicitDefEqProofs only [go_sem, Nat.reduceAdd, Nat.reduceMul, Nat.reduceLT, Nat.reduceLeDiff, Nat.reduceEqDiff, Nat.reduceBEq, reduceCtorEq, Int.reduceLT, Int.reduceLE, Int.reduceEq, Int.reduceGT, Int.reduceGE, Int.reduceToNat, Int.reduceNeg, t0, t1, t5, hal1, hcmp, hx1 _ i hi, hx2 _ i (by omega), hm1, hm2, hg1 i _ q1, hg2 i _ q2, decide_eq_false he]
        refine .mk (.inr ⟨by simp, rfl, .inr ⟨rfl, ?_, fun e => he ?_⟩⟩)
        · simp -implicitDefEqProofs only [go_sem, Nat.reduceAdd, Nat.reduceMul, Nat.reduceLT, Nat.reduceLeDiff, Nat.reduceEqDiff, Nat.reduceBEq, reduceCtorEq, Int.reduceLT, Int.reduceLE, Int.reduceEq, Int.reduceGT, Int.reduceGE, Int.reduceToNat, Int.reduceNeg]
        · subst e
          rfl
    · rintro ⟨T1, H1⟩ ⟨t0, t1, t5, e, hdone⟩
      simp only at t0 t1 t5 e
      subst e
      have hcmp : decide (((l1.length : Nat) : Int) < ((l1.length : Nat) : Int)) = false := decide_eq_false (by omega)
      unfold F30_L0
      simp -implicitDefEqProofs only [go_sem, Nat.reduceAdd, Nat.reduceMul, Nat.reduceLT, Nat.reduceLeDiff, Nat.reduceEqDiff, Nat.reduceBEq, reduceCtorEq, Int.reduceLT, Int.reduceLE, Int.reduceEq, Int.reduceGT, Int.reduceGE, Int.reduceToNat, Int.reduceNeg, t0, t5, hal1, hcmp]
      refine .mk ⟨by simp, rfl, .inl ⟨rfl, List.ext_getElem? fun j => ?_⟩⟩
      by_cases hj : j < l1.length
      · exact hdone j hj
      · rw [List.getElem?_eq_none (by omega), List.getElem?_eq_none (by omega)]
    · rintro ⟨e, T, H1⟩ ⟨hH, ⟨he, hq⟩ | ⟨he, h4, hq⟩⟩
      · simp only at hH he
        subst hH he
        simp -implicitDefEqProofs only [go_sem, Nat.reduceAdd, Nat.reduceMul, Nat.reduceLT, Nat.reduceLeDiff, Nat.reduceEqDiff, Nat.reduceBEq, reduceCtorEq, Int.reduceLT, Int.reduceLE, Int.reduceEq, Int.reduceGT, Int.reduceGE, Int.reduceToNat, Int.reduceNeg]
        exact .mk ⟨rfl, true, rfl, by simp [hq]⟩
      · simp only at hH he h4
        subst hH he
        simp -implicitDefEqProofs only [go_sem, Nat.reduceAdd, Nat.reduceMul, Nat.reduceLT, Nat.reduceLeDiff, Nat.reduceEqDiff, Nat.reduceBEq, reduceCtorEq, Int.reduceLT, Int.reduceLE, Int.reduceEq, Int.reduceGT, Int.reduceGE, Int.reduceToNat, Int.reduceNeg, h4]
        exact .mk ⟨rfl, false, rfl, by simp [hq]⟩
  · simp -implicitDefEqProofs only [go_sem, Nat.reduceAdd, Nat.reduceMul, Nat.reduceLT, Nat.reduceLeDiff, Nat.reduceEqDiff, Nat.reduceBEq, reduceCtorEq, Int.reduceLT, Int.reduceLE, Int.reduceEq, Int.reduceGT, Int.reduceGE, Int.reduceToNat, Int.reduceNeg, hal1, hal2, decide_eq_false p]
    refine .mk ⟨rfl, false, rfl, ?_⟩
    simp only [Bool.false_eq_true, false_iff]
    rintro rfl
    exact p rfl
end Go.Proofs.YthiflgncldmkjaaDoor
/- The law of the instruction that is never reached, walked. -/
set_option linter.unusedVariables false
set_option linter.unusedSimpArgs false
set_option maxRecDepth 100000
namespace Go.Proofs.YthiflgncldmkjaaDoor
open Go.Ri

/-- A code of the copied row gets another row of instructions. -/
theorem codes_set {N : Nat} {H : AH} {sv : AV} {rows : List (List AV)} {l : List Code} {k : Nat} {x : List AV} {c : Code} (hr : ∀ x ∈ rows, x.length = 4) (hl : rows.length = l.length) (hk : k < rows.length)
    (hown : Own N 4 24 H sv (rows.set k x).flatten) (hc : ∀ i (h : i < rows.length) (h' : i < l.length), CodeAt H rows[i] l[i]) (hx : CodeAt H x c) (hfew : l.length ≤ 9223372036854775807) : CodesRow H sv (l.set k c) := by
  have hx4 : x.length = 4 := by obtain ⟨s, rfl, _⟩ := hx; rfl
  refine ⟨rows.set k x, hown.row (by omega) fun y hy => ?_, ⟨by simp [hl], by simpa using hfew⟩, fun i h h' => ?_⟩
  · rcases List.mem_or_eq_of_mem_set hy with h | rfl
    · exact hr y h
    · exact hx4
  · by_cases hi : k = i
    · subst hi
      simp only [List.getElem_set_self]
      exact hx
    · simp only [List.getElem_set_ne hi]
      exact hc i (by simpa using h) (by simpa using h')
theorem take_mid {α : Type} (C v : List α) (m o : Nat) (h : o + v.length ≤ m) (hm : m ≤ C.length) : (C.take o ++ v ++ C.drop (o + v.length)).take m = (C.take m).take o ++ (v ++ (C.take m).drop (o + v.length)) := by
  have e2 : (C.take o).length = o := by rw [List.length_take]; omega
  have e3 : (C.take m).take o = C.take o := by rw [List.take_take, show min o m = o by omega]
  rw [e3, List.append_assoc, List.take_append, List.take_append, List.drop_take, e2, List.take_of_length_le (l := C.take o) (by omega), List.take_of_length_le (l := v) (by omega), Nat.sub_sub]
theorem set_mid {α : Type} {F T D ws : List α} {x y : α} {o : Nat} (hF : F = T ++ ((x :: ws) ++ D)) (hT : T.length = o) : F.set o y = T ++ ((y :: ws) ++ D) := by
  subst hF hT
  simp
set_option maxHeartbeats 4000000 in
theorem law_idle (d : Nat) {H : AH} (hw : H.wf) (hT : Tabs H) {ls : AV} {l : List Code} (hl : CodesRow H ls l) (hbig : l.length * 48 ≤ 140737488351232) {k n : Int} (hk : InI k) (hn : InI n) {i : Ins} (hi : i.Ok) :
    Ret (RT (d + 6) 6 [ls, .int .i64 k, .int .i64 n, .agg (insC i)] H) fun r => r.1 = .bool true := by
  rw [R6]
  unfold F6
  have hin : insC i = [.int .i64 i.op, .int .i64 i.n, .int .i64 i.m] := rfl
  have hx1 : Ext H.next H (H.new (insC i) 29) := (Ext.refl hw).new _ _
  have hl1 := hl.mono (hx1.sub hw)
  have hT1 := hT.ext hx1 hT.two
  have fin : ∀ G : AH, Ext H.next H G → RT (d + 5) 22 [] G = some (.bool true, G) := fun G hG => RT_22 _ (hT.ext hG hT.two)
  obtain ⟨⟨v3, H3⟩, h25, ⟨b3, hb3⟩, hH3⟩ := great_spec (d + 3) hl1
  simp only at hb3 hH3
  subst hb3 hH3
  obtain ⟨⟨v4, H4⟩, h26, ⟨n4, hn4⟩, hH4⟩ := Size_spec (d + 4) hl1 70000
  simp only at hn4 hH4
  subst hn4 hH4
  obtain ⟨⟨v5, H2⟩, h28, hx2, hr⟩ := Heights_spec (d + 1) hx1.wf hT1 hl1 hk
  simp only at hx2 hr
  have hx12 : Ext H.next H H2 := hx1.trans hx2 hx1.next
  rw [hin] at h25 h26 h28 hx1 ⊢
  cases b3
  rotate_left
  · simp -implicitDefEqProofs only [go_sem, Nat.reduceAdd, Nat.reduceMul, Nat.reduceLT, Nat.reduceLeDiff, Nat.reduceEqDiff, Nat.reduceBEq, reduceCtorEq, Int.reduceLT, Int.reduceLE, Int.reduceEq, Int.reduceGT, Int.reduceGE, Int.reduceToNat, Int.reduceNeg, h25, fin _ hx1]
    exact .mk rfl
  by_cases p1 : n4 > 70000
  · simp -implicitDefEqProofs only [go_sem, Nat.reduceAdd, Nat.reduceMul, Nat.reduceLT, Nat.reduceLeDiff, Nat.reduceEqDiff, Nat.reduceBEq, reduceCtorEq, Int.reduceLT, Int.reduceLE, Int.reduceEq, Int.reduceGT, Int.reduceGE, Int.reduceToNat, Int.reduceNeg, h25, h26, decide_eq_true p1, fin _ hx1]
    exact .mk rfl
  rcases hr with ⟨hs, h, rfl, hown, hh⟩ | ⟨rfl, hno⟩
  rotate_left
  · simp -implicitDefEqProofs only [go_sem, Nat.reduceAdd, Nat.reduceMul, Nat.reduceLT, Nat.reduceLeDiff, Nat.reduceEqDiff, Nat.reduceBEq, reduceCtorEq, Int.reduceLT, Int.reduceLE, Int.reduceEq, Int.reduceGT, Int.reduceGE, Int.reduceToNat, Int.reduceNeg, h25, h26, decide_eq_false p1, h28, fin _ hx12]
    exact .mk rfl
  by_cases p2 : n < 0
  · simp -implicitDefEqProofs only [go_sem, Nat.reduceAdd, Nat.reduceMul, Nat.reduceLT, Nat.reduceLeDiff, Nat.reduceEqDiff, Nat.reduceBEq, reduceCtorEq, Int.reduceLT, Int.reduceLE, Int.reduceEq, Int.reduceGT, Int.reduceGE, Int.reduceToNat, Int.reduceNeg, h25, h26, decide_eq_false p1, h28, decide_eq_true p2, fin _ hx12]
    exact .mk rfl
  have hal : aLen Tryd.prog 40 hs = some (.int .i64 (h.length : Nat)) := by rw [hown.alen ysl40.under, intsC_len]
  by_cases p3 : n ≥ ((h.length : Nat) : Int)
  · simp -implicitDefEqProofs only [go_sem, Nat.reduceAdd, Nat.reduceMul, Nat.reduceLT, Nat.reduceLeDiff, Nat.reduceEqDiff, Nat.reduceBEq, reduceCtorEq, Int.reduceLT, Int.reduceLE, Int.reduceEq, Int.reduceGT, Int.reduceGE, Int.reduceToNat, Int.reduceNeg, h25, h26, decide_eq_false p1, h28, decide_eq_false p2, hal, decide_eq_true p3, fin _ hx12]
    exact .mk rfl
  obtain ⟨a, rfl⟩ : ∃ a : Nat, n = a := ⟨n.toNat, by omega⟩
  have hah : a < h.length := by omega
  obtain ⟨bh, Bh, ha, hNb, hbn, hBm, hrw, hcl, hidx, hget, hset⟩ := OwnI.blk hown hx12.wf (by omega)
  have hga : h[a]? = some h[a] := List.getElem?_eq_getElem hah
  by_cases p4 : h[a] ≥ 0
  · simp -implicitDefEqProofs only [go_sem, Nat.reduceAdd, Nat.reduceMul, Nat.reduceLT, Nat.reduceLeDiff, Nat.reduceEqDiff, Nat.reduceBEq, reduceCtorEq, Int.reduceLT, Int.reduceLE, Int.reduceEq, Int.reduceGT, Int.reduceGE, Int.reduceToNat, Int.reduceNeg, h25, h26, decide_eq_false p1, h28, decide_eq_false p2, hal, decide_eq_false p3, hidx _ _ hah, hBm, hget a _ hga, decide_eq_true p4, fin _ hx12]
    exact .mk rfl
  obtain ⟨c, hk0, hkc, hok, hgood⟩ := id hh
  obtain ⟨kk, rfl⟩ : ∃ kk : Nat, k = kk := ⟨k.toNat, by omega⟩
  simp only [Int.toNat_natCast] at hkc
  have hkl : kk < l.length := (List.getElem?_eq_some_iff.1 hkc).1
  have hha : h[a]? = some (-1) := by
    rw [hga]
    rcases hgood.reach a _ hga with h | h
    · rw [h]
    · omega
  have hl2 := hl.mono (hx12.sub hw)
  obtain ⟨rows, hrow, ⟨hrn, hfew⟩, hrc⟩ := id hl2
  obtain ⟨b, o, e1, e2, e3⟩ := hrow.at (i := kk) (by omega)
  obtain ⟨s, hs0, hins, hc1, hc2, hc3⟩ := hrc kk (by omega) hkl
  have hck : l[kk] = c := by rw [List.getElem?_eq_getElem hkl] at hkc; exact Option.some.inj hkc
  rw [hck] at hs0 hins hc1 hc2 hc3
  have e3 := e3 0 (by omega)
  simp only [hs0, List.getElem_cons_zero] at e3
  simp only [ldOne_ptr, Nat.add_zero] at e3
  obtain ⟨B, hB, hB0⟩ := Option.bind_eq_some_iff.1 e3
  have hals : aLen Tryd.prog 22 s = some (.int .i64 (c.ins.length : Nat)) := hins.alen
  have hlen : ((h.length : Nat) : Int) = ((c.ins.length : Nat) : Int) := by rw [hgood.len]
  obtain ⟨hs1, hs2⟩ := hrow.src
  have hs3 := flat_len rows hrow.len
  obtain ⟨⟨r1, G3⟩, ha1, g1, g2, g3, g4, g5⟩ := app_own (n := rows.length) (x := ls) (ds := rows.flatten) ysl36 ysl36.seq (Own.nil H2.next 4 24 H2) (Ext.self hx12.wf (Nat.le_refl _)) hs1 hs2 hs3 (by simp [hs3]; omega)
  simp only at g1 g2 g3 g4 g5
  simp only [List.nil_append] at g1
  have hnil : ∀ b, ¬ At (.slice none 0 (.kn 0)) b := fun b ⟨n, c, h⟩ => by cases h
  have hB3 : G3.m b = some B := by rw [g2.low _ (hx12.wf _ _ hB)]; exact hB
  have hsub3 := g2.sub hx12.wf
  have hirow : Row G3 s 3 (c.ins.map insC) := hins.1.mono hsub3
  obtain ⟨hi1, hi2⟩ := hirow.src
  have hi3 := flat_len _ (insC_len c.ins)
  have hfi := hok.few
  obtain ⟨⟨r2, G4⟩, ha2, k1, k2, k3, k4, k5⟩ := app_own (n := (c.ins.map insC).length) (x := s) (ds := (c.ins.map insC).flatten) ysl22 ysl22.seq (Own.nil G3.next 3 29 G3) (Ext.self g2.wf (Nat.le_refl _)) hi1 hi2 hi3 (by simp [hi3]; omega)
  simp only at k1 k2 k3 k4 k5
  simp only [List.nil_append] at k1
  have hlt1 : H.next < H2.next := by have := hx2.next; simp at this; omega
  have hbox : G4.m H.next = some ⟨[.int .i64 i.op, .int .i64 i.n, .int .i64 i.m], 29, true⟩ := by
    rw [k2.low _ (by omega), g2.low _ hlt1, hx2.low _ (by simp)]
    simp [hin]
  have g1' : Own H2.next 4 24 G4 r1 rows.flatten := g1.to fun b hb => k2.low b (by obtain ⟨B', q1, _⟩ := g1.at hb; exact g2.wf _ _ q1)
  obtain ⟨pp, nn, cc, rfl⟩ := k1.shape
  have hx24 : Ext H2.next H2 G4 := g2.trans k2 g2.next
  obtain ⟨bi, Bi, ni, qi1, qi2, qi3, qi4, qi5, qi6, qi7, qi8, qi9, qi10⟩ := k1.blk k2.wf (by rw [hi3]; simp; have := hok.some_; omega)
  have hni : ni = c.ins.length := by rw [hi3] at qi6; simp at qi6; omega
  subst hni
  have hac : a < c.ins.length := by have := hgood.len; omega
  have hale : a * 3 + 3 ≤ Bi.cells.length := by omega
  have hr1i : ¬ At r1 bi := fun h => by
    obtain ⟨B', q1, _⟩ := g1.at h
    have := g2.wf _ _ q1
    omega
  have hx25 : Ext H2.next H2 (G4.put bi ⟨List.take (a * 3) Bi.cells ++ [.int .i64 i.op, .int .i64 i.n, .int .i64 i.m] ++ List.drop (a * 3 + 3) Bi.cells, Bi.elem, true⟩) := hx24.put (by have := g2.next; omega) qi3 _
  have o2 := qi10 ⟨List.take (a * 3) Bi.cells ++ [.int .i64 i.op, .int .i64 i.n, .int .i64 i.m] ++ List.drop (a * 3 + 3) Bi.cells, Bi.elem, true⟩ rfl rfl (by simp; omega)
  have hci : List.take (c.ins.length * 3) (List.take (a * 3) Bi.cells ++ [.int .i64 i.op, .int .i64 i.n, .int .i64 i.m] ++ List.drop (a * 3 + 3) Bi.cells) = ((c.ins.set a i).map insC).flatten := by
    rw [List.map_set, flat_set (sz := 3) _ (insC_len _) a (by simpa using hac), ← qi8]
    exact take_mid Bi.cells (insC i) (c.ins.length * 3) (a * 3) (by rw [hin]; simp only [List.length_cons, List.length_nil]; omega) qi7
  simp only at o2
  rw [hci] at o2
  have o1 := g1'.put hr1i ⟨List.take (a * 3) Bi.cells ++ [.int .i64 i.op, .int .i64 i.n, .int .i64 i.m] ++ List.drop (a * 3 + 3) Bi.cells, Bi.elem, true⟩
  obtain ⟨bc, Bc, nc, qc1, qc2, qc3, qc4, qc5, qc6, qc7, qc8, qc9, qc10⟩ := o1.blk hx25.wf (by rw [hs3]; omega)
  have hnc : nc = l.length := by rw [hs3] at qc6; omega
  subst hnc
  have hbci : ¬ bc = bi := fun e => hr1i (e ▸ qc1)
  have hbic : ¬ bi = bc := fun e => hbci e.symm
  have hkle : kk * 4 < Bc.cells.length := by omega
  have hx26 := hx25.put (b := bc) qc2 qc3 ⟨Bc.cells.set (kk * 4) (.slice pp nn cc), Bc.elem, true⟩
  have o3 := qc10 ⟨Bc.cells.set (kk * 4) (.slice pp nn cc), Bc.elem, true⟩ rfl rfl (by simp)
  have hcc : List.take (l.length * 4) (Bc.cells.set (kk * 4) (.slice pp nn cc)) = (rows.set kk [.slice pp nn cc, .int .i64 c.cells, .int .i64 c.params, .bool c.answers]).flatten := by
    rw [List.take_set, qc8, flat_set (sz := 4) _ hrow.len kk (by omega)]
    have e := flat_set (sz := 4) rows hrow.len kk (by omega) rows[kk]
    rw [List.set_getElem_self] at e
    exact set_mid (x := s) (by rw [hs0] at e; exact e) (by rw [List.length_take, hs3]; omega)
  simp only at o3
  rw [hcc] at o3
  simp only [put_m, if_neg hbci] at qc4
  have o2' := o2.put (b := bc) (fun h => hbic (qi1.one h)) ⟨Bc.cells.set (kk * 4) (.slice pp nn cc), Bc.elem, true⟩
  have hir6 : InsRow _ (.slice pp nn cc) (c.ins.set a i) := ⟨o2'.row (by omega) (insC_len _), fun x hx => by
    rcases List.mem_or_eq_of_mem_set hx with h | rfl
    · exact hins.2 x h
    · exact hi⟩
  have hc6 := codes_set (c := ⟨c.ins.set a i, c.cells, c.params, c.answers⟩) hrow.len hrn (by omega) o3 (fun j h h' => (hrc j h h').mono (hx26.sub hx12.wf)) ⟨_, rfl, hir6, hc1, hc2, by simpa using hc3⟩ hfew
  have hx06 : Ext H.next H _ := hx12.trans hx26 hx12.next
  obtain ⟨⟨v7, H7⟩, h28', hx7, hr7⟩ := Heights_spec (d + 1) hx26.wf (hT.ext hx06 hT.two) hc6 hk
  simp only at hx7 hr7
  have hx27 : Ext H2.next H2 H7 := hx26.trans hx7 hx26.next
  have hx07 : Ext H.next H H7 := hx12.trans hx27 hx12.next
  obtain ⟨⟨v8, H8⟩, h29', hx8, hr8⟩ := Heights_ref (d + 1) hx27.wf (hT.ext hx07 hT.two) (hc6.mono (hx7.sub hx26.wf)) hk
  simp only at hx8 hr8
  have hx28 : Ext H2.next H2 H8 := hx27.trans hx8 hx27.next
  have hx08 : Ext H.next H H8 := hx12.trans hx28 hx12.next
  rcases hr7 with ⟨hs7, h7, rfl, own7, hh7⟩ | ⟨rfl, hno7⟩
  · rcases hr8 with ⟨hs8, h8, rfl, own8, hh8⟩ | ⟨rfl, hno8⟩
    · have e7 : h7 = h := hh.idle hkc hha hh7
      have o7 : OwnI _ H8 hs7 h7 := own7.to fun b hb => hx8.low b (by obtain ⟨B', q1, _⟩ := own7.at hb; exact hx27.wf _ _ q1)
      have o0 : OwnI _ H8 hs h := hown.to fun b hb => hx28.low b (by obtain ⟨B', q1, _⟩ := hown.at hb; exact hx12.wf _ _ q1)
      obtain ⟨⟨v9, H9⟩, h30, hH9, b9, hb9, hiff⟩ := SameInts_spec (d + 4) hx28.wf o7 o0 (by rw [e7, hgood.len]; omega)
      simp only at hH9 hb9
      subst hH9 hb9
      have : b9 = true := hiff.2 e7
      subst this
      simp -implicitDefEqProofs only [go_sem, Nat.reduceAdd, Nat.reduceMul, Nat.reduceLT, Nat.reduceLeDiff, Nat.reduceEqDiff, Nat.reduceBEq, reduceCtorEq, Int.reduceLT, Int.reduceLE, Int.reduceEq, Int.reduceGT, Int.reduceGE, Int.reduceToNat, Int.reduceNeg, h25, h26, decide_eq_false p1, h28, decide_eq_false p2, hal, decide_eq_false p3, hidx _ _ hah, hBm, hget a _ hga, decide_eq_false p4, e1, hB, hB0, hals, decide_eq_true hlen, ha1, hB3, ha2, hbox, qi9 _ a hac, qi4, qi5, hale, qc9 _ kk hkl, qc4, qc5, hbci, hbic, hkle, h28', h29', aBin_bool, h30, fin _ hx08]
      exact .mk rfl
    · exact absurd ⟨h7, hh7⟩ hno8
  · rcases hr8 with ⟨hs8, h8, rfl, own8, hh8⟩ | ⟨rfl, hno8⟩
    · exact absurd ⟨h8, hh8⟩ hno7
    · simp -implicitDefEqProofs only [go_sem, Nat.reduceAdd, Nat.reduceMul, Nat.reduceLT, Nat.reduceLeDiff, Nat.reduceEqDiff, Nat.reduceBEq, reduceCtorEq, Int.reduceLT, Int.reduceLE, Int.reduceEq, Int.reduceGT, Int.reduceGE, Int.reduceToNat, Int.reduceNeg, h25, h26, decide_eq_false p1, h28, decide_eq_false p2, hal, decide_eq_false p3, hidx _ _ hah, hBm, hget a _ hga, decide_eq_false p4, e1, hB, hB0, hals, decide_eq_true hlen, ha1, hB3, ha2, hbox, qi9 _ a hac, qi4, qi5, hale, qc9 _ kk hkl, qc4, qc5, hbci, hbic, hkle, h28', h29', aBin_bool, fin _ hx08]
      exact .mk rfl
end Go.Proofs.YthiflgncldmkjaaDoor
/- An instruction that can not be reached may be any that the table allows (CodeIdle): for every input the law returns true, and the input reads as it did. Condition: the two tables of package code start as the program's text lays them (the row's own). -/
set_option linter.unusedVariables false
set_option linter.unusedSimpArgs false
set_option maxRecDepth 100000
namespace Go.Proofs.YthiflgncldmkjaaDoor
open Go.Ri Go.ChangeShapes Go.WideShapes Go.ChangeAt Go.RowKit
namespace N6
theorem res : Tryd.f6.resultTypes = #[4] := by kernel_rfl
theorem readable : (Tryd.f6.params.toList.all fun t => Tryd.prog.readableRec t && decide (t < Tryd.prog.types.size)) = true := by kernel_rfl
theorem psize : Tryd.f6.params.size = 4 := by kernel_rfl
theorem contract (H : Type) (enc : TypeId × Value → H) (W : World) (base : Nat) (args : Array Value) (ds gs : List (DataW H)) (before : List MemPlace)
    (hval : ∀ (j : Nat) t v, Tryd.f6.params[j]? = some t → args[j]? = some v → Value.okWide Tryd.prog W .any base t v)
    (hW : DataW.Whole enc Tryd.prog Tryd.f6.params.toList Rows.codeIdleSpec.vars false W args.toList ds gs before) (hL : laidMetH Tryd.prog Rows.codeIdleRow.laid W)
    (hwt : (DataW.weightsEach Tryd.prog (Tryd.f6.params.toList ++ (OpenSpec.ofChange Rows.codeIdleSpec).bare.plain.varTypes Tryd.prog) (ds ++ gs)).all (· ≤ reachBytes) = true) :
    Calls Tryd.prog 6 args W fun e W' => ∃ v, e = .returned v ∧ Rows.codeIdleSpec.post enc Tryd.prog Tryd.f6 false true false false W args v W' := by
  refine contract_of res (fun ds hd => ?_) rfl (fun t ht => ?_) hW hL fun ρ0 H0 hS0 hro0 hT0 hA => ?_
  · rw [psize] at hd
    match ds, hd with
    | [d0, d1, d2, d3], _ => rfl
  · have := List.all_eq_true.1 readable t ht
    simpa using this
  · rw [Tryd.params6] at hA hval
    obtain ⟨v0, vs0, d0, ds0, p0, q0, hargs, rfl, rfl, h0, r0⟩ := trodAll_cons hA
    obtain ⟨v1, vs1, d1, ds1, p1, q1, rfl, rfl, rfl, h1, r1⟩ := trodAll_cons r0
    obtain ⟨v2, vs2, d2, ds2, p2, q2, rfl, rfl, rfl, h2, r2⟩ := trodAll_cons r1
    obtain ⟨v3, vs3, d3, ds3, p3, q3, rfl, rfl, rfl, h3, r3⟩ := trodAll_cons r2
    obtain ⟨rfl, rfl, rfl⟩ := trodAll_nil r3
    obtain rfl : args = #[v0, v1, v2, v3] := by cases args; simp_all
    obtain ⟨k, rfl, _, _, hk⟩ := open_int under3 (hval 1 3 v1 rfl rfl) h1
    obtain ⟨n, rfl, _, _, hn⟩ := open_int under3 (hval 2 3 v2 rfl rfl) h2
    obtain ⟨cs, rfl⟩ := agg_of (by kernel_rfl) (hval 3 29 v3 rfl rfl)
    obtain ⟨fuel0, h0⟩ := h0
    obtain ⟨fuel3, h3⟩ := h3
    have hc0 : v0.cells.toList = [v0] := slice_cells under36 (hval 0 36 v0 rfl rfl)
    rw [hc0] at h0
    obtain ⟨ρ1, H1, s0, l, hL1, hr1, _, hrow1, hlen⟩ := lay_codes h0 hS0 hro0
    obtain ⟨i, hi, hcs⟩ := trod_ins h3
    have hcs' : cs.toList = [.int .i64 i.op, .int .i64 i.n, .int .i64 i.m] := hcs
    have hw1 : H1.wf := fun b B hB => hL1.sim.dom hB
    have hb : lens d0 * 48 ≤ 140737488351232 := by
      refine weight_slice under36 bytes24 ?_
      rw [Tryd.params6] at hwt
      simp only [List.cons_append, List.nil_append, DataW.weightsEach, List.all_append, Bool.and_eq_true] at hwt
      exact hwt.1
    refine ⟨ρ1, H1, [s0, .int .i64 k, .int .i64 n, .agg (insC i)], 6, hL1, relL_cons hr1 (relL_cons rfl (relL_cons rfl (relL_one ⟨rfl, cs.toList, ?_, by simp⟩))), ?_⟩
    · rw [hcs']
      exact relL_cons rfl (relL_cons rfl (relL_one rfl))
    exact law_idle 0 hw1 (hT0.sub hL1.sub hw1) hrow1 (by rw [hlen]; exact hb) (inI_of_wf hk) (inI_of_wf hn) hi
theorem reads (os : Os) {H : Type} (enc : TypeId × Value → H) : ∃ places, DataW.whole enc Tryd.prog ((laidWorld os).forCall (fun _ _ => 0) ⟨#[], #[.slice none 0 0, .int .i64 0, .int .i64 0, .agg #[.int .i64 0, .int .i64 0, .int .i64 0]], []⟩).memory Tryd.f6.params.toList Rows.codeIdleSpec.vars false #[Value.slice none 0 0, Value.int .i64 0, Value.int .i64 0, Value.agg #[.int .i64 0, .int .i64 0, .int .i64 0]].toList 8 = some ([.nil, .lit (.int .i64 0), .lit (.int .i64 0), .agg [.lit (.int .i64 0), .lit (.int .i64 0), .lit (.int .i64 0)]], [], places) :=
  ⟨[], by kernel_rfl⟩
theorem lifted (os : Os) (started : os.Started) (H : Type) (enc : TypeId × Value → H) (F : Stop.Interp) :
    ReturnsInHanded {} Tryd.checked os 6 .any ((OpenSpec.ofChange Rows.codeIdleSpec).preRow enc Tryd.prog Tryd.f6 Rows.codeIdleRow.domain false Rows.codeIdleRow.laid) (((OpenSpec.ofChange Rows.codeIdleSpec).at F).post enc Tryd.prog Tryd.f6 false true false false) := by
  obtain ⟨places, hx⟩ := reads os enc
  refine returnsInHanded_of_row (C := Tryd.checked) (s := OpenSpec.ofChange Rows.codeIdleSpec) own started (by kernel_rfl) Tryd.func6
    (witness_row_at (enc := enc) (C := Tryd.checked) false (laidWorld os) #[Value.slice none 0 0, Value.int .i64 0, Value.int .i64 0, Value.agg #[.int .i64 0, .int .i64 0, .int .i64 0]] rfl (by kernel_rfl) (by kernel_rfl) (by kernel_rfl)
      (OpenSpec.preRow_of_cond 8 hx (by kernel_rfl) (fun k hk => by cases hk) (by kernel_rfl) (laid_met os _))) ?_
  intro W base args ds gs before hval hW _ _ hwt hL _ _
  exact contract H enc W base args ds gs before hval hW hL hwt
theorem said : Rows.CodeIdleSaid :=
  OpenClaim.holds_of_cond 6 Tryd.f6 rfl rfl rfl rfl rfl rfl rfl ⟨rfl, rfl, rfl, rfl, rfl⟩ rfl rfl rfl rfl rfl (by kernel_rfl) Tryd.func6 (by kernel_rfl)
    (of_decide_eq_true (by kernel_rfl)) (by unfold Func.isWrapper; first | (rw [if_pos (by decide +kernel)]; kernel_rfl) | (rw [if_neg (by decide +kernel)]; exact ⟨rfl, rfl⟩))
    (fun os started H enc _ F => by rw [OpenClaim.pre_eq_preRow]; exact lifted os started H enc F)
theorem plain (f : FuncId) (fn : Func) (hf : Tryd.pinned.checked.prog.funcNamed "parallax/parallaxlaw08.CodeIdle" = some f) (hfn : Tryd.pinned.checked.prog.funcs[f]? = some fn) :
    false = Tryd.pinned.checked.prog.looks [] ∧ ∀ (j : Nat) t, fn.params[j]? = some t → Tryd.pinned.checked.prog.wantsStandIn t = false := by
  obtain rfl : f = 6 := Option.some.inj ((show Tryd.prog.funcNamed "parallax/parallaxlaw08.CodeIdle" = some 6 by kernel_rfl).symm.trans hf) |>.symm
  obtain rfl : fn = Tryd.f6 := (Option.some.inj (Tryd.func6.symm.trans hfn)).symm
  refine ⟨by kernel_rfl, fun j t ht => ?_⟩
  rw [Tryd.params6] at ht
  have hm : t ∈ [36, 3, 3, 29] := by simpa using Array.mem_of_getElem? ht
  have hall : ([36, 3, 3, 29].all fun u => !Tryd.prog.wantsStandIn u) = true := by kernel_rfl
  exact (show Tryd.prog.wantsStandIn t = false by simpa using List.all_eq_true.1 hall t hm)
end N6
theorem codeIdle_holds : Rows.CodeIdleCardSaid :=
  Claim7.holds_tied_plain_at .later [] _ _ _ _ N6.said (fun _ h => by cases h) (by kernel_rfl) (fun _ h => by cases h) codeIdle_row_tie rfl ⟨rfl, rfl⟩ (by kernel_rfl) rfl N6.plain (by kernel_rfl)
#print axioms codeIdle_holds
end Go.Proofs.YthiflgncldmkjaaDoor
