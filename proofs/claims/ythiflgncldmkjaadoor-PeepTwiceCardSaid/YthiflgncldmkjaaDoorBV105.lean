/- Part 5 of the proof that: Made short twice is made short once (PeepTwice): for every input the law returns true, and the input reads as it did. Condition: the two tables of package code start as the program's text lays them (the row's own). -/
import Derived.Test.YthiflgncldmkjaaDoorBV104
/- Codes made short are sound, and no longer: the law. -/
set_option linter.unusedVariables false
set_option linter.unusedSimpArgs false
set_option maxRecDepth 100000
namespace Go.Proofs.YthiflgncldmkjaaDoor
open Go.Ri
attribute [local congr] bind_lazy jn_lazy

theorem bool_neq (a b : Bool) : aBin Tryd.prog .neq 4 (.bool a) (.bool b) = some (.bool (!(a == b))) := by kernel_rfl
theorem beq_same (a : Bool) : (!(a == a)) = false := by simp
/-- A code's length in a row of codes. -/
theorem codes_ins {H : AH} {ls : AV} {l : List Code} (h : CodesRow H ls l) {k : Nat} (hk : k < l.length) :
    ∃ b o s, (∀ kd, idxSl ls (.int kd (k : Nat)) 4 = some (.ptr (some (b, o)))) ∧ ldOne (.ptr (some (b, o))) H = some s ∧ aLen Tryd.prog 22 s = some (.int .i64 (l[k].ins.length : Nat)) ∧ InsRow H s l[k].ins ∧ ldAgg (.ptr (some (b, o))) 4 H = some (.agg [s, .int .i64 l[k].cells, .int .i64 l[k].params, .bool l[k].answers]) ∧
      ldOne (.ptr (some (b, o + 1))) H = some (.int .i64 l[k].cells) ∧ ldOne (.ptr (some (b, o + 2))) H = some (.int .i64 l[k].params) ∧ ldOne (.ptr (some (b, o + 3))) H = some (.bool l[k].answers) ∧ InI l[k].cells ∧ InI l[k].params := by
  obtain ⟨b, o, c, q1, q2, ⟨s, q3, q4, q5⟩, q6, q7, q8, q9, q10, _⟩ := codes_at h (n := ((k : Nat) : Int)) (by omega) (by omega)
  rw [Int.toNat_natCast, List.getElem?_eq_getElem hk] at q1
  obtain rfl : l[k] = c := Option.some.inj q1
  exact ⟨b, o, s, q2, q5, q4.alen, q4, q3, q6, q7, q8, q9, q10⟩
structure IS9 (Hb : AH) (ls v : AV) (i : Nat) (t : St) : Prop where
  t0 : t.1 0 = ls
  t5 : t.1 5 = v
  t7 : t.1 7 = .int .i64 (i : Nat)
  ext : Ext Hb.next Hb t.2
set_option maxHeartbeats 2000000 in
theorem psound_loop (d : Nat) {Hb : AH} (hw : Hb.wf) (hT : Tabs Hb) {ls v : AV} {l As : List Code} (hl : CodesRow Hb ls l) (ha : CodesRow Hb v As) (hm : MadeAll l As) {main : Int} (hs : SoundP l main) {T : Tm} {H1 : AH} (h0 : IS9 Hb ls v 0 (T, H1)) :
    Ret (Ri.iter big (F9_L1 (RL (d + 6)) (Ri.iter big)) (T, H1)) fun r => r.1 = .exit 0 ∧ IS9 Hb ls v l.length r.2 := by
  have hfew := hl.few
  refine Ret.upTo (n := l.length) (IS9 Hb ls v) (by unfold big; omega) h0 ?_ ?_
  · rintro i ⟨T1, H2⟩ hi ⟨t0, t5, t7, hx⟩
    simp only at t0 t5 t7 hx
    have hcmp : decide (((i : Nat) : Int) < ((l.length : Nat) : Int)) = true := decide_eq_true (by omega)
    have hal := hl.alen
    have hia : i < As.length := by rw [hm.1]; exact hi
    have ha2 := ha.mono (hx.sub hw)
    obtain ⟨⟨w, H3⟩, h29, hx3, hr⟩ := Heights_ref (d + 2) hx.wf (hT.ext hx hT.two) ha2 (k := ((i : Nat) : Int)) (by unfold InI; omega)
    simp only at hx3 hr
    have r29 : RL (d + 6) 29 [v, .int .i64 (i : Nat)] H2 = some (w, H3) := (RL_at (by decide) _ _).trans h29
    have hx4 : Ext Hb.next Hb H3 := hx.trans hx3 hx.next
    obtain ⟨_, e1, e2, e3, e4, s, _⟩ := hm.at hs hia
    have hsnd := (hm.sound hs).2.2.2.2.2.2 i hia
    rcases hr with ⟨hv, h, rfl, hown, hh⟩ | ⟨rfl, hno⟩
    · obtain ⟨b1, o1, s1, f1, f2, f3, _, _, f4, f5, f6, _⟩ := codes_ins (hl.mono (hx4.sub hw)) hi
      obtain ⟨b2, o2, s2, g1, g2, g3, _, _, g4, g5, g6, _⟩ := codes_ins (ha.mono (hx4.sub hw)) hia
      have hlen : decide (((As[i].ins.length : Nat) : Int) > ((l[i].ins.length : Nat) : Int)) = false := decide_eq_false (by omega)
      rw [e1] at g4
      rw [e2] at g5
      rw [e3] at g6
      have hnn := hm.reach hs hia hh
      have hhl : h.length = As[i].ins.length := by
        obtain ⟨c, _, hc, _, hg⟩ := hh
        rw [Int.toNat_natCast, List.getElem?_eq_getElem hia] at hc
        obtain rfl : As[i] = c := Option.some.inj hc
        exact hg.len
      have hgl : aLen Tryd.prog 40 hv = some (.int .i64 (h.length : Nat)) := by rw [hown.alen ysl40.under, intsC_len]
      have hhb : h.length ≤ 65536 := by rw [hhl]; exact s.1.few
      unfold F9_L1
      simp -implicitDefEqProofs only [go_sem, Nat.reduceAdd, Nat.reduceMul, Nat.reduceLT, Nat.reduceLeDiff, Nat.reduceEqDiff, Nat.reduceBEq, reduceCtorEq, Int.reduceLT, Int.reduceLE, Int.reduceEq, Int.reduceGT, Int.reduceGE, Int.reduceToNat, Int.reduceNeg, t0, t5, t7, hal, hcmp, r29, f1, f2, f3, f4, f5, f6, g1, g2, g3, g4, g5, g6, hlen, bool_neq, beq_same, decide_true, eq_self]
      refine Ret.then (Q' := fun r => r.1 = .exit 2 ∧ r.2.1 0 = ls ∧ r.2.1 5 = v ∧ r.2.1 7 = .int .i64 (i : Nat) ∧ r.2.2 = H3) (Ret.upTo (n := h.length) (fun j t => t.1 0 = ls ∧ t.1 5 = v ∧ t.1 7 = .int .i64 (i : Nat) ∧ t.1 8 = hv ∧ t.1 10 = .int .i64 (j : Nat) ∧ t.2 = H3) (by unfold big; omega) ⟨?_, ?_, ?_, ?_, ?_, rfl⟩ ?_ ?_) ?_
      · simp -implicitDefEqProofs only [go_sem, Nat.reduceAdd, Nat.reduceMul, Nat.reduceLT, Nat.reduceLeDiff, Nat.reduceEqDiff, Nat.reduceBEq, reduceCtorEq, Int.reduceLT, Int.reduceLE, Int.reduceEq, Int.reduceGT, Int.reduceGE, Int.reduceToNat, Int.reduceNeg, t0]
      · simp -implicitDefEqProofs only [go_sem, Nat.reduceAdd, Nat.reduceMul, Nat.reduceLT, Nat.reduceLeDiff, Nat.reduceEqDiff, Nat.reduceBEq, reduceCtorEq, Int.reduceLT, Int.reduceLE, Int.reduceEq, Int.reduceGT, Int.reduceGE, Int.reduceToNat, Int.reduceNeg, t5]
      · simp -implicitDefEqProofs only [go_sem, Nat.reduceAdd, Nat.reduceMul, Nat.reduceLT, Nat.reduceLeDiff, Nat.reduceEqDiff, Nat.reduceBEq, reduceCtorEq, Int.reduceLT, Int.reduceLE, Int.reduceEq, Int.reduceGT, Int.reduceGE, Int.reduceToNat, Int.reduceNeg, t7]
      · simp -implicitDefEqProofs only [go_sem, Nat.reduceAdd, Nat.reduceMul, Nat.reduceLT, Nat.reduceLeDiff, Nat.reduceEqDiff, Nat.reduceBEq, reduceCtorEq, Int.reduceLT, Int.reduceLE, Int.reduceEq, Int.reduceGT, Int.reduceGE, Int.reduceToNat, Int.reduceNeg]
      · simp -implicitDefEqProofs only [go_sem, Nat.reduceAdd, Nat.reduceMul, Nat.reduceLT, Nat.reduceLeDiff, Nat.reduceEqDiff, Nat.reduceBEq, reduceCtorEq, Int.reduceLT, Int.reduceLE, Int.reduceEq, Int.reduceGT, Int.reduceGE, Int.reduceToNat, Int.reduceNeg]
        rfl
      · rintro j ⟨T5, H5⟩ hj ⟨u0, u5, u7, u8, u10, hH⟩
        simp only at u0 u5 u7 u8 u10 hH
        subst hH
        have hcj : decide (((j : Nat) : Int) < ((h.length : Nat) : Int)) = true := decide_eq_true (by omega)
        obtain ⟨bw, Bw, _, _, _, hBw, _, _, hgw, hid, _⟩ := hown.cell hx4.wf (i := j) (by rw [intsC_len]; exact hj)
        rw [intsC_get, List.getElem?_eq_getElem hj] at hgw
        simp only [Option.map_some] at hgw
        have hge : decide (h[j] < 0) = false := decide_eq_false (by have := hnn h[j] (List.getElem_mem _); omega)
        unfold F9_L0
        simp -implicitDefEqProofs only [go_sem, Nat.reduceAdd, Nat.reduceMul, Nat.reduceLT, Nat.reduceLeDiff, Nat.reduceEqDiff, Nat.reduceBEq, reduceCtorEq, Int.reduceLT, Int.reduceLE, Int.reduceEq, Int.reduceGT, Int.reduceGE, Int.reduceToNat, Int.reduceNeg, u8, u10, hgl, hcj, hid, hBw, hgw, hge, wrapS (i := j) (by omega)]
        refine .mk (.inl ⟨rfl, ?_, ?_, ?_, ?_, ?_, rfl⟩)
        · simp -implicitDefEqProofs only [go_sem, Nat.reduceAdd, Nat.reduceMul, Nat.reduceLT, Nat.reduceLeDiff, Nat.reduceEqDiff, Nat.reduceBEq, reduceCtorEq, Int.reduceLT, Int.reduceLE, Int.reduceEq, Int.reduceGT, Int.reduceGE, Int.reduceToNat, Int.reduceNeg, u0]
        · simp -implicitDefEqProofs only [go_sem, Nat.reduceAdd, Nat.reduceMul, Nat.reduceLT, Nat.reduceLeDiff, Nat.reduceEqDiff, Nat.reduceBEq, reduceCtorEq, Int.reduceLT, Int.reduceLE, Int.reduceEq, Int.reduceGT, Int.reduceGE, Int.reduceToNat, Int.reduceNeg, u5]
        · simp -implicitDefEqProofs only [go_sem, Nat.reduceAdd, Nat.reduceMul, Nat.reduceLT, Nat.reduceLeDiff, Nat.reduceEqDiff, Nat.reduceBEq, reduceCtorEq, Int.reduceLT, Int.reduceLE, Int.reduceEq, Int.reduceGT, Int.reduceGE, Int.reduceToNat, Int.reduceNeg, u7]
        · simp -implicitDefEqProofs only [go_sem, Nat.reduceAdd, Nat.reduceMul, Nat.reduceLT, Nat.reduceLeDiff, Nat.reduceEqDiff, Nat.reduceBEq, reduceCtorEq, Int.reduceLT, Int.reduceLE, Int.reduceEq, Int.reduceGT, Int.reduceGE, Int.reduceToNat, Int.reduceNeg, u8]
        · simp -implicitDefEqProofs only [go_sem, Nat.reduceAdd, Nat.reduceMul, Nat.reduceLT, Nat.reduceLeDiff, Nat.reduceEqDiff, Nat.reduceBEq, reduceCtorEq, Int.reduceLT, Int.reduceLE, Int.reduceEq, Int.reduceGT, Int.reduceGE, Int.reduceToNat, Int.reduceNeg]
      · rintro ⟨T5, H5⟩ ⟨u0, u5, u7, u8, u10, hH⟩
        simp only at u0 u5 u7 u8 u10 hH
        have hcj : decide (((h.length : Nat) : Int) < ((h.length : Nat) : Int)) = false := decide_eq_false (by omega)
        unfold F9_L0
        simp -implicitDefEqProofs only [go_sem, Nat.reduceAdd, Nat.reduceMul, Nat.reduceLT, Nat.reduceLeDiff, Nat.reduceEqDiff, Nat.reduceBEq, reduceCtorEq, Int.reduceLT, Int.reduceLE, Int.reduceEq, Int.reduceGT, Int.reduceGE, Int.reduceToNat, Int.reduceNeg, u8, u10, hgl, hcj]
        refine .mk ⟨by simp, rfl, ?_, ?_, ?_, hH⟩
        · simp -implicitDefEqProofs only [go_sem, Nat.reduceAdd, Nat.reduceMul, Nat.reduceLT, Nat.reduceLeDiff, Nat.reduceEqDiff, Nat.reduceBEq, reduceCtorEq, Int.reduceLT, Int.reduceLE, Int.reduceEq, Int.reduceGT, Int.reduceGE, Int.reduceToNat, Int.reduceNeg, u0]
        · simp -implicitDefEqProofs only [go_sem, Nat.reduceAdd, Nat.reduceMul, Nat.reduceLT, Nat.reduceLeDiff, Nat.reduceEqDiff, Nat.reduceBEq, reduceCtorEq, Int.reduceLT, Int.reduceLE, Int.reduceEq, Int.reduceGT, Int.reduceGE, Int.reduceToNat, Int.reduceNeg, u5]
        · simp -implicitDefEqProofs only [go_sem, Nat.reduceAdd, Nat.reduceMul, Nat.reduceLT, Nat.reduceLeDiff, Nat.reduceEqDiff, Nat.reduceBEq, reduceCtorEq, Int.reduceLT, Int.reduceLE, Int.reduceEq, Int.reduceGT, Int.reduceGE, Int.reduceToNat, Int.reduceNeg, u7]
      · rintro ⟨e, T5, H5⟩ ⟨rfl, u0, u5, u7, hH⟩
        simp only at u0 u5 u7 hH
        subst hH
        simp -implicitDefEqProofs only [go_sem, Nat.reduceAdd, Nat.reduceMul, Nat.reduceLT, Nat.reduceLeDiff, Nat.reduceEqDiff, Nat.reduceBEq, reduceCtorEq, Int.reduceLT, Int.reduceLE, Int.reduceEq, Int.reduceGT, Int.reduceGE, Int.reduceToNat, Int.reduceNeg, u7, wrapS (i := i) (by omega)]
        refine .mk (.inl ⟨rfl, ?_, ?_, ?_, hx4⟩)
        · simp -implicitDefEqProofs only [go_sem, Nat.reduceAdd, Nat.reduceMul, Nat.reduceLT, Nat.reduceLeDiff, Nat.reduceEqDiff, Nat.reduceBEq, reduceCtorEq, Int.reduceLT, Int.reduceLE, Int.reduceEq, Int.reduceGT, Int.reduceGE, Int.reduceToNat, Int.reduceNeg, u0]
        · simp -implicitDefEqProofs only [go_sem, Nat.reduceAdd, Nat.reduceMul, Nat.reduceLT, Nat.reduceLeDiff, Nat.reduceEqDiff, Nat.reduceBEq, reduceCtorEq, Int.reduceLT, Int.reduceLE, Int.reduceEq, Int.reduceGT, Int.reduceGE, Int.reduceToNat, Int.reduceNeg, u5]
        · simp -implicitDefEqProofs only [go_sem, Nat.reduceAdd, Nat.reduceMul, Nat.reduceLT, Nat.reduceLeDiff, Nat.reduceEqDiff, Nat.reduceBEq, reduceCtorEq, Int.reduceLT, Int.reduceLE, Int.reduceEq, Int.reduceGT, Int.reduceGE, Int.reduceToNat, Int.reduceNeg]
    · exact absurd hsnd hno
  · rintro ⟨T1, H2⟩ ⟨t0, t5, t7, hx⟩
    simp only at t0 t5 t7 hx
    have hal := hl.alen
    have hcmp : decide (((l.length : Nat) : Int) < ((l.length : Nat) : Int)) = false := decide_eq_false (by omega)
    unfold F9_L1
    simp -implicitDefEqProofs only [go_sem, Nat.reduceAdd, Nat.reduceMul, Nat.reduceLT, Nat.reduceLeDiff, Nat.reduceEqDiff, Nat.reduceBEq, reduceCtorEq, Int.reduceLT, Int.reduceLE, Int.reduceEq, Int.reduceGT, Int.reduceGE, Int.reduceToNat, Int.reduceNeg, t0, t7, hal, hcmp]
    refine .mk ⟨by simp, rfl, ?_, ?_, ?_, hx⟩
    · simp -implicitDefEqProofs only [go_sem, Nat.reduceAdd, Nat.reduceMul, Nat.reduceLT, Nat.reduceLeDiff, Nat.reduceEqDiff, Nat.reduceBEq, reduceCtorEq, Int.reduceLT, Int.reduceLE, Int.reduceEq, Int.reduceGT, Int.reduceGE, Int.reduceToNat, Int.reduceNeg, t0]
    · simp -implicitDefEqProofs only [go_sem, Nat.reduceAdd, Nat.reduceMul, Nat.reduceLT, Nat.reduceLeDiff, Nat.reduceEqDiff, Nat.reduceBEq, reduceCtorEq, Int.reduceLT, Int.reduceLE, Int.reduceEq, Int.reduceGT, Int.reduceGE, Int.reduceToNat, Int.reduceNeg, t5]
    · simp -implicitDefEqProofs only [go_sem, Nat.reduceAdd, Nat.reduceMul, Nat.reduceLT, Nat.reduceLeDiff, Nat.reduceEqDiff, Nat.reduceBEq, reduceCtorEq, Int.reduceLT, Int.reduceLE, Int.reduceEq, Int.reduceGT, Int.reduceGE, Int.reduceToNat, Int.reduceNeg, t7]
set_option maxHeartbeats 2000000 in
theorem law_psound (d : Nat) {H : AH} (hw : H.wf) (hT : Tabs H) {ls : AV} {l : List Code} (hl : CodesRow H ls l) {main : Int} (hm : InI main) :
    Ret (LawR (d + 6) 9 [ls, .int .i64 main] H) fun r => r.1 = .bool true := by
  unfold LawR
  rw [F9_eq]
  unfold F9
  obtain ⟨⟨v1, H1⟩, h31, ⟨g, hg⟩, hH1⟩ := great10_spec (d + 4) hl
  simp only at hg hH1
  subst hg hH1
  have r31 : RL (d + 6) 31 [ls] H1 = some (.bool g, H1) := (RL_at (by decide) _ _).trans h31
  cases g
  · obtain ⟨⟨v2, H2⟩, h33, hx2, hr⟩ := make_spec d hw hT hl hm
    simp only at hx2 hr
    have r33 : RL (d + 6) 33 [ls, .int .i64 main] H1 = some (v2, H2) := (RL_at (by decide) _ _).trans h33
    have hT2 := hT.ext hx2 hT.two
    have hl2 := hl.mono (hx2.sub hw)
    rcases hr with ⟨hno, rfl⟩ | ⟨hs, As, v, rfl, hmade, hown⟩
    · obtain ⟨⟨v3, H3⟩, h36, hx3, b, hb, hiff⟩ := refSound_spec (d + 1) hx2.wf hT2 hl2 hm
      simp only at hx3 hb
      subst hb
      have r36 : RL (d + 6) 36 [ls, .int .i64 main] H2 = some (.bool b, H3) := (RL_at (by decide) _ _).trans h36
      cases b
      · have r32 := RL_32 (d + 6) (hT2.ext hx3 hT2.two)
        have e0 : decide (((0 : Nat) : Int) = 0) = true := by decide
        simp -implicitDefEqProofs only [go_sem, Nat.reduceAdd, Nat.reduceMul, Nat.reduceLT, Nat.reduceLeDiff, Nat.reduceEqDiff, Nat.reduceBEq, reduceCtorEq, Int.reduceLT, Int.reduceLE, Int.reduceEq, Int.reduceGT, Int.reduceGE, Int.reduceToNat, Int.reduceNeg, r31, r33, r36, e0, r32]
        exact .mk rfl
      · exact absurd (hiff.1 rfl) hno
    · have ha := hown.codes hmade hs
      obtain ⟨⟨v3, H3⟩, h27, hx3, b, hb, hiff⟩ := Sound_spec (d + 1) hx2.wf hT2 ha hm
      simp only at hx3 hb
      subst hb
      have r27 : RL (d + 6) 27 [v, .int .i64 main] H2 = some (.bool b, H3) := (RL_at (by decide) _ _).trans h27
      obtain rfl : b = true := hiff.2 (hmade.sound hs)
      have hT3 := hT2.ext hx3 hT2.two
      have hal := hl.alen
      have haa := ha.alen
      rw [hmade.1] at haa
      simp -implicitDefEqProofs only [go_sem, Nat.reduceAdd, Nat.reduceMul, Nat.reduceLT, Nat.reduceLeDiff, Nat.reduceEqDiff, Nat.reduceBEq, reduceCtorEq, Int.reduceLT, Int.reduceLE, Int.reduceEq, Int.reduceGT, Int.reduceGE, Int.reduceToNat, Int.reduceNeg, r31, r33, r27, haa, hal, decide_true]
      refine Ret.then (psound_loop d hx3.wf hT3 (hl2.mono (hx3.sub hx2.wf)) (ha.mono (hx3.sub hx2.wf)) hmade hs ⟨?_, ?_, ?_, .refl hx3.wf⟩) ?_
      · simp -implicitDefEqProofs only [go_sem, Nat.reduceAdd, Nat.reduceMul, Nat.reduceLT, Nat.reduceLeDiff, Nat.reduceEqDiff, Nat.reduceBEq, reduceCtorEq, Int.reduceLT, Int.reduceLE, Int.reduceEq, Int.reduceGT, Int.reduceGE, Int.reduceToNat, Int.reduceNeg]
      · simp -implicitDefEqProofs only [go_sem, Nat.reduceAdd, Nat.reduceMul, Nat.reduceLT, Nat.reduceLeDiff, Nat.reduceEqDiff, Nat.reduceBEq, reduceCtorEq, Int.reduceLT, Int.reduceLE, Int.reduceEq, Int.reduceGT, Int.reduceGE, Int.reduceToNat, Int.reduceNeg]
      · simp -implicitDefEqProofs only [go_sem, Nat.reduceAdd, Nat.reduceMul, Nat.reduceLT, Nat.reduceLeDiff, Nat.reduceEqDiff, Nat.reduceBEq, reduceCtorEq, Int.reduceLT, Int.reduceLE, Int.reduceEq, Int.reduceGT, Int.reduceGE, Int.reduceToNat, Int.reduceNeg]
        rfl
      · rintro ⟨e, T, H4⟩ ⟨rfl, _, _, _, hx4⟩
        simp only at hx4
        have r32 := RL_32 (d + 6) (hT3.ext hx4 hT3.two)
        simp -implicitDefEqProofs only [go_sem, Nat.reduceAdd, Nat.reduceMul, Nat.reduceLT, Nat.reduceLeDiff, Nat.reduceEqDiff, Nat.reduceBEq, reduceCtorEq, Int.reduceLT, Int.reduceLE, Int.reduceEq, Int.reduceGT, Int.reduceGE, Int.reduceToNat, Int.reduceNeg, r32]
        exact .mk rfl
  · have r32 := RL_32 (d + 6) hT
    simp -implicitDefEqProofs only [go_sem, Nat.reduceAdd, Nat.reduceMul, Nat.reduceLT, Nat.reduceLeDiff, Nat.reduceEqDiff, Nat.reduceBEq, reduceCtorEq, Int.reduceLT, Int.reduceLE, Int.reduceEq, Int.reduceGT, Int.reduceGE, Int.reduceToNat, Int.reduceNeg, r31, r32]
    exact .mk rfl
end Go.Proofs.YthiflgncldmkjaaDoor
/- peep.Rule; Same of the document. -/
set_option linter.unusedVariables false
set_option linter.unusedSimpArgs false
set_option maxRecDepth 100000
namespace Go.Proofs.YthiflgncldmkjaaDoor
open Go.Ri
attribute [local congr] bind_lazy jn_lazy

theorem rule_spec (d : Nat) {H : AH} (hw : H.wf) (hT : Tabs H) {N : Nat} {v : AV} {As : List Code} (hown : OwnCodes N H v As) (hc : CodesRow H v As) {k a : Nat} (hk : k < As.length) (hs : Snd As As[k]) (ha : a < As[k].ins.length) :
    Ret (RT (d + 5) 37 [v, .int .i64 (k : Nat), .int .i64 (a : Nat)] H) fun r => Ext H.next H r.2 ∧ r.1 = .int .i64 ((fitP As[k].ins a).rule : Nat) := by
  rw [R37]
  unfold F37
  have hlen := hs.1.few
  have hfew := hc.few
  obtain ⟨⟨w, H1⟩, h28, hx1, hr⟩ := Heights_spec d hw hT hc (k := ((k : Nat) : Int)) (by unfold InI; omega)
  simp only at hx1 hr
  rcases hr with ⟨hv, h, rfl, _, _⟩ | ⟨_, hno⟩
  · have hc1 := hc.mono (hx1.sub hw)
    obtain ⟨b, o, s, f1, f2, f3, f4, f5, _⟩ := codes_ins hc1 hk
    have hown1 := hown.keep hw hx1.low
    obtain ⟨rows, ho, h4, hl, hat⟩ := hown1
    obtain ⟨s', e, hos, hok, _⟩ := hat k (by omega) hk
    -- the same slice
    have hss : s' = s := by
      obtain ⟨b', o', e1, e2, _⟩ := (Own.row (by omega) ho h4).at (i := k) (by omega)
      have h1 := e1 .i64
      rw [f1 .i64] at h1
      cases h1
      rw [f5] at e2
      rw [e] at e2
      simp only [Option.some.injEq, AV.agg.injEq, List.cons.injEq] at e2
      exact e2.1.symm
    subst hss
    have P := hs.1.plain hok
    have hrow := Own.insRow hos
    obtain ⟨⟨w2, H2⟩, h75, hx2, kk, R, Tg, rfl, S, hR, hTg⟩ := look_spec (d + 2) hx1.wf hrow (Own.capOk hos (by have := hs.1.some_; omega)) P hs.reach
    simp only at hx2 S
    obtain ⟨⟨w3, H3⟩, h76, hx3, sv, rfl, _⟩ := fits_spec d hx2.wf S P ha
    simp only at hx3
    have hfit : ruleP (bAt R) (bAt Tg) As[k].ins a = fitP As[k].ins a := by unfold fitP; rw [hR, hTg]
    rw [hfit] at h76
    have c1 : decide (((a : Nat) : Int) < 0) = false := decide_eq_false (by omega)
    have c2 : decide (((a : Nat) : Int) ≥ ((As[k].ins.length : Nat) : Int)) = false := decide_eq_false (by omega)
    simp -implicitDefEqProofs only [go_sem, Nat.reduceAdd, Nat.reduceMul, Nat.reduceLT, Nat.reduceLeDiff, Nat.reduceEqDiff, Nat.reduceBEq, reduceCtorEq, Int.reduceLT, Int.reduceLE, Int.reduceEq, Int.reduceGT, Int.reduceGE, Int.reduceToNat, Int.reduceNeg, h28, c1, f1, f2, f3, c2, h75, h76]
    exact .mk ⟨(hx1.trans hx2 hx1.next).trans hx3 (Nat.le_trans hx1.next hx2.next), rfl⟩
  · obtain ⟨o, h, g⟩ := hs
    exact absurd ⟨h, As[k], by omega, by rw [Int.toNat_natCast]; exact List.getElem?_eq_getElem hk, o, g⟩ hno

theorem ins_neq_same (i : Ins) : aBin Tryd.prog .neq 29 (.agg (insC i)) (.agg (insC i)) = some (.bool false) := by
  have h := ins_neq i.op i.n i.m i.op i.n i.m
  have e : (!(i.op == i.op && (i.n == i.n && (i.m == i.m && true)))) = false := by simp
  rw [e] at h
  exact h
theorem same_spec (d : Nat) {H : AH} {va vb : AV} {l : List Code} (ha : CodesRow H va l) (hb : CodesRow H vb l) (hlim : ∀ c ∈ l, c.ins.length ≤ 100000) :
    Ret (RT (d + 1) 35 [va, vb] H) fun r => r.1 = .bool true ∧ r.2 = H := by
  rw [R35]
  unfold F35
  have hfew := ha.few
  have h1 := ha.alen
  have h2 := hb.alen
  simp -implicitDefEqProofs only [go_sem, Nat.reduceAdd, Nat.reduceMul, Nat.reduceLT, Nat.reduceLeDiff, Nat.reduceEqDiff, Nat.reduceBEq, reduceCtorEq, Int.reduceLT, Int.reduceLE, Int.reduceEq, Int.reduceGT, Int.reduceGE, Int.reduceToNat, Int.reduceNeg, h1, h2, eq_self]
  refine Ret.then (Q' := fun r => r.1 = .exit 0 ∧ r.2.2 = H) (Ret.upTo (n := l.length) (fun i t => t.1 0 = va ∧ t.1 1 = vb ∧ t.1 5 = .int .i64 (i : Nat) ∧ t.2 = H) (by unfold big; omega) ⟨?_, ?_, ?_, rfl⟩ ?_ ?_) ?_
  · simp -implicitDefEqProofs only [go_sem, Nat.reduceAdd, Nat.reduceMul, Nat.reduceLT, Nat.reduceLeDiff, Nat.reduceEqDiff, Nat.reduceBEq, reduceCtorEq, Int.reduceLT, Int.reduceLE, Int.reduceEq, Int.reduceGT, Int.reduceGE, Int.reduceToNat, Int.reduceNeg]
  · simp -implicitDefEqProofs only [go_sem, Nat.reduceAdd, Nat.reduceMul, Nat.reduceLT, Nat.reduceLeDiff, Nat.reduceEqDiff, Nat.reduceBEq, reduceCtorEq, Int.reduceLT, Int.reduceLE, Int.reduceEq, Int.reduceGT, Int.reduceGE, Int.reduceToNat, Int.reduceNeg]
  · simp -implicitDefEqProofs only [go_sem, Nat.reduceAdd, Nat.reduceMul, Nat.reduceLT, Nat.reduceLeDiff, Nat.reduceEqDiff, Nat.reduceBEq, reduceCtorEq, Int.reduceLT, Int.reduceLE, Int.reduceEq, Int.reduceGT, Int.reduceGE, Int.reduceToNat, Int.reduceNeg]
    rfl
  · rintro i ⟨T1, H1⟩ hi ⟨t0, t1, t5, hH⟩
    simp only at t0 t1 t5 hH
    subst hH
    have hcmp : decide (((i : Nat) : Int) < ((l.length : Nat) : Int)) = true := decide_eq_true (by omega)
    obtain ⟨b1, o1, s1, f1, f2, f3, fi, _, f4, f5, f6, _⟩ := codes_ins ha hi
    obtain ⟨b2, o2, s2, g1, g2, g3, gi, _, g4, g5, g6, _⟩ := codes_ins hb hi
    have hli := hlim l[i] (List.getElem_mem _)
    unfold F35_L1
    simp -implicitDefEqProofs only [go_sem, Nat.reduceAdd, Nat.reduceMul, Nat.reduceLT, Nat.reduceLeDiff, Nat.reduceEqDiff, Nat.reduceBEq, reduceCtorEq, Int.reduceLT, Int.reduceLE, Int.reduceEq, Int.reduceGT, Int.reduceGE, Int.reduceToNat, Int.reduceNeg, t0, t1, t5, h1, hcmp, f1, f2, f3, f4, f5, f6, g1, g2, g3, g4, g5, g6, eq_self, bool_neq, beq_same]
    refine Ret.then (Q' := fun r => r.1 = .exit 2 ∧ r.2.1 0 = va ∧ r.2.1 1 = vb ∧ r.2.1 5 = .int .i64 (i : Nat) ∧ r.2.2 = H1) (Ret.upTo (n := l[i].ins.length) (fun j t => t.1 0 = va ∧ t.1 1 = vb ∧ t.1 5 = .int .i64 (i : Nat) ∧ t.1 6 = .int .i64 (j : Nat) ∧ t.2 = H1) (by unfold big; omega) ⟨?_, ?_, ?_, ?_, rfl⟩ ?_ ?_) ?_
    · simp -implicitDefEqProofs only [go_sem, Nat.reduceAdd, Nat.reduceMul, Nat.reduceLT, Nat.reduceLeDiff, Nat.reduceEqDiff, Nat.reduceBEq, reduceCtorEq, Int.reduceLT, Int.reduceLE, Int.reduceEq, Int.reduceGT, Int.reduceGE, Int.reduceToNat, Int.reduceNeg, t0]
    · simp -implicitDefEqProofs only [go_sem, Nat.reduceAdd, Nat.reduceMul, Nat.reduceLT, Nat.reduceLeDiff, Nat.reduceEqDiff, Nat.reduceBEq, reduceCtorEq, Int.reduceLT, Int.reduceLE, Int.reduceEq, Int.reduceGT, Int.reduceGE, Int.reduceToNat, Int.reduceNeg, t1]
    · simp -implicitDefEqProofs only [go_sem, Nat.reduceAdd, Nat.reduceMul, Nat.reduceLT, Nat.reduceLeDiff, Nat.reduceEqDiff, Nat.reduceBEq, reduceCtorEq, Int.reduceLT, Int.reduceLE, Int.reduceEq, Int.reduceGT, Int.reduceGE, Int.reduceToNat, Int.reduceNeg, t5]
    · simp -implicitDefEqProofs only [go_sem, Nat.reduceAdd, Nat.reduceMul, Nat.reduceLT, Nat.reduceLeDiff, Nat.reduceEqDiff, Nat.reduceBEq, reduceCtorEq, Int.reduceLT, Int.reduceLE, Int.reduceEq, Int.reduceGT, Int.reduceGE, Int.reduceToNat, Int.reduceNeg]
      rfl
    · rintro j ⟨T2, H2⟩ hj ⟨u0, u1, u5, u6, hH⟩
      simp only at u0 u1 u5 u6 hH
      subst hH
      have hcj : decide (((j : Nat) : Int) < ((l[i].ins.length : Nat) : Int)) = true := decide_eq_true (by omega)
      obtain ⟨p1, q1, k1, k2, _⟩ := fi.1.at (i := j) (by simpa using hj)
      obtain ⟨p2, q2, m1, m2, _⟩ := gi.1.at (i := j) (by simpa using hj)
      simp only [List.getElem_map] at k2 m2
      unfold F35_L0
      simp -implicitDefEqProofs only [go_sem, Nat.reduceAdd, Nat.reduceMul, Nat.reduceLT, Nat.reduceLeDiff, Nat.reduceEqDiff, Nat.reduceBEq, reduceCtorEq, Int.reduceLT, Int.reduceLE, Int.reduceEq, Int.reduceGT, Int.reduceGE, Int.reduceToNat, Int.reduceNeg, u0, u1, u5, u6, f1, f2, f3, hcj, g1, g2, k1, k2, m1, m2, ins_neq_same, wrapS (i := j) (by omega)]
      refine .mk (.inl ⟨rfl, ?_, ?_, ?_, ?_, rfl⟩)
      · simp -implicitDefEqProofs only [go_sem, Nat.reduceAdd, Nat.reduceMul, Nat.reduceLT, Nat.reduceLeDiff, Nat.reduceEqDiff, Nat.reduceBEq, reduceCtorEq, Int.reduceLT, Int.reduceLE, Int.reduceEq, Int.reduceGT, Int.reduceGE, Int.reduceToNat, Int.reduceNeg, u0]
      · simp -implicitDefEqProofs only [go_sem, Nat.reduceAdd, Nat.reduceMul, Nat.reduceLT, Nat.reduceLeDiff, Nat.reduceEqDiff, Nat.reduceBEq, reduceCtorEq, Int.reduceLT, Int.reduceLE, Int.reduceEq, Int.reduceGT, Int.reduceGE, Int.reduceToNat, Int.reduceNeg, u1]
      · simp -implicitDefEqProofs only [go_sem, Nat.reduceAdd, Nat.reduceMul, Nat.reduceLT, Nat.reduceLeDiff, Nat.reduceEqDiff, Nat.reduceBEq, reduceCtorEq, Int.reduceLT, Int.reduceLE, Int.reduceEq, Int.reduceGT, Int.reduceGE, Int.reduceToNat, Int.reduceNeg, u5]
      · simp -implicitDefEqProofs only [go_sem, Nat.reduceAdd, Nat.reduceMul, Nat.reduceLT, Nat.reduceLeDiff, Nat.reduceEqDiff, Nat.reduceBEq, reduceCtorEq, Int.reduceLT, Int.reduceLE, Int.reduceEq, Int.reduceGT, Int.reduceGE, Int.reduceToNat, Int.reduceNeg]
    · rintro ⟨T2, H2⟩ ⟨u0, u1, u5, u6, hH⟩
      simp only at u0 u1 u5 u6 hH
      subst hH
      have hcj : decide (((l[i].ins.length : Nat) : Int) < ((l[i].ins.length : Nat) : Int)) = false := decide_eq_false (by omega)
      unfold F35_L0
      simp -implicitDefEqProofs only [go_sem, Nat.reduceAdd, Nat.reduceMul, Nat.reduceLT, Nat.reduceLeDiff, Nat.reduceEqDiff, Nat.reduceBEq, reduceCtorEq, Int.reduceLT, Int.reduceLE, Int.reduceEq, Int.reduceGT, Int.reduceGE, Int.reduceToNat, Int.reduceNeg, u0, u5, u6, f1, f2, f3, hcj]
      refine .mk ⟨by simp, rfl, ?_, ?_, ?_, rfl⟩
      · simp -implicitDefEqProofs only [go_sem, Nat.reduceAdd, Nat.reduceMul, Nat.reduceLT, Nat.reduceLeDiff, Nat.reduceEqDiff, Nat.reduceBEq, reduceCtorEq, Int.reduceLT, Int.reduceLE, Int.reduceEq, Int.reduceGT, Int.reduceGE, Int.reduceToNat, Int.reduceNeg, u0]
      · simp -implicitDefEqProofs only [go_sem, Nat.reduceAdd, Nat.reduceMul, Nat.reduceLT, Nat.reduceLeDiff, Nat.reduceEqDiff, Nat.reduceBEq, reduceCtorEq, Int.reduceLT, Int.reduceLE, Int.reduceEq, Int.reduceGT, Int.reduceGE, Int.reduceToNat, Int.reduceNeg, u1]
      · simp -implicitDefEqProofs only [go_sem, Nat.reduceAdd, Nat.reduceMul, Nat.reduceLT, Nat.reduceLeDiff, Nat.reduceEqDiff, Nat.reduceBEq, reduceCtorEq, Int.reduceLT, Int.reduceLE, Int.reduceEq, Int.reduceGT, Int.reduceGE, Int.reduceToNat, Int.reduceNeg, u5]
    · rintro ⟨e, T2, H2⟩ ⟨rfl, u0, u1, u5, hH⟩
      simp only at u0 u1 u5 hH
      subst hH
      simp -implicitDefEqProofs only [go_sem, Nat.reduceAdd, Nat.reduceMul, Nat.reduceLT, Nat.reduceLeDiff, Nat.reduceEqDiff, Nat.reduceBEq, reduceCtorEq, Int.reduceLT, Int.reduceLE, Int.reduceEq, Int.reduceGT, Int.reduceGE, Int.reduceToNat, Int.reduceNeg, u5, wrapS (i := i) (by omega)]
      refine .mk (.inl ⟨rfl, ?_, ?_, ?_, rfl⟩)
      · simp -implicitDefEqProofs only [go_sem, Nat.reduceAdd, Nat.reduceMul, Nat.reduceLT, Nat.reduceLeDiff, Nat.reduceEqDiff, Nat.reduceBEq, reduceCtorEq, Int.reduceLT, Int.reduceLE, Int.reduceEq, Int.reduceGT, Int.reduceGE, Int.reduceToNat, Int.reduceNeg, u0]
      · simp -implicitDefEqProofs only [go_sem, Nat.reduceAdd, Nat.reduceMul, Nat.reduceLT, Nat.reduceLeDiff, Nat.reduceEqDiff, Nat.reduceBEq, reduceCtorEq, Int.reduceLT, Int.reduceLE, Int.reduceEq, Int.reduceGT, Int.reduceGE, Int.reduceToNat, Int.reduceNeg, u1]
      · simp -implicitDefEqProofs only [go_sem, Nat.reduceAdd, Nat.reduceMul, Nat.reduceLT, Nat.reduceLeDiff, Nat.reduceEqDiff, Nat.reduceBEq, reduceCtorEq, Int.reduceLT, Int.reduceLE, Int.reduceEq, Int.reduceGT, Int.reduceGE, Int.reduceToNat, Int.reduceNeg]
  · rintro ⟨T1, H1⟩ ⟨t0, t1, t5, hH⟩
    simp only at t0 t1 t5 hH
    subst hH
    have hcmp : decide (((l.length : Nat) : Int) < ((l.length : Nat) : Int)) = false := decide_eq_false (by omega)
    unfold F35_L1
    simp -implicitDefEqProofs only [go_sem, Nat.reduceAdd, Nat.reduceMul, Nat.reduceLT, Nat.reduceLeDiff, Nat.reduceEqDiff, Nat.reduceBEq, reduceCtorEq, Int.reduceLT, Int.reduceLE, Int.reduceEq, Int.reduceGT, Int.reduceGE, Int.reduceToNat, Int.reduceNeg, t0, t5, h1, hcmp]
    exact .mk ⟨by simp, rfl, rfl⟩
  · rintro ⟨e, T1, H1⟩ ⟨rfl, hH⟩
    simp only at hH
    simp -implicitDefEqProofs only [go_sem, Nat.reduceAdd, Nat.reduceMul, Nat.reduceLT, Nat.reduceLeDiff, Nat.reduceEqDiff, Nat.reduceBEq, reduceCtorEq, Int.reduceLT, Int.reduceLE, Int.reduceEq, Int.reduceGT, Int.reduceGE, Int.reduceToNat, Int.reduceNeg]
    exact .mk ⟨rfl, hH⟩
end Go.Proofs.YthiflgncldmkjaaDoor
/- Made short twice is made short once: the law. -/
set_option linter.unusedVariables false
set_option linter.unusedSimpArgs false
set_option maxRecDepth 100000
namespace Go.Proofs.YthiflgncldmkjaaDoor
open Go.Ri
attribute [local congr] bind_lazy jn_lazy

theorem MadeAll.twice {l As Bs : List Code} (h : MadeAll l As) {main : Int} (hs : SoundP l main) (k : MadeAll As Bs) : Bs = As := by
  apply List.ext_getElem (by rw [k.1])
  intro j h1 h2
  obtain ⟨A, hm, hA⟩ := k.2 j h2 h1
  obtain ⟨_, _, _, _, _, _, hno⟩ := h.at hs h2
  have e := hm.one (.stop hno)
  rw [hA, e]
theorem fit_none {L : List Ins} (h : onceP L = none) {a : Nat} (ha : a < L.length) : (fitP L a).rule = 0 := by
  simp only [onceP, Option.map_eq_none_iff] at h
  exact firstP_none h a (Nat.zero_le _) (by omega)
structure IT (Hb : AH) (v w : AV) (i : Nat) (t : St) : Prop where
  t5 : t.1 5 = v
  t7 : t.1 7 = w
  t8 : t.1 8 = .int .i64 0
  t9 : t.1 9 = .int .i64 (i : Nat)
  ext : Ext Hb.next Hb t.2
theorem twice_loop (d : Nat) {Hb : AH} (hw : Hb.wf) (hT : Tabs Hb) {v w : AV} {l As : List Code} {N : Nat} (hown : OwnCodes N Hb v As) (ha : CodesRow Hb v As) (hm : MadeAll l As) {main : Int} (hs : SoundP l main) {T : Tm} {H1 : AH} (h0 : IT Hb v w 0 (T, H1)) :
    Ret (Ri.iter big (F10_L1 (RL (d + 6)) (Ri.iter big)) (T, H1)) fun r => r.1 = .exit 0 ∧ IT Hb v w As.length r.2 := by
  have hfew := ha.few
  refine Ret.upTo (n := As.length) (IT Hb v w) (by unfold big; omega) h0 ?_ ?_
  · rintro i ⟨T1, H2⟩ hi ⟨t5, t7, t8, t9, hx⟩
    simp only at t5 t7 t8 t9 hx
    have hcmp : decide (((i : Nat) : Int) < ((As.length : Nat) : Int)) = true := decide_eq_true (by omega)
    have hal := ha.alen
    obtain ⟨_, _, _, _, _, hsnd, hno⟩ := hm.at hs hi
    have hlen := hsnd.1.few
    unfold F10_L1
    simp -implicitDefEqProofs only [go_sem, Nat.reduceAdd, Nat.reduceMul, Nat.reduceLT, Nat.reduceLeDiff, Nat.reduceEqDiff, Nat.reduceBEq, reduceCtorEq, Int.reduceLT, Int.reduceLE, Int.reduceEq, Int.reduceGT, Int.reduceGE, Int.reduceToNat, Int.reduceNeg, t5, t9, hal, hcmp]
    refine Ret.then (Q' := fun r => r.1 = .exit 2 ∧ IT Hb v w i r.2) (Ret.upTo (n := As[i].ins.length) (fun j t => IT Hb v w i t ∧ t.1 10 = .int .i64 (j : Nat)) (by unfold big; omega) ⟨⟨?_, ?_, ?_, ?_, hx⟩, ?_⟩ ?_ ?_) ?_
    · simp -implicitDefEqProofs only [go_sem, Nat.reduceAdd, Nat.reduceMul, Nat.reduceLT, Nat.reduceLeDiff, Nat.reduceEqDiff, Nat.reduceBEq, reduceCtorEq, Int.reduceLT, Int.reduceLE, Int.reduceEq, Int.reduceGT, Int.reduceGE, Int.reduceToNat, Int.reduceNeg, t5]
    · simp -implicitDefEqProofs only [go_sem, Nat.reduceAdd, Nat.reduceMul, Nat.reduceLT, Nat.reduceLeDiff, Nat.reduceEqDiff, Nat.reduceBEq, reduceCtorEq, Int.reduceLT, Int.reduceLE, Int.reduceEq, Int.reduceGT, Int.reduceGE, Int.reduceToNat, Int.reduceNeg, t7]
    · simp -implicitDefEqProofs only [go_sem, Nat.reduceAdd, Nat.reduceMul, Nat.reduceLT, Nat.reduceLeDiff, Nat.reduceEqDiff, Nat.reduceBEq, reduceCtorEq, Int.reduceLT, Int.reduceLE, Int.reduceEq, Int.reduceGT, Int.reduceGE, Int.reduceToNat, Int.reduceNeg, t8]
    · simp -implicitDefEqProofs only [go_sem, Nat.reduceAdd, Nat.reduceMul, Nat.reduceLT, Nat.reduceLeDiff, Nat.reduceEqDiff, Nat.reduceBEq, reduceCtorEq, Int.reduceLT, Int.reduceLE, Int.reduceEq, Int.reduceGT, Int.reduceGE, Int.reduceToNat, Int.reduceNeg, t9]
    · simp -implicitDefEqProofs only [go_sem, Nat.reduceAdd, Nat.reduceMul, Nat.reduceLT, Nat.reduceLeDiff, Nat.reduceEqDiff, Nat.reduceBEq, reduceCtorEq, Int.reduceLT, Int.reduceLE, Int.reduceEq, Int.reduceGT, Int.reduceGE, Int.reduceToNat, Int.reduceNeg]
      rfl
    · rintro j ⟨T3, H3⟩ hj ⟨⟨u5, u7, u8, u9, hx3⟩, u10⟩
      simp only at u5 u7 u8 u9 hx3 u10
      have hcj : decide (((j : Nat) : Int) < ((As[i].ins.length : Nat) : Int)) = true := decide_eq_true (by omega)
      have ha3 := ha.mono (hx3.sub hw)
      obtain ⟨b, o, s, f1, f2, f3, _⟩ := codes_ins ha3 hi
      obtain ⟨⟨x, H4⟩, h37, hx4, hv⟩ := rule_spec (d + 1) hx3.wf (hT.ext hx3 hT.two) (hown.keep hw hx3.low) ha3 hi hsnd hj
      simp only at hx4 hv
      subst hv
      rw [fit_none hno hj] at h37
      have r37 : RL (d + 6) 37 [v, .int .i64 (i : Nat), .int .i64 (j : Nat)] H3 = some (.int .i64 ((0 : Nat) : Int), H4) := (RL_at (by decide) _ _).trans h37
      rw [Int.natCast_zero] at r37
      unfold F10_L0
      simp -implicitDefEqProofs only [go_sem, Nat.reduceAdd, Nat.reduceMul, Nat.reduceLT, Nat.reduceLeDiff, Nat.reduceEqDiff, Nat.reduceBEq, reduceCtorEq, Int.reduceLT, Int.reduceLE, Int.reduceEq, Int.reduceGT, Int.reduceGE, Int.reduceToNat, Int.reduceNeg, u5, u9, u10, f1, f2, f3, hcj, r37, wrapS (i := j) (by omega)]
      refine .mk (.inl ⟨rfl, ⟨?_, ?_, ?_, ?_, hx3.trans hx4 hx3.next⟩, ?_⟩)
      · simp -implicitDefEqProofs only [go_sem, Nat.reduceAdd, Nat.reduceMul, Nat.reduceLT, Nat.reduceLeDiff, Nat.reduceEqDiff, Nat.reduceBEq, reduceCtorEq, Int.reduceLT, Int.reduceLE, Int.reduceEq, Int.reduceGT, Int.reduceGE, Int.reduceToNat, Int.reduceNeg, u5]
      · simp -implicitDefEqProofs only [go_sem, Nat.reduceAdd, Nat.reduceMul, Nat.reduceLT, Nat.reduceLeDiff, Nat.reduceEqDiff, Nat.reduceBEq, reduceCtorEq, Int.reduceLT, Int.reduceLE, Int.reduceEq, Int.reduceGT, Int.reduceGE, Int.reduceToNat, Int.reduceNeg, u7]
      · simp -implicitDefEqProofs only [go_sem, Nat.reduceAdd, Nat.reduceMul, Nat.reduceLT, Nat.reduceLeDiff, Nat.reduceEqDiff, Nat.reduceBEq, reduceCtorEq, Int.reduceLT, Int.reduceLE, Int.reduceEq, Int.reduceGT, Int.reduceGE, Int.reduceToNat, Int.reduceNeg, u8]
      · simp -implicitDefEqProofs only [go_sem, Nat.reduceAdd, Nat.reduceMul, Nat.reduceLT, Nat.reduceLeDiff, Nat.reduceEqDiff, Nat.reduceBEq, reduceCtorEq, Int.reduceLT, Int.reduceLE, Int.reduceEq, Int.reduceGT, Int.reduceGE, Int.reduceToNat, Int.reduceNeg, u9]
      · simp -implicitDefEqProofs only [go_sem, Nat.reduceAdd, Nat.reduceMul, Nat.reduceLT, Nat.reduceLeDiff, Nat.reduceEqDiff, Nat.reduceBEq, reduceCtorEq, Int.reduceLT, Int.reduceLE, Int.reduceEq, Int.reduceGT, Int.reduceGE, Int.reduceToNat, Int.reduceNeg]
    · rintro ⟨T3, H3⟩ ⟨⟨u5, u7, u8, u9, hx3⟩, u10⟩
      simp only at u5 u7 u8 u9 hx3 u10
      have hcj : decide (((As[i].ins.length : Nat) : Int) < ((As[i].ins.length : Nat) : Int)) = false := decide_eq_false (by omega)
      obtain ⟨b, o, s, f1, f2, f3, _⟩ := codes_ins (ha.mono (hx3.sub hw)) hi
      unfold F10_L0
      simp -implicitDefEqProofs only [go_sem, Nat.reduceAdd, Nat.reduceMul, Nat.reduceLT, Nat.reduceLeDiff, Nat.reduceEqDiff, Nat.reduceBEq, reduceCtorEq, Int.reduceLT, Int.reduceLE, Int.reduceEq, Int.reduceGT, Int.reduceGE, Int.reduceToNat, Int.reduceNeg, u5, u9, u10, f1, f2, f3, hcj]
      refine .mk ⟨by simp, rfl, ?_, ?_, ?_, ?_, hx3⟩
      · simp -implicitDefEqProofs only [go_sem, Nat.reduceAdd, Nat.reduceMul, Nat.reduceLT, Nat.reduceLeDiff, Nat.reduceEqDiff, Nat.reduceBEq, reduceCtorEq, Int.reduceLT, Int.reduceLE, Int.reduceEq, Int.reduceGT, Int.reduceGE, Int.reduceToNat, Int.reduceNeg, u5]
      · simp -implicitDefEqProofs only [go_sem, Nat.reduceAdd, Nat.reduceMul, Nat.reduceLT, Nat.reduceLeDiff, Nat.reduceEqDiff, Nat.reduceBEq, reduceCtorEq, Int.reduceLT, Int.reduceLE, Int.reduceEq, Int.reduceGT, Int.reduceGE, Int.reduceToNat, Int.reduceNeg, u7]
      · simp -implicitDefEqProofs only [go_sem, Nat.reduceAdd, Nat.reduceMul, Nat.reduceLT, Nat.reduceLeDiff, Nat.reduceEqDiff, Nat.reduceBEq, reduceCtorEq, Int.reduceLT, Int.reduceLE, Int.reduceEq, Int.reduceGT, Int.reduceGE, Int.reduceToNat, Int.reduceNeg, u8]
      · simp -implicitDefEqProofs only [go_sem, Nat.reduceAdd, Nat.reduceMul, Nat.reduceLT, Nat.reduceLeDiff, Nat.reduceEqDiff, Nat.reduceBEq, reduceCtorEq, Int.reduceLT, Int.reduceLE, Int.reduceEq, Int.reduceGT, Int.reduceGE, Int.reduceToNat, Int.reduceNeg, u9]
    · rintro ⟨e, T3, H3⟩ ⟨rfl, u5, u7, u8, u9, hx3⟩
      simp only at u5 u7 u8 u9 hx3
      simp -implicitDefEqProofs only [go_sem, Nat.reduceAdd, Nat.reduceMul, Nat.reduceLT, Nat.reduceLeDiff, Nat.reduceEqDiff, Nat.reduceBEq, reduceCtorEq, Int.reduceLT, Int.reduceLE, Int.reduceEq, Int.reduceGT, Int.reduceGE, Int.reduceToNat, Int.reduceNeg, u9, wrapS (i := i) (by omega)]
      refine .mk (.inl ⟨rfl, ?_, ?_, ?_, ?_, hx3⟩)
      · simp -implicitDefEqProofs only [go_sem, Nat.reduceAdd, Nat.reduceMul, Nat.reduceLT, Nat.reduceLeDiff, Nat.reduceEqDiff, Nat.reduceBEq, reduceCtorEq, Int.reduceLT, Int.reduceLE, Int.reduceEq, Int.reduceGT, Int.reduceGE, Int.reduceToNat, Int.reduceNeg, u5]
      · simp -implicitDefEqProofs only [go_sem, Nat.reduceAdd, Nat.reduceMul, Nat.reduceLT, Nat.reduceLeDiff, Nat.reduceEqDiff, Nat.reduceBEq, reduceCtorEq, Int.reduceLT, Int.reduceLE, Int.reduceEq, Int.reduceGT, Int.reduceGE, Int.reduceToNat, Int.reduceNeg, u7]
      · simp -implicitDefEqProofs only [go_sem, Nat.reduceAdd, Nat.reduceMul, Nat.reduceLT, Nat.reduceLeDiff, Nat.reduceEqDiff, Nat.reduceBEq, reduceCtorEq, Int.reduceLT, Int.reduceLE, Int.reduceEq, Int.reduceGT, Int.reduceGE, Int.reduceToNat, Int.reduceNeg, u8]
      · simp -implicitDefEqProofs only [go_sem, Nat.reduceAdd, Nat.reduceMul, Nat.reduceLT, Nat.reduceLeDiff, Nat.reduceEqDiff, Nat.reduceBEq, reduceCtorEq, Int.reduceLT, Int.reduceLE, Int.reduceEq, Int.reduceGT, Int.reduceGE, Int.reduceToNat, Int.reduceNeg]
  · rintro ⟨T1, H2⟩ ⟨t5, t7, t8, t9, hx⟩
    simp only at t5 t7 t8 t9 hx
    have hal := ha.alen
    have hcmp : decide (((As.length : Nat) : Int) < ((As.length : Nat) : Int)) = false := decide_eq_false (by omega)
    unfold F10_L1
    simp -implicitDefEqProofs only [go_sem, Nat.reduceAdd, Nat.reduceMul, Nat.reduceLT, Nat.reduceLeDiff, Nat.reduceEqDiff, Nat.reduceBEq, reduceCtorEq, Int.reduceLT, Int.reduceLE, Int.reduceEq, Int.reduceGT, Int.reduceGE, Int.reduceToNat, Int.reduceNeg, t5, t9, hal, hcmp]
    refine .mk ⟨by simp, rfl, ?_, ?_, ?_, ?_, hx⟩
    · simp -implicitDefEqProofs only [go_sem, Nat.reduceAdd, Nat.reduceMul, Nat.reduceLT, Nat.reduceLeDiff, Nat.reduceEqDiff, Nat.reduceBEq, reduceCtorEq, Int.reduceLT, Int.reduceLE, Int.reduceEq, Int.reduceGT, Int.reduceGE, Int.reduceToNat, Int.reduceNeg, t5]
    · simp -implicitDefEqProofs only [go_sem, Nat.reduceAdd, Nat.reduceMul, Nat.reduceLT, Nat.reduceLeDiff, Nat.reduceEqDiff, Nat.reduceBEq, reduceCtorEq, Int.reduceLT, Int.reduceLE, Int.reduceEq, Int.reduceGT, Int.reduceGE, Int.reduceToNat, Int.reduceNeg, t7]
    · simp -implicitDefEqProofs only [go_sem, Nat.reduceAdd, Nat.reduceMul, Nat.reduceLT, Nat.reduceLeDiff, Nat.reduceEqDiff, Nat.reduceBEq, reduceCtorEq, Int.reduceLT, Int.reduceLE, Int.reduceEq, Int.reduceGT, Int.reduceGE, Int.reduceToNat, Int.reduceNeg, t8]
    · simp -implicitDefEqProofs only [go_sem, Nat.reduceAdd, Nat.reduceMul, Nat.reduceLT, Nat.reduceLeDiff, Nat.reduceEqDiff, Nat.reduceBEq, reduceCtorEq, Int.reduceLT, Int.reduceLE, Int.reduceEq, Int.reduceGT, Int.reduceGE, Int.reduceToNat, Int.reduceNeg, t9]
theorem law_twice (d : Nat) {H : AH} (hw : H.wf) (hT : Tabs H) {ls : AV} {l : List Code} (hl : CodesRow H ls l) {main : Int} (hm : InI main) :
    Ret (LawR (d + 6) 10 [ls, .int .i64 main] H) fun r => r.1 = .bool true := by
  unfold LawR
  rw [F10_eq]
  unfold F10
  obtain ⟨⟨v1, H1⟩, h31, ⟨g, hg⟩, hH1⟩ := great10_spec (d + 4) hl
  simp only at hg hH1
  subst hg hH1
  have r31 : RL (d + 6) 31 [ls] H1 = some (.bool g, H1) := (RL_at (by decide) _ _).trans h31
  cases g
  · obtain ⟨⟨v2, H2⟩, h33, hx2, hr⟩ := make_spec d hw hT hl hm
    simp only at hx2 hr
    have r33 : RL (d + 6) 33 [ls, .int .i64 main] H1 = some (v2, H2) := (RL_at (by decide) _ _).trans h33
    have hT2 := hT.ext hx2 hT.two
    rcases hr with ⟨hno, rfl⟩ | ⟨hs, As, v, rfl, hmade, hown⟩
    · have r32 := RL_32 (d + 6) hT2
      simp -implicitDefEqProofs only [go_sem, Nat.reduceAdd, Nat.reduceMul, Nat.reduceLT, Nat.reduceLeDiff, Nat.reduceEqDiff, Nat.reduceBEq, reduceCtorEq, Int.reduceLT, Int.reduceLE, Int.reduceEq, Int.reduceGT, Int.reduceGE, Int.reduceToNat, Int.reduceNeg, r31, r33, r32]
      exact .mk rfl
    · have ha := hown.codes hmade hs
      obtain ⟨⟨v3, H3⟩, h33b, hx3, hr⟩ := make_spec d hx2.wf hT2 ha hm
      simp only at hx3 hr
      have r33b : RL (d + 6) 33 [v, .int .i64 main] H2 = some (v3, H3) := (RL_at (by decide) _ _).trans h33b
      have hT3 := hT2.ext hx3 hT2.two
      rcases hr with ⟨hno, _⟩ | ⟨hs2, Bs, w, rfl, hmade2, hown2⟩
      · exact absurd (hmade.sound hs) hno
      · obtain rfl : Bs = As := hmade.twice hs hmade2
        have hb := hown2.codes hmade2 hs2
        have ha3 := ha.mono (hx3.sub hx2.wf)
        simp -implicitDefEqProofs only [go_sem, Nat.reduceAdd, Nat.reduceMul, Nat.reduceLT, Nat.reduceLeDiff, Nat.reduceEqDiff, Nat.reduceBEq, reduceCtorEq, Int.reduceLT, Int.reduceLE, Int.reduceEq, Int.reduceGT, Int.reduceGE, Int.reduceToNat, Int.reduceNeg, r31, r33, r33b]
        refine Ret.then (twice_loop d (w := w) hx3.wf hT3 (hown.keep hx2.wf hx3.low) ha3 hmade hs ⟨?_, ?_, ?_, ?_, .refl hx3.wf⟩) ?_
        · simp -implicitDefEqProofs only [go_sem, Nat.reduceAdd, Nat.reduceMul, Nat.reduceLT, Nat.reduceLeDiff, Nat.reduceEqDiff, Nat.reduceBEq, reduceCtorEq, Int.reduceLT, Int.reduceLE, Int.reduceEq, Int.reduceGT, Int.reduceGE, Int.reduceToNat, Int.reduceNeg]
        · simp -implicitDefEqProofs only [go_sem, Nat.reduceAdd, Nat.reduceMul, Nat.reduceLT, Nat.reduceLeDiff, Nat.reduceEqDiff, Nat.reduceBEq, reduceCtorEq, Int.reduceLT, Int.reduceLE, Int.reduceEq, Int.reduceGT, Int.reduceGE, Int.reduceToNat, Int.reduceNeg]
        · simp -implicitDefEqProofs only [go_sem, Nat.reduceAdd, Nat.reduceMul, Nat.reduceLT, Nat.reduceLeDiff, Nat.reduceEqDiff, Nat.reduceBEq, reduceCtorEq, Int.reduceLT, Int.reduceLE, Int.reduceEq, Int.reduceGT, Int.reduceGE, Int.reduceToNat, Int.reduceNeg]
        · simp -implicitDefEqProofs only [go_sem, Nat.reduceAdd, Nat.reduceMul, Nat.reduceLT, Nat.reduceLeDiff, Nat.reduceEqDiff, Nat.reduceBEq, reduceCtorEq, Int.reduceLT, Int.reduceLE, Int.reduceEq, Int.reduceGT, Int.reduceGE, Int.reduceToNat, Int.reduceNeg]
          rfl
        · rintro ⟨e, T, H4⟩ ⟨rfl, t5, t7, t8, _, hx4⟩
          simp only at t5 t7 t8 hx4
          obtain ⟨⟨x, H5⟩, h35, hx, hH5⟩ := same_spec (d + 5) (ha3.mono (hx4.sub hx3.wf)) (hb.mono (hx4.sub hx3.wf)) fun c hc => by
            obtain ⟨k, hk⟩ := List.mem_iff_getElem?.1 hc
            have hlt := (List.getElem?_eq_some_iff.1 hk).1
            rw [List.getElem?_eq_getElem hlt] at hk
            cases hk
            obtain ⟨_, _, _, _, _, s, _⟩ := hmade.at hs hlt
            have := s.1.few
            omega
          simp only at hx hH5
          subst hx hH5
          have r35 : RL (d + 6) 35 [v, w] H5 = some (.bool true, H5) := (RL_at (by decide) _ _).trans h35
          have r32 := RL_32 (d + 6) (hT3.ext hx4 hT3.two)
          simp -implicitDefEqProofs only [go_sem, Nat.reduceAdd, Nat.reduceMul, Nat.reduceLT, Nat.reduceLeDiff, Nat.reduceEqDiff, Nat.reduceBEq, reduceCtorEq, Int.reduceLT, Int.reduceLE, Int.reduceEq, Int.reduceGT, Int.reduceGE, Int.reduceToNat, Int.reduceNeg, t5, t7, t8, r35, r32]
          exact .mk rfl
  · have r32 := RL_32 (d + 6) hT
    simp -implicitDefEqProofs only [go_sem, Nat.reduceAdd, Nat.reduceMul, Nat.reduceLT, Nat.reduceLeDiff, Nat.reduceEqDiff, Nat.reduceBEq, reduceCtorEq, Int.reduceLT, Int.reduceLE, Int.reduceEq, Int.reduceGT, Int.reduceGE, Int.reduceToNat, Int.reduceNeg, r31, r32]
    exact .mk rfl
end Go.Proofs.YthiflgncldmkjaaDoor
/- Made short twice is made short once (PeepTwice): for every input the law returns true, and the input reads as it did. Condition: the two tables of package code start as the program's text lays them (the row's own). -/
set_option linter.unusedVariables false
set_option linter.unusedSimpArgs false
set_option maxRecDepth 100000
namespace Go.Proofs.YthiflgncldmkjaaDoor
open Go.Ri Go.ChangeShapes Go.WideShapes Go.ChangeAt Go.RowKit
namespace N10
theorem res : Tryd.f10.resultTypes = #[4] := by kernel_rfl
theorem readable : (Tryd.f10.params.toList.all fun t => Tryd.prog.readableRec t && decide (t < Tryd.prog.types.size)) = true := by kernel_rfl
theorem psize : Tryd.f10.params.size = 2 := by kernel_rfl
theorem contract (H : Type) (enc : TypeId × Value → H) (W : World) (base : Nat) (args : Array Value) (ds gs : List (DataW H)) (before : List MemPlace)
    (hval : ∀ (j : Nat) t v, Tryd.f10.params[j]? = some t → args[j]? = some v → Value.okWide Tryd.prog W .any base t v)
    (hW : DataW.Whole enc Tryd.prog Tryd.f10.params.toList Rows.peepTwiceSpec.vars false W args.toList ds gs before) (hL : laidMetH Tryd.prog Rows.peepTwiceRow.laid W)
    (hwt : (DataW.weightsEach Tryd.prog (Tryd.f10.params.toList ++ (OpenSpec.ofChange Rows.peepTwiceSpec).bare.plain.varTypes Tryd.prog) (ds ++ gs)).all (· ≤ reachBytes) = true) :
    Calls Tryd.prog 10 args W fun e W' => ∃ v, e = .returned v ∧ Rows.peepTwiceSpec.post enc Tryd.prog Tryd.f10 false true false false W args v W' := by
  refine contract_law res (fun ds hd => ?_) rfl (fun t ht => ?_) hW hL fun ρ0 H0 hS0 hro0 hT0 hA => ?_
  · rw [psize] at hd
    match ds, hd with
    | [d0, d1], _ => rfl
  · have := List.all_eq_true.1 readable t ht
    simpa using this
  · rw [Tryd.params10] at hA hval
    obtain ⟨v0, vs0, d0, ds0, p0, q0, hargs, rfl, rfl, h0, r0⟩ := trodAll_cons hA
    obtain ⟨v1, vs1, d1, ds1, p1, q1, rfl, rfl, rfl, h1, r1⟩ := trodAll_cons r0
    obtain ⟨rfl, rfl, rfl⟩ := trodAll_nil r1
    obtain rfl : args = #[v0, v1] := by cases args; simp_all
    obtain ⟨main, rfl, _, _, hm⟩ := open_int under3 (hval 1 3 v1 rfl rfl) h1
    obtain ⟨fuel0, h0⟩ := h0
    have hc0 : v0.cells.toList = [v0] := slice_cells under36 (hval 0 36 v0 rfl rfl)
    rw [hc0] at h0
    obtain ⟨ρ1, H1, s0, l, hL1, hr1, _, hrow1, hlen⟩ := lay_codes h0 hS0 hro0
    have hw1 : H1.wf := fun b B hB => hL1.sim.dom hB
    refine ⟨ρ1, H1, [s0, .int .i64 main], 6, hL1, relL_cons hr1 (relL_one rfl), ?_⟩
    exact law_twice 0 hw1 (hT0.sub hL1.sub hw1) hrow1 (inI_of_wf hm)
theorem reads (os : Os) {H : Type} (enc : TypeId × Value → H) : ∃ places, DataW.whole enc Tryd.prog ((laidWorld os).forCall (fun _ _ => 0) ⟨#[], #[.slice none 0 0, .int .i64 0], []⟩).memory Tryd.f10.params.toList Rows.peepTwiceSpec.vars false #[Value.slice none 0 0, Value.int .i64 0].toList 8 = some ([.nil, .lit (.int .i64 0)], [], places) :=
  ⟨[], by kernel_rfl⟩
theorem lifted (os : Os) (started : os.Started) (H : Type) (enc : TypeId × Value → H) (F : Stop.Interp) :
    ReturnsInHanded {} Tryd.checked os 10 .any ((OpenSpec.ofChange Rows.peepTwiceSpec).preRow enc Tryd.prog Tryd.f10 Rows.peepTwiceRow.domain false Rows.peepTwiceRow.laid) (((OpenSpec.ofChange Rows.peepTwiceSpec).at F).post enc Tryd.prog Tryd.f10 false true false false) := by
  obtain ⟨places, hx⟩ := reads os enc
  refine returnsInHanded_of_row (C := Tryd.checked) (s := OpenSpec.ofChange Rows.peepTwiceSpec) own started (by kernel_rfl) Tryd.func10
    (witness_row_at (enc := enc) (C := Tryd.checked) false (laidWorld os) #[Value.slice none 0 0, Value.int .i64 0] rfl (by kernel_rfl) (by kernel_rfl) (by kernel_rfl)
      (OpenSpec.preRow_of_cond 8 hx (by kernel_rfl) (fun k hk => by cases hk) (by kernel_rfl) (laid_met os _))) ?_
  intro W base args ds gs before hval hW _ _ hwt hL _ _
  exact contract H enc W base args ds gs before hval hW hL hwt
theorem said : Rows.PeepTwiceSaid :=
  OpenClaim.holds_of_cond 10 Tryd.f10 rfl rfl rfl rfl rfl rfl rfl ⟨rfl, rfl, rfl, rfl, rfl⟩ rfl rfl rfl rfl rfl (by kernel_rfl) Tryd.func10 (by kernel_rfl)
    (of_decide_eq_true (by kernel_rfl)) (by unfold Func.isWrapper; first | (rw [if_pos (by decide +kernel)]; kernel_rfl) | (rw [if_neg (by decide +kernel)]; exact ⟨rfl, rfl⟩))
    (fun os started H enc _ F => by rw [OpenClaim.pre_eq_preRow]; exact lifted os started H enc F)
theorem plain (f : FuncId) (fn : Func) (hf : Tryd.pinned.checked.prog.funcNamed "parallax/parallaxlaw10.PeepTwice" = some f) (hfn : Tryd.pinned.checked.prog.funcs[f]? = some fn) :
    false = Tryd.pinned.checked.prog.looks [] ∧ ∀ (j : Nat) t, fn.params[j]? = some t → Tryd.pinned.checked.prog.wantsStandIn t = false := by
  obtain rfl : f = 10 := Option.some.inj ((show Tryd.prog.funcNamed "parallax/parallaxlaw10.PeepTwice" = some 10 by kernel_rfl).symm.trans hf) |>.symm
  obtain rfl : fn = Tryd.f10 := (Option.some.inj (Tryd.func10.symm.trans hfn)).symm
  refine ⟨by kernel_rfl, fun j t ht => ?_⟩
  rw [Tryd.params10] at ht
  have hm : t ∈ [36, 3] := by simpa using Array.mem_of_getElem? ht
  have hall : ([36, 3].all fun u => !Tryd.prog.wantsStandIn u) = true := by kernel_rfl
  exact (show Tryd.prog.wantsStandIn t = false by simpa using List.all_eq_true.1 hall t hm)
end N10
theorem peepTwice_holds : Rows.PeepTwiceCardSaid :=
  Claim7.holds_tied_plain_at .later [] _ _ _ _ N10.said (fun _ h => by cases h) (by kernel_rfl) (fun _ h => by cases h) peepTwice_row_tie rfl ⟨rfl, rfl⟩ (by kernel_rfl) rfl N10.plain (by kernel_rfl)
#print axioms peepTwice_holds
end Go.Proofs.YthiflgncldmkjaaDoor
