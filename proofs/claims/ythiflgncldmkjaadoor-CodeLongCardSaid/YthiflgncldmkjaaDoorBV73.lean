/- Part 3 of the proof that: So many instructions are sound, one more is not (CodeLong): for every input the law returns true, and the input reads as it did. Condition: the two tables of package code start as the program's text lays them (the row's own). -/
import Derived.Test.YthiflgncldmkjaaDoorBV72
/- The law of so many instructions, walked. -/
set_option linter.unusedVariables false
set_option linter.unusedSimpArgs false
set_option maxRecDepth 100000
namespace Go.Proofs.YthiflgncldmkjaaDoor
open Go.Ri

theorem long_end (d : Nat) {H : AH} (hw : H.wf) (hT : Tabs H) {M : Nat} (hM : 1 ≤ M) (hM2 : M < 100000) {j : Bool} {T : Tm} {G : AH} {s : AV} (hx : Ext H.next H G) (hb : G.m H.next = some ⟨[s, .int .i64 1, .int .i64 0, .bool false], 24, true⟩)
    (hi : InsRow G s (longI M j)) (t0 : T 0 = .int .i64 ((M + 1 : Nat) : Int)) (t5 : T 5 = .ptr (some (H.next, 0))) : Ret (F7_J0 (RT (d + 5)) (Ri.iter big) T G) fun r => r.1 = .bool true := by
  unfold F7_J0
  have hx1 : Ext H.next H (G.new [s, .int .i64 1, .int .i64 0, .bool false] 24) := hx.new _ _
  have hsub : G.sub (G.new [s, .int .i64 1, .int .i64 0, .bool false] 24) := ((Ext.refl hx.wf).new _ _).sub hx.wf
  have hcr : CodesRow (G.new [s, .int .i64 1, .int .i64 0, .bool false] 24) (.slice (some (G.next, 0)) 1 (.kn 1)) [longC M j] := by
    refine ⟨[[s, .int .i64 1, .int .i64 0, .bool false]], Own.row (l := [[s, .int .i64 1, .int .i64 0, .bool false]]) (by omega) (Own.made (N := 0) (n := 1) (Nat.zero_le _) rfl) (by simp), ⟨rfl, by simp⟩, fun i h h' => ?_⟩
    have : i = 0 := by simpa using h
    subst this
    exact ⟨s, rfl, ⟨hi.1.mono hsub, hi.2⟩, by unfold InI; simp [longC], by unfold InI; simp [longC], by simp only [longC, List.getElem_cons_zero, longI_len hM]; omega⟩
  obtain ⟨⟨v, G2⟩, h27, hx2, b, rfl, hs⟩ := Sound_spec d hx1.wf (hT.ext hx1 hT.two) hcr (main := 0) (by unfold InI; omega)
  simp only at hx2
  have hx3 := hx1.trans hx2 hx1.next
  have h22 : RT (d + 5) 22 [] G2 = some (.bool true, G2) := RT_22 _ (hT.ext hx3 hT.two)
  rw [sound_long hM] at hs
  by_cases hle : ((M + 1 : Nat) : Int) ≤ 65536
  · have : b = true := hs.2 (by omega)
    subst this
    simp -implicitDefEqProofs only [go_sem, Nat.reduceAdd, Nat.reduceMul, Nat.reduceLT, Nat.reduceLeDiff, Nat.reduceEqDiff, Nat.reduceBEq, reduceCtorEq, Int.reduceLT, Int.reduceLE, Int.reduceEq, Int.reduceGT, Int.reduceGE, Int.reduceToNat, Int.reduceNeg, t0, t5, hb, h27, decide_eq_true hle, aBin_bool, h22]
    exact .mk rfl
  · have : b = false := by
      cases b
      · rfl
      · have := hs.1 rfl; omega
    subst this
    simp -implicitDefEqProofs only [go_sem, Nat.reduceAdd, Nat.reduceMul, Nat.reduceLT, Nat.reduceLeDiff, Nat.reduceEqDiff, Nat.reduceBEq, reduceCtorEq, Int.reduceLT, Int.reduceLE, Int.reduceEq, Int.reduceGT, Int.reduceGE, Int.reduceToNat, Int.reduceNeg, t0, t5, hb, h27, decide_eq_false hle, aBin_bool, h22]
    exact .mk rfl

def I7 (H : AH) (M : Nat) (j : Bool) (i : Nat) (t : St) : Prop :=
  t.1 0 = .int .i64 ((M + 1 : Nat) : Int) ∧ t.1 1 = .bool j ∧ t.1 5 = .ptr (some (H.next, 0)) ∧ t.1 6 = .int .i64 (i : Nat) ∧ ∃ s, Ext H.next H t.2 ∧ t.2.m H.next = some ⟨[s, .int .i64 1, .int .i64 0, .bool false], 24, true⟩ ∧
    Own (H.next + 1) 3 29 t.2 s ((List.replicate i clr).map insC).flatten
theorem long_loop (d : Nat) {H : AH} {M : Nat} (hM2 : M < 100000) {j : Bool} {T : Tm} {G : AH} (h0 : I7 H M j 0 (T, G)) :
    Ret (Ri.iter big (F7_L1 (RT d) (Ri.iter big)) (T, G)) fun r => r.1 = .exit 0 ∧ I7 H M j M r.2 := by
  have hsub1 : IntKind.i64.wrap (((M + 1 : Nat) : Int) - 1) = ((M : Nat) : Int) := by rw [wrapR (by omega)]; omega
  refine Ret.upTo (n := M) (I7 H M j) (by unfold big; omega) h0 ?_ ?_
  · rintro i ⟨T1, G1⟩ hi ⟨t0, t1, t5, t6, s, hx, hb, hown⟩
    simp only at t0 t1 t5 t6 hx hb hown
    have hcmp : decide (((i : Nat) : Int) < ((M : Nat) : Int)) = true := decide_eq_true (by omega)
    have hlt : H.next < G1.next := hx.wf _ _ hb
    have hkn : ¬ H.next = G1.next := by omega
    have hfl := flat_len _ (insC_len (List.replicate i clr))
    obtain ⟨⟨s', G2⟩, ha, g1, g2, g3, g4, g5⟩ := app_el (ds := insC clr) ysl22 hown (Ext.self hx.wf hlt) rfl (by rw [hfl]; simp; omega)
    simp only at g1 g2 g3 g4 g5
    have hin : insC clr = [.int .i64 6, .int .i64 0, .int .i64 1] := rfl
    rw [hin] at ha
    obtain ⟨p, n, cc, rfl⟩ := g1.shape
    have hb2 : G2.m H.next = some ⟨[s, .int .i64 1, .int .i64 0, .bool false], 24, true⟩ := by rw [g2.low _ (Nat.lt_succ_self _)]; exact hb
    have hx2 : Ext H.next H G2 := hx.trans (g2.less (Nat.le_succ _)) (Nat.le_refl _)
    unfold F7_L1
    simp -implicitDefEqProofs only [go_sem, Nat.reduceAdd, Nat.reduceMul, Nat.reduceLT, Nat.reduceLeDiff, Nat.reduceEqDiff, Nat.reduceBEq, reduceCtorEq, Int.reduceLT, Int.reduceLE, Int.reduceEq, Int.reduceGT, Int.reduceGE, Int.reduceToNat, Int.reduceNeg, t0, t5, t6, hsub1, hcmp, hb, ha, hb2, wrapS (i := i) (by omega)]
    refine .mk (.inl ⟨rfl, ?_, ?_, ?_, ?_, .slice p n cc, hx2.put (Nat.le_refl _) (hx2.wf _ _ hb2) _, by simp, ?_⟩)
    · simp -implicitDefEqProofs only [go_sem, Nat.reduceAdd, Nat.reduceMul, Nat.reduceLT, Nat.reduceLeDiff, Nat.reduceEqDiff, Nat.reduceBEq, reduceCtorEq, Int.reduceLT, Int.reduceLE, Int.reduceEq, Int.reduceGT, Int.reduceGE, Int.reduceToNat, Int.reduceNeg, t0]
    · simp -implicitDefEqProofs only [go_sem, Nat.reduceAdd, Nat.reduceMul, Nat.reduceLT, Nat.reduceLeDiff, Nat.reduceEqDiff, Nat.reduceBEq, reduceCtorEq, Int.reduceLT, Int.reduceLE, Int.reduceEq, Int.reduceGT, Int.reduceGE, Int.reduceToNat, Int.reduceNeg, t1]
    · simp -implicitDefEqProofs only [go_sem, Nat.reduceAdd, Nat.reduceMul, Nat.reduceLT, Nat.reduceLeDiff, Nat.reduceEqDiff, Nat.reduceBEq, reduceCtorEq, Int.reduceLT, Int.reduceLE, Int.reduceEq, Int.reduceGT, Int.reduceGE, Int.reduceToNat, Int.reduceNeg, t5]
    · simp -implicitDefEqProofs only [go_sem, Nat.reduceAdd, Nat.reduceMul, Nat.reduceLT, Nat.reduceLeDiff, Nat.reduceEqDiff, Nat.reduceBEq, reduceCtorEq, Int.reduceLT, Int.reduceLE, Int.reduceEq, Int.reduceGT, Int.reduceGE, Int.reduceToNat, Int.reduceNeg]
    · have : ((List.replicate (i + 1) clr).map insC).flatten = ((List.replicate i clr).map insC).flatten ++ insC clr := by
        rw [List.replicate_succ']
        simp
      rw [this]
      exact g1.put (g1.ne (Nat.lt_succ_self _)) _
  · rintro ⟨T1, G1⟩ ⟨t0, t1, t5, t6, h⟩
    simp only at t0 t1 t5 t6 h
    have hcmp : decide (((M : Nat) : Int) < ((M : Nat) : Int)) = false := decide_eq_false (by omega)
    unfold F7_L1
    simp -implicitDefEqProofs only [go_sem, Nat.reduceAdd, Nat.reduceMul, Nat.reduceLT, Nat.reduceLeDiff, Nat.reduceEqDiff, Nat.reduceBEq, reduceCtorEq, Int.reduceLT, Int.reduceLE, Int.reduceEq, Int.reduceGT, Int.reduceGE, Int.reduceToNat, Int.reduceNeg, t0, t6, hsub1, hcmp]
    refine .mk ⟨by simp, rfl, ?_, ?_, ?_, ?_, h⟩
    · simp -implicitDefEqProofs only [go_sem, Nat.reduceAdd, Nat.reduceMul, Nat.reduceLT, Nat.reduceLeDiff, Nat.reduceEqDiff, Nat.reduceBEq, reduceCtorEq, Int.reduceLT, Int.reduceLE, Int.reduceEq, Int.reduceGT, Int.reduceGE, Int.reduceToNat, Int.reduceNeg, t0]
    · simp -implicitDefEqProofs only [go_sem, Nat.reduceAdd, Nat.reduceMul, Nat.reduceLT, Nat.reduceLeDiff, Nat.reduceEqDiff, Nat.reduceBEq, reduceCtorEq, Int.reduceLT, Int.reduceLE, Int.reduceEq, Int.reduceGT, Int.reduceGE, Int.reduceToNat, Int.reduceNeg, t1]
    · simp -implicitDefEqProofs only [go_sem, Nat.reduceAdd, Nat.reduceMul, Nat.reduceLT, Nat.reduceLeDiff, Nat.reduceEqDiff, Nat.reduceBEq, reduceCtorEq, Int.reduceLT, Int.reduceLE, Int.reduceEq, Int.reduceGT, Int.reduceGE, Int.reduceToNat, Int.reduceNeg, t5]
    · simp -implicitDefEqProofs only [go_sem, Nat.reduceAdd, Nat.reduceMul, Nat.reduceLT, Nat.reduceLeDiff, Nat.reduceEqDiff, Nat.reduceBEq, reduceCtorEq, Int.reduceLT, Int.reduceLE, Int.reduceEq, Int.reduceGT, Int.reduceGE, Int.reduceToNat, Int.reduceNeg, t6]

theorem ok_long (M : Nat) (hM2 : M < 100000) (j : Bool) : ∀ i ∈ longI M j, i.Ok := by
  intro i hi
  have : i = clr ∨ i = lev ∨ i = jmp M := by
    unfold longI at hi
    split at hi
    · simp only [List.cons_append, List.mem_cons, List.mem_append, List.mem_replicate, List.not_mem_nil, or_false] at hi
      rcases hi with h | h | h
      · exact .inr (.inr h)
      · exact .inl h.2
      · exact .inr (.inl h)
    · simp only [List.mem_append, List.mem_replicate, List.mem_cons, List.not_mem_nil, or_false] at hi
      rcases hi with h | h
      · exact .inl h.2
      · exact .inr (.inl h)
  rcases this with rfl | rfl | rfl
  · exact ⟨by unfold InI clr; simp, by unfold InI clr; simp, by unfold InI clr; simp⟩
  · exact ⟨by unfold InI lev; simp, by unfold InI lev; simp, by unfold InI lev; simp⟩
  · exact ⟨by unfold InI jmp; simp, by unfold InI jmp; simp only; omega, by unfold InI jmp; simp⟩

theorem long_mid (d : Nat) {H : AH} (hw : H.wf) (hT : Tabs H) {M : Nat} (hM : 1 ≤ M) (hM2 : M < 100000) {j : Bool} {T : Tm} (t0 : T 0 = .int .i64 ((M + 1 : Nat) : Int)) (t1 : T 1 = .bool j) :
    Ret (F7_J2 (RT (d + 5)) (Ri.iter big) T H) fun r => r.1 = .bool true := by
  unfold F7_J2
  have hx0 : Ext H.next H (H.new [.slice none 0 (.kn 0), .int .i64 1, .int .i64 0, .bool false] 24) := (Ext.refl hw).new _ _
  simp -implicitDefEqProofs only [go_sem, Nat.reduceAdd, Nat.reduceMul, Nat.reduceLT, Nat.reduceLeDiff, Nat.reduceEqDiff, Nat.reduceBEq, reduceCtorEq, Int.reduceLT, Int.reduceLE, Int.reduceEq, Int.reduceGT, Int.reduceGE, Int.reduceToNat, Int.reduceNeg, new_put]
  refine Ret.then (long_loop (d + 5) (H := H) (M := M) (j := j) hM2 ⟨?_, ?_, ?_, ?_, .slice none 0 (.kn 0), hx0, by simp, Own.nil _ _ _ _⟩) ?_
  · simp -implicitDefEqProofs only [go_sem, Nat.reduceAdd, Nat.reduceMul, Nat.reduceLT, Nat.reduceLeDiff, Nat.reduceEqDiff, Nat.reduceBEq, reduceCtorEq, Int.reduceLT, Int.reduceLE, Int.reduceEq, Int.reduceGT, Int.reduceGE, Int.reduceToNat, Int.reduceNeg, t0]
  · simp -implicitDefEqProofs only [go_sem, Nat.reduceAdd, Nat.reduceMul, Nat.reduceLT, Nat.reduceLeDiff, Nat.reduceEqDiff, Nat.reduceBEq, reduceCtorEq, Int.reduceLT, Int.reduceLE, Int.reduceEq, Int.reduceGT, Int.reduceGE, Int.reduceToNat, Int.reduceNeg, t1]
  · simp -implicitDefEqProofs only [go_sem, Nat.reduceAdd, Nat.reduceMul, Nat.reduceLT, Nat.reduceLeDiff, Nat.reduceEqDiff, Nat.reduceBEq, reduceCtorEq, Int.reduceLT, Int.reduceLE, Int.reduceEq, Int.reduceGT, Int.reduceGE, Int.reduceToNat, Int.reduceNeg]
  · simp -implicitDefEqProofs only [go_sem, Nat.reduceAdd, Nat.reduceMul, Nat.reduceLT, Nat.reduceLeDiff, Nat.reduceEqDiff, Nat.reduceBEq, reduceCtorEq, Int.reduceLT, Int.reduceLE, Int.reduceEq, Int.reduceGT, Int.reduceGE, Int.reduceToNat, Int.reduceNeg]
    rfl
  · rintro ⟨e, T1, G1⟩ ⟨rfl, t0, t1, t5, t6, s, hx, hb, hown⟩
    simp only at t0 t1 t5 t6 hx hb hown
    have hlt : H.next < G1.next := hx.wf _ _ hb
    have hfl := flat_len _ (insC_len (List.replicate M clr))
    obtain ⟨⟨s', G2⟩, ha, g1, g2, g3, g4, g5⟩ := app_el (ds := insC lev) ysl22 hown (Ext.self hx.wf hlt) rfl (by rw [hfl]; simp; omega)
    simp only at g1 g2 g3 g4 g5
    have hin : insC lev = [.int .i64 20, .int .i64 0, .int .i64 0] := rfl
    rw [hin] at ha
    obtain ⟨p, n, cc, rfl⟩ := g1.shape
    have hb2 : G2.m H.next = some ⟨[s, .int .i64 1, .int .i64 0, .bool false], 24, true⟩ := by rw [g2.low _ (Nat.lt_succ_self _)]; exact hb
    have hx2 : Ext H.next H G2 := hx.trans (g2.less (Nat.le_succ _)) (Nat.le_refl _)
    have hx3 : Ext H.next H (G2.put H.next ⟨[.slice p n cc, .int .i64 1, .int .i64 0, .bool false], 24, true⟩) := hx2.put (Nat.le_refl _) (hx2.wf _ _ hb2) _
    have g1' := g1.put (g1.ne (Nat.lt_succ_self _)) ⟨[.slice p n cc, .int .i64 1, .int .i64 0, .bool false], 24, true⟩
    have hfl2 : ((List.replicate M clr).map insC).flatten ++ insC lev = ((longI M false).map insC).flatten := by simp [longI]
    cases j
    · rw [hfl2] at g1'
      simp -implicitDefEqProofs only [go_sem, Nat.reduceAdd, Nat.reduceMul, Nat.reduceLT, Nat.reduceLeDiff, Nat.reduceEqDiff, Nat.reduceBEq, reduceCtorEq, Int.reduceLT, Int.reduceLE, Int.reduceEq, Int.reduceGT, Int.reduceGE, Int.reduceToNat, Int.reduceNeg, t5, hb, ha, hb2, t1]
      refine long_end d hw hT hM hM2 hx3 (by simp) ⟨g1'.row (by omega) (insC_len _), ok_long M hM2 false⟩ ?_ ?_
      · simp -implicitDefEqProofs only [go_sem, Nat.reduceAdd, Nat.reduceMul, Nat.reduceLT, Nat.reduceLeDiff, Nat.reduceEqDiff, Nat.reduceBEq, reduceCtorEq, Int.reduceLT, Int.reduceLE, Int.reduceEq, Int.reduceGT, Int.reduceGE, Int.reduceToNat, Int.reduceNeg, t0]
      · simp -implicitDefEqProofs only [go_sem, Nat.reduceAdd, Nat.reduceMul, Nat.reduceLT, Nat.reduceLeDiff, Nat.reduceEqDiff, Nat.reduceBEq, reduceCtorEq, Int.reduceLT, Int.reduceLE, Int.reduceEq, Int.reduceGT, Int.reduceGE, Int.reduceToNat, Int.reduceNeg, t5]
    · obtain ⟨bs, Bs, nn, q1, q2, q3, q4, q5, q6, q7, q8, q9, q10⟩ := g1'.blk hx3.wf (by simp [insC])
      have hn3 : 3 ≤ nn * 3 := by
        rw [← q6, List.length_append, hfl]
        simp
        omega
      have hbk : ¬ H.next = bs := by omega
      have hi0 : ∀ k, idxSl (.slice p n cc) (.int k 0) 3 = some (.ptr (some (bs, 0))) := fun k => by
        have := q9 k 0 (by omega)
        simpa using this
      have hle : 3 ≤ Bs.cells.length := by omega
      have hbk' : ¬ bs = H.next := fun e => hbk e.symm
      have g1'' := q10 ⟨.int .i64 17 :: .int .i64 ((M : Nat) : Int) :: .int .i64 0 :: List.drop 3 Bs.cells, Bs.elem, true⟩ rfl rfl (by simp; omega)
      have hx4 := hx3.put (b := bs) (by omega) q3 ⟨.int .i64 17 :: .int .i64 ((M : Nat) : Int) :: .int .i64 0 :: List.drop 3 Bs.cells, Bs.elem, true⟩
      have hcells : List.take (nn * 3) (([.int .i64 17, .int .i64 ((M : Nat) : Int), .int .i64 0] : List AV) ++ List.drop 3 Bs.cells) = ((longI M true).map insC).flatten := by
        have e1 : ((longI M true).map insC).flatten = ([.int .i64 17, .int .i64 ((M : Nat) : Int), .int .i64 0] : List AV) ++ (((List.replicate M clr).map insC).flatten ++ insC lev).drop 3 := by
          obtain ⟨M', rfl⟩ : ∃ M', M = M' + 1 := ⟨M - 1, by omega⟩
          simp [longI, List.replicate_succ, insC, jmp, clr]
        rw [e1, ← q8, List.take_append, List.drop_take, List.take_of_length_le (by simp; omega)]
        rfl
      have hcells' : List.take (nn * 3) (.int .i64 17 :: .int .i64 ((M : Nat) : Int) :: .int .i64 0 :: List.drop 3 Bs.cells) = ((longI M true).map insC).flatten := hcells
      simp only at g1''
      rw [hcells'] at g1''
      have hsub1 : IntKind.i64.wrap (((M + 1 : Nat) : Int) - 1) = ((M : Nat) : Int) := by rw [wrapR (by omega)]; omega
      simp only [put_m, if_neg hbk'] at q4
      simp -implicitDefEqProofs only [go_sem, Nat.reduceAdd, Nat.reduceMul, Nat.reduceLT, Nat.reduceLeDiff, Nat.reduceEqDiff, Nat.reduceBEq, reduceCtorEq, Int.reduceLT, Int.reduceLE, Int.reduceEq, Int.reduceGT, Int.reduceGE, Int.reduceToNat, Int.reduceNeg, t0, t5, hb, ha, hb2, t1, hsub1, hi0, q4, q5, hle, hbk']
      refine long_end d hw hT hM hM2 hx4 (by simp [hbk]) ⟨g1''.row (by omega) (insC_len _), ok_long M hM2 true⟩ ?_ ?_
      · simp -implicitDefEqProofs only [go_sem, Nat.reduceAdd, Nat.reduceMul, Nat.reduceLT, Nat.reduceLeDiff, Nat.reduceEqDiff, Nat.reduceBEq, reduceCtorEq, Int.reduceLT, Int.reduceLE, Int.reduceEq, Int.reduceGT, Int.reduceGE, Int.reduceToNat, Int.reduceNeg, t0]
      · simp -implicitDefEqProofs only [go_sem, Nat.reduceAdd, Nat.reduceMul, Nat.reduceLT, Nat.reduceLeDiff, Nat.reduceEqDiff, Nat.reduceBEq, reduceCtorEq, Int.reduceLT, Int.reduceLE, Int.reduceEq, Int.reduceGT, Int.reduceGE, Int.reduceToNat, Int.reduceNeg, t5]

theorem law_long (d : Nat) {H : AH} (hw : H.wf) (hT : Tabs H) {n : Int} (hn : InI n) (j : Bool) : Ret (RT (d + 6) 7 [.int .i64 n, .bool j] H) fun r => r.1 = .bool true := by
  rw [R7]
  unfold F7
  have h4 : n.tmod 4 = -3 ∨ n.tmod 4 = -2 ∨ n.tmod 4 = -1 ∨ n.tmod 4 = 0 ∨ n.tmod 4 = 1 ∨ n.tmod 4 = 2 ∨ n.tmod 4 = 3 := by
    rcases Int.le_total 0 n with h | h
    · rw [Int.tmod_eq_emod_of_nonneg h]; omega
    · have : n.tmod 4 = - ((-n).tmod 4) := by rw [Int.neg_tmod]; omega
      rw [this, Int.tmod_eq_emod_of_nonneg (by omega)]
      omega
  have e4 : (4 : Int) ≠ 0 := by decide
  obtain ⟨M, hM1, hM2, hr⟩ : ∃ M : Nat, 65533 ≤ M ∧ M ≤ 65536 ∧ ((n.tmod 4 < 0 ∧ 65534 + n.tmod 4 + 4 = ((M + 1 : Nat) : Int)) ∨ (0 ≤ n.tmod 4 ∧ 65534 + n.tmod 4 = ((M + 1 : Nat) : Int))) := by
    by_cases h : n.tmod 4 < 0
    · exact ⟨(65534 + n.tmod 4 + 3).toNat, by omega, by omega, .inl ⟨h, by omega⟩⟩
    · exact ⟨(65534 + n.tmod 4 - 1).toNat, by omega, by omega, .inr ⟨by omega, by omega⟩⟩
  have wM : IntKind.i64.wrap ((M + 1 : Nat) : Int) = ((M + 1 : Nat) : Int) := wrapR (by omega)
  rcases hr with ⟨h1, h2⟩ | ⟨h1, h2⟩
  · simp -implicitDefEqProofs only [go_sem, Nat.reduceAdd, Nat.reduceMul, Nat.reduceLT, Nat.reduceLeDiff, Nat.reduceEqDiff, Nat.reduceBEq, reduceCtorEq, Int.reduceLT, Int.reduceLE, Int.reduceEq, Int.reduceGT, Int.reduceGE, Int.reduceToNat, Int.reduceNeg, aBin_rem _ _ _ _ _ e4, wrapR (x := 65534 + n.tmod 4) (by omega), decide_eq_true (show 65534 + n.tmod 4 < 65534 by omega), h2, wM]
    refine long_mid d hw hT (M := M) (j := j) (by omega) (by omega) ?_ ?_ <;> simp -implicitDefEqProofs only [go_sem, Nat.reduceAdd, Nat.reduceMul, Nat.reduceLT, Nat.reduceLeDiff, Nat.reduceEqDiff, Nat.reduceBEq, reduceCtorEq, Int.reduceLT, Int.reduceLE, Int.reduceEq, Int.reduceGT, Int.reduceGE, Int.reduceToNat, Int.reduceNeg]
  · simp -implicitDefEqProofs only [go_sem, Nat.reduceAdd, Nat.reduceMul, Nat.reduceLT, Nat.reduceLeDiff, Nat.reduceEqDiff, Nat.reduceBEq, reduceCtorEq, Int.reduceLT, Int.reduceLE, Int.reduceEq, Int.reduceGT, Int.reduceGE, Int.reduceToNat, Int.reduceNeg, aBin_rem _ _ _ _ _ e4, h2, wM, decide_eq_false (show ¬ (((M + 1 : Nat) : Int) < 65534) by omega)]
    refine long_mid d hw hT (M := M) (j := j) (by omega) (by omega) ?_ ?_ <;> simp -implicitDefEqProofs only [go_sem, Nat.reduceAdd, Nat.reduceMul, Nat.reduceLT, Nat.reduceLeDiff, Nat.reduceEqDiff, Nat.reduceBEq, reduceCtorEq, Int.reduceLT, Int.reduceLE, Int.reduceEq, Int.reduceGT, Int.reduceGE, Int.reduceToNat, Int.reduceNeg]
end Go.Proofs.YthiflgncldmkjaaDoor
/- So many instructions are sound, one more is not (CodeLong): for every input the law returns true, and the input reads as it did. Condition: the two tables of package code start as the program's text lays them (the row's own). -/
set_option linter.unusedVariables false
set_option linter.unusedSimpArgs false
set_option maxRecDepth 100000
namespace Go.Proofs.YthiflgncldmkjaaDoor
open Go.Ri Go.ChangeShapes Go.WideShapes Go.ChangeAt Go.RowKit
namespace N7
theorem res : Tryd.f7.resultTypes = #[4] := by kernel_rfl
theorem readable : (Tryd.f7.params.toList.all fun t => Tryd.prog.readableRec t && decide (t < Tryd.prog.types.size)) = true := by kernel_rfl
theorem psize : Tryd.f7.params.size = 2 := by kernel_rfl
theorem contract (H : Type) (enc : TypeId × Value → H) (W : World) (base : Nat) (args : Array Value) (ds gs : List (DataW H)) (before : List MemPlace)
    (hval : ∀ (j : Nat) t v, Tryd.f7.params[j]? = some t → args[j]? = some v → Value.okWide Tryd.prog W .any base t v)
    (hW : DataW.Whole enc Tryd.prog Tryd.f7.params.toList Rows.codeLongSpec.vars false W args.toList ds gs before) (hL : laidMetH Tryd.prog Rows.codeLongRow.laid W)
    (hwt : (DataW.weightsEach Tryd.prog (Tryd.f7.params.toList ++ (OpenSpec.ofChange Rows.codeLongSpec).bare.plain.varTypes Tryd.prog) (ds ++ gs)).all (· ≤ reachBytes) = true) :
    Calls Tryd.prog 7 args W fun e W' => ∃ v, e = .returned v ∧ Rows.codeLongSpec.post enc Tryd.prog Tryd.f7 false true false false W args v W' := by
  refine contract_of res (fun ds hd => ?_) rfl (fun t ht => ?_) hW hL fun ρ0 H0 hS0 hro0 hT0 hA => ?_
  · rw [psize] at hd
    match ds, hd with
    | [d0, d1], _ => rfl
  · have := List.all_eq_true.1 readable t ht
    simpa using this
  · rw [Tryd.params7] at hA hval
    obtain ⟨v0, vs0, d0, ds0, p0, q0, hargs, rfl, rfl, h0, r0⟩ := trodAll_cons hA
    obtain ⟨v1, vs1, d1, ds1, p1, q1, rfl, rfl, rfl, h1, r1⟩ := trodAll_cons r0
    obtain ⟨rfl, rfl, rfl⟩ := trodAll_nil r1
    obtain rfl : args = #[v0, v1] := by cases args; simp_all
    obtain ⟨n, rfl, _, _, hn⟩ := open_int under3 (hval 0 3 v0 rfl rfl) h0
    obtain ⟨j, rfl, _, _⟩ := open_bool under4 (hval 1 4 v1 rfl rfl) h1
    have hw0 : H0.wf := fun b B hB => hS0.dom hB
    refine ⟨ρ0, H0, [.int .i64 n, .bool j], 6, .refl hS0 hro0, relL_cons rfl (relL_one rfl), ?_⟩
    exact law_long 0 hw0 hT0 (inI_of_wf hn) j
theorem reads (os : Os) {H : Type} (enc : TypeId × Value → H) : ∃ places, DataW.whole enc Tryd.prog ((laidWorld os).forCall (fun _ _ => 0) ⟨#[], #[.int .i64 0, .bool false], []⟩).memory Tryd.f7.params.toList Rows.codeLongSpec.vars false #[Value.int .i64 0, Value.bool false].toList 8 = some ([.lit (.int .i64 0), .lit (.bool false)], [], places) :=
  ⟨[], by kernel_rfl⟩
theorem lifted (os : Os) (started : os.Started) (H : Type) (enc : TypeId × Value → H) (F : Stop.Interp) :
    ReturnsInHanded {} Tryd.checked os 7 .any ((OpenSpec.ofChange Rows.codeLongSpec).preRow enc Tryd.prog Tryd.f7 Rows.codeLongRow.domain false Rows.codeLongRow.laid) (((OpenSpec.ofChange Rows.codeLongSpec).at F).post enc Tryd.prog Tryd.f7 false true false false) := by
  obtain ⟨places, hx⟩ := reads os enc
  refine returnsInHanded_of_row (C := Tryd.checked) (s := OpenSpec.ofChange Rows.codeLongSpec) own started (by kernel_rfl) Tryd.func7
    (witness_row_at (enc := enc) (C := Tryd.checked) false (laidWorld os) #[Value.int .i64 0, Value.bool false] rfl (by kernel_rfl) (by kernel_rfl) (by kernel_rfl)
      (OpenSpec.preRow_of_cond 8 hx (by kernel_rfl) (fun k hk => by cases hk) (by kernel_rfl) (laid_met os _))) ?_
  intro W base args ds gs before hval hW _ _ hwt hL _ _
  exact contract H enc W base args ds gs before hval hW hL hwt
theorem said : Rows.CodeLongSaid :=
  OpenClaim.holds_of_cond 7 Tryd.f7 rfl rfl rfl rfl rfl rfl rfl ⟨rfl, rfl, rfl, rfl, rfl⟩ rfl rfl rfl rfl rfl (by kernel_rfl) Tryd.func7 (by kernel_rfl)
    (of_decide_eq_true (by kernel_rfl)) (by unfold Func.isWrapper; first | (rw [if_pos (by decide +kernel)]; kernel_rfl) | (rw [if_neg (by decide +kernel)]; exact ⟨rfl, rfl⟩))
    (fun os started H enc _ F => by rw [OpenClaim.pre_eq_preRow]; exact lifted os started H enc F)
theorem plain (f : FuncId) (fn : Func) (hf : Tryd.pinned.checked.prog.funcNamed "parallax/parallaxlaw08.CodeLong" = some f) (hfn : Tryd.pinned.checked.prog.funcs[f]? = some fn) :
    false = Tryd.pinned.checked.prog.looks [] ∧ ∀ (j : Nat) t, fn.params[j]? = some t → Tryd.pinned.checked.prog.wantsStandIn t = false := by
  obtain rfl : f = 7 := Option.some.inj ((show Tryd.prog.funcNamed "parallax/parallaxlaw08.CodeLong" = some 7 by kernel_rfl).symm.trans hf) |>.symm
  obtain rfl : fn = Tryd.f7 := (Option.some.inj (Tryd.func7.symm.trans hfn)).symm
  refine ⟨by kernel_rfl, fun j t ht => ?_⟩
  rw [Tryd.params7] at ht
  have hm : t ∈ [3, 4] := by simpa using Array.mem_of_getElem? ht
  have hall : ([3, 4].all fun u => !Tryd.prog.wantsStandIn u) = true := by kernel_rfl
  exact (show Tryd.prog.wantsStandIn t = false by simpa using List.all_eq_true.1 hall t hm)
end N7
theorem codeLong_holds : Rows.CodeLongCardSaid :=
  Claim7.holds_tied_plain_at .later [] _ _ _ _ N7.said (fun _ h => by cases h) (by kernel_rfl) (fun _ h => by cases h) codeLong_row_tie rfl ⟨rfl, rfl⟩ (by kernel_rfl) rfl N7.plain (by kernel_rfl)
#print axioms codeLong_holds
end Go.Proofs.YthiflgncldmkjaaDoor
