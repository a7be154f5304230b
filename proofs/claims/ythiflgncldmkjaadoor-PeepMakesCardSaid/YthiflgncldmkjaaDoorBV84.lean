/- Part 4 of the proof that: Any codes are made short, or refused, as the document says (PeepMakes): for every input the law returns true, and the input reads as it did. Condition: the two tables of package code start as the program's text lays them (the row's own). -/
import Derived.Test.YthiflgncldmkjaaDoorBV83
set_option linter.unusedVariables false
set_option linter.unusedSimpArgs false
set_option maxRecDepth 100000
namespace Go.Proofs.YthiflgncldmkjaaDoor
open Go.Ri

theorem Sight.insP {H : AH} {k : Nat} {s : AV} {L : List Ins} {R T : List Bool} (h : Sight H k s L R T) {i : Nat} (hi : i < L.length) :
    ∃ p, (∀ kd, idxSl s (.int kd (i : Nat)) 3 = some (.ptr (some p))) ∧ ldAgg (.ptr (some p)) 3 H = some (.agg (insC L[i])) := by
  obtain ⟨b, o, h1, h2⟩ := h.ins hi
  exact ⟨(b, o), h1, h2⟩
theorem bAt_eq {l : List Bool} {i : Nat} (h : i < l.length) : bAt l i = l[i] := by unfold bAt; rw [List.getElem?_eq_getElem h]; rfl
set_option maxHeartbeats 2000000 in
theorem single_spec (d : Nat) {H : AH} (hw : H.wf) {k : Nat} {s : AV} {L : List Ins} {R T : List Bool} (S : Sight H k s L R T) (P : Plain L) {a : Nat} (ha : a < L.length) :
    Ret (RT (d + 2) 103 [.ptr (some (k, 0)), .int .i64 (a : Nat)] H) fun r => Ext H.next H r.2 ∧ ChgAt H.next r.2 r.1 (singleP (bAt R) L a L[a]) := by
  rw [R103]
  unfold F103
  have hlen := P.few
  have hx1 : Ext H.next H (H.new [.int .i64 0, .int .i64 0, .slice none 0 (.kn 0)] 108) := (Ext.refl hw).new _ _
  have hx : Ext H.next H ((H.new [.int .i64 0, .int .i64 0, .slice none 0 (.kn 0)] 108).new (insC L[a]) 29) := hx1.new _ _
  obtain ⟨r, t, hb, hR, hTr⟩ := S.blk
  have hkn : k < H.next := hw _ _ hb
  have k1 : ¬ k = H.next := by omega
  have k2 : ¬ k = H.next + 1 := by omega
  have k3 : ¬ k = H.next + 1 + 1 := by omega
  have n1 : ¬ H.next = H.next + 1 := by omega
  have n2 : ¬ H.next = H.next + 1 + 1 := by omega
  have n3 : ¬ H.next + 1 = H.next + 1 + 1 := by omega
  have n4 : ¬ H.next = H.next + 1 + 1 + 1 := by omega
  have n5 : ¬ H.next + 1 = H.next + 1 + 1 + 1 := by omega
  have n6 : ¬ H.next = H.next + 1 + 1 + 1 + 1 := by omega
  have n7 : ¬ H.next + 1 = H.next + 1 + 1 + 1 + 1 := by omega
  have hput := fun B => hx.put (b := H.next) (Nat.le_refl _) (by simp only [new_next]; omega) B
  have hput4 := fun cs e B => (hx.new cs e).put (b := H.next) (Nat.le_refl _) (by simp only [new_next]; omega) B
  have S1 := S.mono (hx1.sub hw)
  have S2 := S.mono (hx.sub hw)
  obtain ⟨p0, e0, f0⟩ := S1.insP ha
  have hltR : a < R.length := by rw [S.lenR]; exact ha
  have hR2 : BoolRow _ r R := Row.mono hR (hx.sub hw)
  obtain ⟨p, e1, e2⟩ := hR2.at hltR
  obtain ⟨jn0, jn1, jn2⟩ := show (isJ L[a] → 0 ≤ L[a].n) ∧ (isJ L[a] → L[a].n < (L.length : Nat)) ∧ (isJ L[a] → L[a].m = 0) from ⟨fun h => (P.jump _ (List.getElem_mem _) h).1, fun h => (P.jump _ (List.getElem_mem _) h).2.1, fun h => (P.jump _ (List.getElem_mem _) h).2.2⟩
  have hin : insC L[a] = [.int .i64 L[a].op, .int .i64 L[a].n, .int .i64 L[a].m] := rfl
  have h101 := jumps_spec d ((H.new [.int .i64 0, .int .i64 0, .slice none 0 (.kn 0)] 108).new (insC L[a]) 29) L[a]
  rw [hin] at f0 hx hput hput4 e2 h101
  have hwa := wrapS (i := a) (by omega)
  cases hv : R[a]
  · rw [hv] at e2
    simp -implicitDefEqProofs only [go_sem, Nat.reduceAdd, Nat.reduceMul, Nat.reduceLT, Nat.reduceLeDiff, Nat.reduceEqDiff, Nat.reduceBEq, reduceCtorEq, Int.reduceLT, Int.reduceLE, Int.reduceEq, Int.reduceGT, Int.reduceGE, Int.reduceToNat, Int.reduceNeg, hb, k1, k2, e0, f0, new_put1, e1, e2, n1]
    refine .mk ⟨hput _, ?_⟩
    have e : singleP (bAt R) L a L[a] = ⟨1, 1, []⟩ := by simp [singleP, bAt_eq hltR, hv]
    exact chg_eq e (ChgAt.none _ _ 1 1)
  · rw [hv] at e2
    have hRt : ¬ bAt R a = false := by rw [bAt_eq hltR, hv]; simp
    have hx5 : Ext H.next H (((H.new [.int .i64 0, .int .i64 0, .slice none 0 (.kn 0)] 108).new [.int .i64 L[a].op, .int .i64 L[a].n, .int .i64 L[a].m] 29).new [.int .i64 L[a].op, .int .i64 L[a].n, .int .i64 L[a].m] 29) := hx.new _ _
    have hres : ∀ (B : Blk) (cs : List AV) (e : TypeId), (((((H.new [.int .i64 0, .int .i64 0, .slice none 0 (.kn 0)] 108).new [.int .i64 L[a].op, .int .i64 L[a].n, .int .i64 L[a].m] 29).new [.int .i64 L[a].op, .int .i64 L[a].n, .int .i64 L[a].m] 29).res 1).put (H.next + 1 + 1 + 1) B).put (H.next + 1 + 1 + 1) ⟨cs, e, true⟩ = (((H.new [.int .i64 0, .int .i64 0, .slice none 0 (.kn 0)] 108).new [.int .i64 L[a].op, .int .i64 L[a].n, .int .i64 L[a].m] 29).new [.int .i64 L[a].op, .int .i64 L[a].n, .int .i64 L[a].m] 29).new cs e := fun B cs e => res_new _ cs e B
    by_cases h17 : L[a].op = 17
    · have h18 : ¬ L[a].op = 18 := by omega
      by_cases hn : L[a].n = ((a + 1 : Nat) : Int)
      · simp -implicitDefEqProofs only [go_sem, Nat.reduceAdd, Nat.reduceMul, Nat.reduceLT, Nat.reduceLeDiff, Nat.reduceEqDiff, Nat.reduceBEq, reduceCtorEq, Int.reduceLT, Int.reduceLE, Int.reduceEq, Int.reduceGT, Int.reduceGE, Int.reduceToNat, Int.reduceNeg, hb, k1, k2, e0, f0, new_put1, e1, e2, n1, decide_eq_true h17, hwa, decide_eq_true hn]
        refine .mk ⟨hput _, ?_⟩
        have e : singleP (bAt R) L a L[a] = ⟨2, 1, []⟩ := by
          unfold singleP
          rw [if_neg hRt, if_pos ⟨h17, hn⟩]
        exact chg_eq e (ChgAt.none _ _ 2 1)
      · have hj : isJ L[a] := .inl h17
        have no2 : ¬ (L[a].op = 17 ∧ L[a].n = ((a + 1 : Nat) : Int)) := fun h => hn h.2
        have no3 : ¬ (L[a].op = 18 ∧ L[a].n = ((a + 1 : Nat) : Int)) := fun h => h18 h.1
        have hti : L[a].n.toNat < L.length := by have := jn0 hj; have := jn1 hj; omega
        have htn : ((L[a].n.toNat : Nat) : Int) = L[a].n := Int.toNat_of_nonneg (jn0 hj)
        rw [decide_eq_true hj] at h101
        obtain ⟨p4, e4, f4⟩ := (S.mono (hx5.sub hw)).insP hti
        have e4 := e4 .i64
        rw [htn] at e4
        have hit : insC L[L[a].n.toNat] = [.int .i64 L[L[a].n.toNat].op, .int .i64 L[L[a].n.toNat].n, .int .i64 L[L[a].n.toNat].m] := rfl
        have htg : (L[L[a].n.toNat]?).getD I0 = L[L[a].n.toNat] := by rw [List.getElem?_eq_getElem hti]; rfl
        rw [hit] at f4
        generalize L[L[a].n.toNat] = tt at *
        have f4r : ldAgg (.ptr (some p4)) 3 ((((H.new [.int .i64 0, .int .i64 0, .slice none 0 (.kn 0)] 108).new [.int .i64 L[a].op, .int .i64 L[a].n, .int .i64 L[a].m] 29).new [.int .i64 L[a].op, .int .i64 L[a].n, .int .i64 L[a].m] 29).res 1) = some (.agg [.int .i64 tt.op, .int .i64 tt.n, .int .i64 tt.m]) := f4
        have hx6 := hx5.new [.int .i64 tt.op, .int .i64 tt.n, .int .i64 tt.m] 29
        have hp6 := fun B => hx6.put (b := H.next) (Nat.le_refl _) (by simp only [new_next]; omega) B
        have hp7 := fun B cs e B' => ((hx6.put (b := H.next + 1) (by omega) (by simp only [new_next]; omega) B).new cs e).put (b := H.next) (Nat.le_refl _) (by simp only [new_next, put_next]; omega) B'
        by_cases t17 : tt.op = 17
        · by_cases tn : tt.n > L[a].n
          · simp -implicitDefEqProofs only [go_sem, Nat.reduceAdd, Nat.reduceMul, Nat.reduceLT, Nat.reduceLeDiff, Nat.reduceEqDiff, Nat.reduceBEq, reduceCtorEq, Int.reduceLT, Int.reduceLE, Int.reduceEq, Int.reduceGT, Int.reduceGE, Int.reduceToNat, Int.reduceNeg, hb, k1, k2, k3, e0, f0, new_put1, hres, e1, e2, n1, n2, n3, n4, n5, n6, n7, decide_eq_true h17, decide_eq_false hn, decide_eq_false h18, hwa, h101, e4, f4r, decide_eq_true t17, decide_eq_true tn, bs22i]
            refine .mk ⟨hp7 _ _ _ _, ?_⟩
            have e : singleP (bAt R) L a L[a] = ⟨4, 1, [⟨L[a].op, tt.n, L[a].m⟩]⟩ := by
              unfold singleP
              rw [htg, if_neg hRt, if_neg no2, if_neg no3, if_pos ⟨hj, t17, tn⟩, jn2 hj]
            exact chg_eq e (ChgAt.made 4 1 (by simp only [put_next, new_next]; omega) (by simp only [put_next, new_next]; omega) rfl rfl)
          · simp -implicitDefEqProofs only [go_sem, Nat.reduceAdd, Nat.reduceMul, Nat.reduceLT, Nat.reduceLeDiff, Nat.reduceEqDiff, Nat.reduceBEq, reduceCtorEq, Int.reduceLT, Int.reduceLE, Int.reduceEq, Int.reduceGT, Int.reduceGE, Int.reduceToNat, Int.reduceNeg, hb, k1, k2, k3, e0, f0, new_put1, hres, e1, e2, n1, n2, n3, n4, n5, decide_eq_true h17, decide_eq_false hn, decide_eq_false h18, hwa, h101, e4, f4r, decide_eq_true t17, decide_eq_false tn, F103_J0]
            refine .mk ⟨hp6 _, ?_⟩
            have e : singleP (bAt R) L a L[a] = ⟨0, 0, []⟩ := by
              unfold singleP
              rw [htg, if_neg hRt, if_neg no2, if_neg no3, if_neg fun h => tn h.2.2]
            exact chg_eq e (ChgAt.none _ _ 0 0)
        · simp -implicitDefEqProofs only [go_sem, Nat.reduceAdd, Nat.reduceMul, Nat.reduceLT, Nat.reduceLeDiff, Nat.reduceEqDiff, Nat.reduceBEq, reduceCtorEq, Int.reduceLT, Int.reduceLE, Int.reduceEq, Int.reduceGT, Int.reduceGE, Int.reduceToNat, Int.reduceNeg, hb, k1, k2, k3, e0, f0, new_put1, hres, e1, e2, n1, n2, n3, n4, n5, decide_eq_true h17, decide_eq_false hn, decide_eq_false h18, hwa, h101, e4, f4r, decide_eq_false t17, F103_J0]
          refine .mk ⟨hp6 _, ?_⟩
          have e : singleP (bAt R) L a L[a] = ⟨0, 0, []⟩ := by
            unfold singleP
            rw [htg, if_neg hRt, if_neg no2, if_neg no3, if_neg fun h => t17 h.2.1]
          exact chg_eq e (ChgAt.none _ _ 0 0)
    · have no2 : ¬ (L[a].op = 17 ∧ L[a].n = ((a + 1 : Nat) : Int)) := fun h => h17 h.1
      by_cases h18 : L[a].op = 18
      · by_cases hn : L[a].n = ((a + 1 : Nat) : Int)
        · simp -implicitDefEqProofs only [go_sem, Nat.reduceAdd, Nat.reduceMul, Nat.reduceLT, Nat.reduceLeDiff, Nat.reduceEqDiff, Nat.reduceBEq, reduceCtorEq, Int.reduceLT, Int.reduceLE, Int.reduceEq, Int.reduceGT, Int.reduceGE, Int.reduceToNat, Int.reduceNeg, hb, k1, k2, e0, f0, new_put1, e1, e2, n1, n2, decide_eq_false h17, decide_eq_true h18, hwa, decide_eq_true hn, bs22i]
          refine .mk ⟨hput4 _ _ _, ?_⟩
          have e : singleP (bAt R) L a L[a] = ⟨3, 1, [⟨25, 0, 0⟩]⟩ := by
            unfold singleP
            rw [if_neg hRt, if_neg no2, if_pos ⟨h18, hn⟩]
          exact chg_eq e (ChgAt.made 3 1 (by simp only [put_next, new_next]; omega) (by simp only [put_next, new_next]; omega) rfl rfl)
        · have hj : isJ L[a] := .inr h18
          have no3 : ¬ (L[a].op = 18 ∧ L[a].n = ((a + 1 : Nat) : Int)) := fun h => hn h.2
          have hti : L[a].n.toNat < L.length := by have := jn0 hj; have := jn1 hj; omega
          have htn : ((L[a].n.toNat : Nat) : Int) = L[a].n := Int.toNat_of_nonneg (jn0 hj)
          rw [decide_eq_true hj] at h101
          obtain ⟨p4, e4, f4⟩ := (S.mono (hx5.sub hw)).insP hti
          have e4 := e4 .i64
          rw [htn] at e4
          have hit : insC L[L[a].n.toNat] = [.int .i64 L[L[a].n.toNat].op, .int .i64 L[L[a].n.toNat].n, .int .i64 L[L[a].n.toNat].m] := rfl
          have htg : (L[L[a].n.toNat]?).getD I0 = L[L[a].n.toNat] := by rw [List.getElem?_eq_getElem hti]; rfl
          rw [hit] at f4
          generalize L[L[a].n.toNat] = tt at *
          have f4r : ldAgg (.ptr (some p4)) 3 ((((H.new [.int .i64 0, .int .i64 0, .slice none 0 (.kn 0)] 108).new [.int .i64 L[a].op, .int .i64 L[a].n, .int .i64 L[a].m] 29).new [.int .i64 L[a].op, .int .i64 L[a].n, .int .i64 L[a].m] 29).res 1) = some (.agg [.int .i64 tt.op, .int .i64 tt.n, .int .i64 tt.m]) := f4
          have hx6 := hx5.new [.int .i64 tt.op, .int .i64 tt.n, .int .i64 tt.m] 29
          have hp6 := fun B => hx6.put (b := H.next) (Nat.le_refl _) (by simp only [new_next]; omega) B
          have hp7 := fun B cs e B' => ((hx6.put (b := H.next + 1) (by omega) (by simp only [new_next]; omega) B).new cs e).put (b := H.next) (Nat.le_refl _) (by simp only [new_next, put_next]; omega) B'
          by_cases t17 : tt.op = 17
          · by_cases tn : tt.n > L[a].n
            · simp -implicitDefEqProofs only [go_sem, Nat.reduceAdd, Nat.reduceMul, Nat.reduceLT, Nat.reduceLeDiff, Nat.reduceEqDiff, Nat.reduceBEq, reduceCtorEq, Int.reduceLT, Int.reduceLE, Int.reduceEq, Int.reduceGT, Int.reduceGE, Int.reduceToNat, Int.reduceNeg, hb, k1, k2, k3, e0, f0, new_put1, hres, e1, e2, n1, n2, n3, n4, n5, n6, n7, decide_eq_false h17, decide_eq_true h18, decide_eq_false hn, hwa, h101, e4, f4r, decide_eq_true t17, decide_eq_true tn, bs22i]
              refine .mk ⟨hp7 _ _ _ _, ?_⟩
              have e : singleP (bAt R) L a L[a] = ⟨4, 1, [⟨L[a].op, tt.n, L[a].m⟩]⟩ := by
                unfold singleP
                rw [htg, if_neg hRt, if_neg no2, if_neg no3, if_pos ⟨hj, t17, tn⟩, jn2 hj]
              exact chg_eq e (ChgAt.made 4 1 (by simp only [put_next, new_next]; omega) (by simp only [put_next, new_next]; omega) rfl rfl)
            · simp -implicitDefEqProofs only [go_sem, Nat.reduceAdd, Nat.reduceMul, Nat.reduceLT, Nat.reduceLeDiff, Nat.reduceEqDiff, Nat.reduceBEq, reduceCtorEq, Int.reduceLT, Int.reduceLE, Int.reduceEq, Int.reduceGT, Int.reduceGE, Int.reduceToNat, Int.reduceNeg, hb, k1, k2, k3, e0, f0, new_put1, hres, e1, e2, n1, n2, n3, n4, n5, decide_eq_false h17, decide_eq_true h18, decide_eq_false hn, hwa, h101, e4, f4r, decide_eq_true t17, decide_eq_false tn, F103_J0]
              refine .mk ⟨hp6 _, ?_⟩
              have e : singleP (bAt R) L a L[a] = ⟨0, 0, []⟩ := by
                unfold singleP
                rw [htg, if_neg hRt, if_neg no2, if_neg no3, if_neg fun h => tn h.2.2]
              exact chg_eq e (ChgAt.none _ _ 0 0)
          · simp -implicitDefEqProofs only [go_sem, Nat.reduceAdd, Nat.reduceMul, Nat.reduceLT, Nat.reduceLeDiff, Nat.reduceEqDiff, Nat.reduceBEq, reduceCtorEq, Int.reduceLT, Int.reduceLE, Int.reduceEq, Int.reduceGT, Int.reduceGE, Int.reduceToNat, Int.reduceNeg, hb, k1, k2, k3, e0, f0, new_put1, hres, e1, e2, n1, n2, n3, n4, n5, decide_eq_false h17, decide_eq_true h18, decide_eq_false hn, hwa, h101, e4, f4r, decide_eq_false t17, F103_J0]
            refine .mk ⟨hp6 _, ?_⟩
            have e : singleP (bAt R) L a L[a] = ⟨0, 0, []⟩ := by
              unfold singleP
              rw [htg, if_neg hRt, if_neg no2, if_neg no3, if_neg fun h => t17 h.2.1]
            exact chg_eq e (ChgAt.none _ _ 0 0)
      · have hj : ¬ isJ L[a] := by unfold isJ; omega
        rw [decide_eq_false hj] at h101
        have hp5 := fun B => hx5.put (b := H.next) (Nat.le_refl _) (by simp only [new_next]; omega) B
        simp -implicitDefEqProofs only [go_sem, Nat.reduceAdd, Nat.reduceMul, Nat.reduceLT, Nat.reduceLeDiff, Nat.reduceEqDiff, Nat.reduceBEq, reduceCtorEq, Int.reduceLT, Int.reduceLE, Int.reduceEq, Int.reduceGT, Int.reduceGE, Int.reduceToNat, Int.reduceNeg, hb, k1, k2, k3, e0, f0, new_put1, e1, e2, n1, n2, n3, decide_eq_false h17, decide_eq_false h18, h101, F103_J0]
        refine .mk ⟨hp5 _, ?_⟩
        have e : singleP (bAt R) L a L[a] = ⟨0, 0, []⟩ := by
          unfold singleP
          rw [if_neg hRt, if_neg no2, if_neg fun h => h18 h.1, if_neg fun h => hj h.1]
        exact chg_eq e (ChgAt.none _ _ 0 0)
end Go.Proofs.YthiflgncldmkjaaDoor
set_option linter.unusedVariables false
set_option linter.unusedSimpArgs false
set_option maxRecDepth 100000
namespace Go.Proofs.YthiflgncldmkjaaDoor
open Go.Ri

theorem Ext.res1 {N : Nat} {H0 H : AH} (h : Ext N H0 H) : Ext N H0 (H.res 1) := ⟨h.low, Nat.le_trans h.next (Nat.le_succ _), fun b B hB => Nat.lt_succ_of_lt (h.wf b B hB)⟩
structure Fz (H G : AH) : Prop where
  ext : Ext H.next H G
  lt : H.next < G.next
  blk : G.m H.next = some ⟨[.int .i64 0, .int .i64 0, .slice none 0 (.kn 0)], 108, true⟩
theorem Fz.on {H G G' : AH} (z : Fz H G) (h : Ext G.next G G') : Fz H G' :=
  ⟨z.ext.trans h (Nat.le_of_lt z.lt), Nat.lt_of_lt_of_le z.lt h.next, by rw [h.low _ z.lt]; exact z.blk⟩
theorem Fz.new {H G : AH} (z : Fz H G) (cs : List AV) (e : TypeId) : Fz H (G.new cs e) := z.on ((Ext.refl z.ext.wf).new _ _)
theorem Fz.res {H G : AH} (z : Fz H G) : Fz H (G.res 1) := z.on (Ext.res1 (Ext.refl z.ext.wf))
theorem Fz.put {H G : AH} (z : Fz H G) {b : Nat} (hb : H.next < b) (hb' : b < G.next) (B : Blk) : Fz H (G.put b B) :=
  ⟨z.ext.put (by omega) hb' _, z.lt, by simp only [put_m]; rw [if_neg (by omega)]; exact z.blk⟩
theorem Fz.fin {H G : AH} (z : Fz H G) (B : Blk) : Ext H.next H (G.put H.next B) := z.ext.put (Nat.le_refl _) z.lt _
theorem Fz.sub {H G : AH} (z : Fz H G) (hw : H.wf) : H.sub G := z.ext.sub hw
theorem ChgAt.fin {N M : Nat} {H : AH} {v : AV} {c : Chg} (h : ChgAt N H v c) {B : Blk} (hM : M < N) : ChgAt M (H.put M B) v c :=
  (h.keep fun b B' hb hB => by simp only [put_m]; rw [if_neg (by omega)]; exact hB).low (Nat.le_of_lt hM)
theorem put_put (H : AH) (b : Nat) (B B' : Blk) : (H.put b B).put b B' = H.put b B' := AH.same (fun i => by simp only [put_m]; split <;> rfl) rfl
theorem rule_pos {c : Chg} : decide (((c.rule : Nat) : Int) > 0) = decide (c.rule ≠ 0) := by
  by_cases h : c.rule = 0
  · rw [h]; rfl
  · rw [decide_eq_true h, decide_eq_true (by omega)]
set_option maxHeartbeats 2000000 in
theorem fits_spec (d : Nat) {H : AH} (hw : H.wf) {k : Nat} {s : AV} {L : List Ins} {R T : List Bool} (S : Sight H k s L R T) (P : Plain L) {a : Nat} (ha : a < L.length) :
    Ret (RT (d + 4) 76 [.ptr (some (k, 0)), .int .i64 (a : Nat)] H) fun r => Ext H.next H r.2 ∧ ChgAt H.next r.2 r.1 (ruleP (bAt R) (bAt T) L a) := by
  rw [R76]
  unfold F76
  have z1 : Fz H (H.new [.int .i64 0, .int .i64 0, .slice none 0 (.kn 0)] 108) := ⟨(Ext.refl hw).new _ _, by simp, by simp⟩
  have hrl : ruleP (bAt R) (bAt T) L a = if (singleP (bAt R) L a L[a]).rule ≠ 0 then singleP (bAt R) L a L[a] else pairP L[a] (jAt (bAt T) L a) (kAt (bAt T) L a) := by
    unfold ruleP
    rw [insAt_eq ha]
  rw [hrl]
  obtain ⟨⟨v2, H2⟩, h103, hx2, s2, rfl, hrow2, hlow2⟩ := single_spec (d + 1) z1.ext.wf (S.mono (z1.sub hw)) P ha
  simp only at hx2 hrow2
  have z2 := z1.on hx2
  have z3 := z2.new [.int .i64 ((singleP (bAt R) L a L[a]).rule : Nat), .int .i64 ((singleP (bAt R) L a L[a]).n : Nat), s2] 108
  have c1 : ChgAt (H.next + 1) (H2.new [.int .i64 ((singleP (bAt R) L a L[a]).rule : Nat), .int .i64 ((singleP (bAt R) L a L[a]).n : Nat), s2] 108) (.agg [.int .i64 ((singleP (bAt R) L a L[a]).rule : Nat), .int .i64 ((singleP (bAt R) L a L[a]).n : Nat), s2]) (singleP (bAt R) L a L[a]) :=
    ⟨s2, rfl, hrow2.mono (((Ext.refl z2.ext.wf).new _ _).sub z2.ext.wf), hlow2⟩
  have n2 : ¬ H.next = H2.next := Nat.ne_of_lt z2.lt
  have hb2 := z2.blk
  have hrp := rule_pos (c := singleP (bAt R) L a L[a])
  generalize singleP (bAt R) L a L[a] = c at *
  by_cases hc : c.rule ≠ 0
  · rw [if_pos hc]
    rw [decide_eq_true hc] at hrp
    simp -implicitDefEqProofs only [go_sem, Nat.reduceAdd, Nat.reduceMul, Nat.reduceLT, Nat.reduceLeDiff, Nat.reduceEqDiff, Nat.reduceBEq, reduceCtorEq, Int.reduceLT, Int.reduceLE, Int.reduceEq, Int.reduceGT, Int.reduceGE, Int.reduceToNat, Int.reduceNeg, h103, new_put, hrp, hb2, n2]
    exact .mk ⟨z3.fin _, c1.fin (Nat.lt_succ_self _)⟩
  rw [if_neg hc]
  rw [decide_eq_false hc] at hrp
  obtain ⟨⟨v3, H3⟩, h104, hH3, hr3⟩ := part_spec (d + 2) (S.mono (z3.sub hw)) (a := a) (n := 2) ha (by omega) (by omega) (by have := P.few; omega)
  simp only at hH3 hr3
  rw [show ((2 : Nat) : Int) = 2 from rfl] at h104
  rcases hr3 with ⟨⟨hle, hnt⟩, p, cp, rfl, hrow⟩ | ⟨hno, rfl⟩
  · have hT1 := hnt 1 (by omega) (by omega)
    have hj : jAt (bAt T) L a = L[a + 1] := by
      unfold jAt
      rw [if_neg (by rw [hT1]; simp), insAt_eq (by omega)]
    have hk : tripleP L[a] L[a + 1] (kAt (bAt T) L a) = tripleP L[a] L[a + 1] (if bAt T (a + 2) = true then I0 else insAt L (a + 2)) := by
      by_cases h0 : L[a + 1].op = 0
      · simp [tripleP, h0]
      · unfold kAt
        rw [hj]
        by_cases ht : bAt T (a + 2) = true
        · rw [if_pos (.inr ht), if_pos ht]
        · rw [if_neg (fun h => h.elim h0 ht), if_neg ht]
    rw [hj, pairP_eq, hk]
    rw [← hH3] at z3 hrow
    clear c1
    have hlen : (((L.drop a).take 2).map insC).length = 2 := by simp; omega
    have rd : ∀ G : AH, H3.sub G → ∃ p0 p1, idxSl (.slice (some p) 2 cp) (.int .i64 0) 3 = some (.ptr (some p0)) ∧ idxSl (.slice (some p) 2 cp) (.int .i64 1) 3 = some (.ptr (some p1)) ∧ ldAgg (.ptr (some p0)) 3 G = some (.agg (insC L[a])) ∧ ldAgg (.ptr (some p1)) 3 G = some (.agg (insC L[a + 1])) := by
      intro G hs
      have hrow' := Row.mono hrow hs
      obtain ⟨b0, o0, e0, f0, _⟩ := hrow'.at (i := 0) (by omega)
      obtain ⟨b1, o1, e1, f1, _⟩ := hrow'.at (i := 1) (by omega)
      have e0 := e0 .i64
      have e1 := e1 .i64
      rw [Int.natCast_zero] at e0
      rw [Int.natCast_one] at e1
      simp only [List.getElem_map, List.getElem_take, List.getElem_drop, Nat.add_zero] at f0 f1
      exact ⟨(b0, o0), (b1, o1), e0, e1, f0, f1⟩
    have hw3 := z3.ext.wf
    -- unary
    obtain ⟨⟨v4, H4⟩, h105, hx4, s4, rfl, hrow4, hlow4⟩ := unary_spec (d + 1) z3.res.ext.wf L[a] L[a + 1]
    simp only at hx4 hrow4
    have hlt34 : H3.next < H4.next := hx4.next
    have z4 := z3.res.on hx4
    have x34 : Ext H3.next H3 H4 := (Ext.res1 (Ext.refl hw3)).trans hx4 (Nat.le_succ _)
    have z5 := z4.put z3.lt hlt34 ⟨[.int .i64 ((unaryP L[a] L[a + 1]).rule : Nat), .int .i64 ((unaryP L[a] L[a + 1]).n : Nat), s4], 108, true⟩
    have x35 := x34.put (Nat.le_refl _) hlt34 ⟨[.int .i64 ((unaryP L[a] L[a + 1]).rule : Nat), .int .i64 ((unaryP L[a] L[a + 1]).n : Nat), s4], 108, true⟩
    have c5 : ChgAt (H3.next + 1) (H4.put H3.next ⟨[.int .i64 ((unaryP L[a] L[a + 1]).rule : Nat), .int .i64 ((unaryP L[a] L[a + 1]).n : Nat), s4], 108, true⟩) (.agg [.int .i64 ((unaryP L[a] L[a + 1]).rule : Nat), .int .i64 ((unaryP L[a] L[a + 1]).n : Nat), s4]) (unaryP L[a] L[a + 1]) :=
      ChgAt.keep ⟨s4, rfl, hrow4, hlow4⟩ fun b B hb hB => by simp only [put_m]; rw [if_neg (by omega)]; exact hB
    have hb3 := z3.blk
    have hb5 := z5.blk
    obtain ⟨p0, p1, e0, e1, f0, f1⟩ := rd (H3.res 1) fun b B h => h
    have hr5 := rule_pos (c := unaryP L[a] L[a + 1])
    have n3 : ¬ H.next = H3.next := Nat.ne_of_lt z3.lt
    have hne : aBin Tryd.prog .eql 22 (.slice (some p) 2 cp) (.slice none 0 (.kn 0)) = some (.bool false) := nil_eql _ ⟨_, _, _, rfl⟩
    generalize unaryP L[a] L[a + 1] = cu at *
    by_cases hc5 : cu.rule ≠ 0
    · rw [if_pos hc5]
      rw [decide_eq_true hc5] at hr5
      have hm4 : H4.m H.next = some ⟨[.int .i64 0, .int .i64 0, .slice none 0 (.kn 0)], 108, true⟩ := z4.blk
      simp -implicitDefEqProofs only [go_sem, Nat.reduceAdd, Nat.reduceMul, Nat.reduceLT, Nat.reduceLeDiff, Nat.reduceEqDiff, Nat.reduceBEq, reduceCtorEq, Int.reduceLT, Int.reduceLE, Int.reduceEq, Int.reduceGT, Int.reduceGE, Int.reduceToNat, Int.reduceNeg, h103, new_put, hrp, hb2, n2, h104, hne, e0, e1, f0, f1, h105, put_put, hr5, n3, hm4]
      exact .mk ⟨z5.fin _, c5.fin (by have := z3.lt; omega)⟩
    rw [if_neg hc5]
    rw [decide_eq_false hc5] at hr5
    -- triple
    obtain ⟨⟨v6, H6⟩, h106, hx6, s6, rfl, hrow6, hlow6⟩ := triple_spec d z5.ext.wf (S.mono (z5.sub hw)) P.few (a := a) (by omega) hT1
    simp only at hx6 hrow6
    have z6 := z5.on hx6
    have x36 : Ext H3.next H3 H6 := x35.trans hx6 (Nat.le_of_lt hlt34)
    generalize tripleP L[a] L[a + 1] (if bAt T (a + 2) = true then I0 else insAt L (a + 2)) = c6 at *
    have z7 := z6.new [.int .i64 (c6.rule : Nat), .int .i64 (c6.n : Nat), s6] 108
    have x37 := x36.new [.int .i64 (c6.rule : Nat), .int .i64 (c6.n : Nat), s6] 108
    have c7 : ChgAt (H3.next + 1) (H6.new [.int .i64 (c6.rule : Nat), .int .i64 (c6.n : Nat), s6] 108) (.agg [.int .i64 (c6.rule : Nat), .int .i64 (c6.n : Nat), s6]) c6 :=
      ⟨s6, rfl, hrow6.mono (((Ext.refl z6.ext.wf).new _ _).sub z6.ext.wf), fun b o n d e => Nat.le_trans hlt34 (hlow6 b o n d e)⟩
    have hr7 := rule_pos (c := c6)
    have hb6 := z6.blk
    have n6 : ¬ H.next = H6.next := Nat.ne_of_lt z6.lt
    by_cases hc7 : c6.rule ≠ 0
    · rw [if_pos hc7]
      rw [decide_eq_true hc7] at hr7
      simp -implicitDefEqProofs only [go_sem, Nat.reduceAdd, Nat.reduceMul, Nat.reduceLT, Nat.reduceLeDiff, Nat.reduceEqDiff, Nat.reduceBEq, reduceCtorEq, Int.reduceLT, Int.reduceLE, Int.reduceEq, Int.reduceGT, Int.reduceGE, Int.reduceToNat, Int.reduceNeg, h103, new_put, hrp, hb2, n2, h104, hne, e0, e1, f0, f1, h105, put_put, hr5, h106, hr7, hb6, n6]
      exact .mk ⟨z7.fin _, c7.fin (by have := z3.lt; omega)⟩
    rw [if_neg hc7]
    rw [decide_eq_false hc7] at hr7
    -- idle
    obtain ⟨q0, q1, g0, g1, g2, g3⟩ := rd (H6.new [.int .i64 (c6.rule : Nat), .int .i64 (c6.n : Nat), s6] 108) (x37.sub hw3)
    rw [e0] at g0
    cases g0
    rw [e1] at g1
    cases g1
    obtain ⟨⟨v8, H8⟩, h107, hx8, hv8⟩ := idle_spec (d + 2) z7.ext.wf L[a] L[a + 1]
    simp only at hx8 hv8
    subst hv8
    have z8 := z7.on hx8
    have x38 : Ext H3.next H3 H8 := x37.trans hx8 x37.next
    have hb8 := z8.blk
    by_cases hi : idleP L[a] L[a + 1] ≠ 0
    · rw [if_pos hi]
      have hri : decide (((idleP L[a] L[a + 1] : Nat) : Int) > 0) = true := decide_eq_true (by omega)
      simp -implicitDefEqProofs only [go_sem, Nat.reduceAdd, Nat.reduceMul, Nat.reduceLT, Nat.reduceLeDiff, Nat.reduceEqDiff, Nat.reduceBEq, reduceCtorEq, Int.reduceLT, Int.reduceLE, Int.reduceEq, Int.reduceGT, Int.reduceGE, Int.reduceToNat, Int.reduceNeg, h103, new_put, hrp, hb2, n2, h104, hne, e0, e1, f0, f1, h105, put_put, hr5, h106, hr7, g2, g3, h107, hri, hb8]
      exact .mk ⟨z8.fin _, ChgAt.none _ _ _ 2⟩
    rw [if_neg hi]
    have hri : decide (((idleP L[a] L[a + 1] : Nat) : Int) > 0) = false := decide_eq_false (by omega)
    -- the rest
    obtain ⟨q0, q1, g0, g1, g4, g5⟩ := rd H8 (x38.sub hw3)
    rw [e0] at g0
    cases g0
    rw [e1] at g1
    cases g1
    obtain ⟨⟨v9, H9⟩, h108, hx9, s9, rfl, hrow9, hlow9⟩ := rest_spec (d + 2) z8.ext.wf (P.ok L[a] (List.getElem_mem _)) (P.ok L[a + 1] (List.getElem_mem _)) (P.clear L[a] (List.getElem_mem _)) fun h => (P.clear L[a + 1] (List.getElem_mem _) h).2.2
    simp only at hx9 hrow9
    have z9 := z8.on hx9
    have hb9 := z9.blk
    have c9 : ChgAt (H.next + 1) H9 (.agg [.int .i64 ((restP L[a] L[a + 1]).rule : Nat), .int .i64 ((restP L[a] L[a + 1]).n : Nat), s9]) (restP L[a] L[a + 1]) :=
      ⟨s9, rfl, hrow9, fun b o n d e => Nat.le_trans z8.lt (hlow9 b o n d e)⟩
    simp -implicitDefEqProofs only [go_sem, Nat.reduceAdd, Nat.reduceMul, Nat.reduceLT, Nat.reduceLeDiff, Nat.reduceEqDiff, Nat.reduceBEq, reduceCtorEq, Int.reduceLT, Int.reduceLE, Int.reduceEq, Int.reduceGT, Int.reduceGE, Int.reduceToNat, Int.reduceNeg, h103, new_put, hrp, hb2, n2, h104, hne, e0, e1, f0, f1, h105, put_put, hr5, h106, hr7, g2, g3, h107, hri, g4, g5, h108, hb9]
    exact .mk ⟨z9.fin _, c9.fin (Nat.lt_succ_self _)⟩
  · have hj : (jAt (bAt T) L a).op = 0 := by
      unfold jAt
      by_cases ht : bAt T (a + 1) = true
      · rw [if_pos ht]; rfl
      · rw [if_neg ht]
        unfold insAt
        rw [List.getElem?_eq_none]
        · rfl
        · refine Nat.le_of_not_lt fun hlt => hno ⟨by omega, fun j h1 h3 => ?_⟩
          have : j = 1 := by omega
          subst this
          simpa using ht
    rw [pairP_zero _ _ _ hj]
    subst hH3
    simp -implicitDefEqProofs only [go_sem, Nat.reduceAdd, Nat.reduceMul, Nat.reduceLT, Nat.reduceLeDiff, Nat.reduceEqDiff, Nat.reduceBEq, reduceCtorEq, Int.reduceLT, Int.reduceLE, Int.reduceEq, Int.reduceGT, Int.reduceGE, Int.reduceToNat, Int.reduceNeg, h103, new_put, hrp, hb2, n2, h104, nil_eql0]
    exact .mk ⟨z3.fin _, ChgAt.none _ _ 0 0⟩
end Go.Proofs.YthiflgncldmkjaaDoor
set_option linter.unusedVariables false
set_option linter.unusedSimpArgs false
set_option maxRecDepth 100000
namespace Go.Proofs.YthiflgncldmkjaaDoor
open Go.Ri

def nextN (i : Ins) (a : Nat) : List Nat := (nextI i a).map Int.toNat
structure Seek (L : List Ins) (R T : List Bool) (w : List Nat) : Prop where
  lenR : R.length = L.length
  lenT : T.length = L.length
  sound : ∀ a, bAt R a = true → Reach (bareC L) a
  wait : ∀ a ∈ w, Reach (bareC L) a
  zero : bAt R 0 = true ∨ 0 ∈ w
  next : ∀ (a : Nat) (i : Ins) (q : Nat), bAt R a = true → L[a]? = some i → ((q : Nat) : Int) ∈ nextI i a → bAt R q = true ∨ q ∈ w
  tgt : ∀ t : Nat, bAt T t = true ↔ ∃ a i, bAt R a = true ∧ L[a]? = some i ∧ isJ i ∧ i.n = (t : Nat)
theorem Seek.done {L : List Ins} {R T : List Bool} (S : Seek L R T []) : bAt R = reachL L ∧ bAt T = targL L := by
  have hr : ∀ a, bAt R a = true ↔ Reach (bareC L) a := fun a => by
    refine ⟨S.sound a, fun h => ?_⟩
    induction h with
    | zero => exact S.zero.resolve_right (by simp)
    | step _ hi hp ih => exact (S.next _ _ _ ih hi hp).resolve_right (by simp)
  have eq : ∀ {x y : Bool}, (x = true ↔ y = true) → x = y := fun {x y} h => by cases x <;> cases y <;> simp_all
  refine ⟨funext fun a => eq ?_, funext fun t => eq ?_⟩
  · rw [hr]
    exact (reachL_iff (L := L) (c := bareC L) rfl).symm
  · rw [S.tgt, targL_iff]
    exact ⟨fun ⟨a, i, h, r⟩ => ⟨a, i, (hr a).1 h, r⟩, fun ⟨a, i, h, r⟩ => ⟨a, i, (hr a).2 h, r⟩⟩
theorem bAt_set {l : List Bool} {i j : Nat} (hi : i < l.length) : bAt (l.set i true) j = if j = i then true else bAt l j := by
  unfold bAt
  by_cases h : j = i
  · subst h; rw [if_pos rfl, List.getElem?_set_self hi]; rfl
  · rw [if_neg h, List.getElem?_set_ne (fun e => h e.symm)]
theorem Seek.old {L : List Ins} {R T : List Bool} {w : List Nat} {a : Nat} (S : Seek L R T (w ++ [a])) (h : bAt R a = true) : Seek L R T w := by
  refine ⟨S.lenR, S.lenT, S.sound, fun b hb => S.wait b (by simp [hb]), ?_, fun b i q h1 h2 h3 => ?_, S.tgt⟩
  · rcases S.zero with h0 | h0
    · exact .inl h0
    · simp at h0
      rcases h0 with h0 | rfl
      · exact .inr h0
      · exact .inl h
  · rcases S.next b i q h1 h2 h3 with h0 | h0
    · exact .inl h0
    · simp at h0
      rcases h0 with h0 | rfl
      · exact .inr h0
      · exact .inl h
theorem mem_nextN {i : Ins} {a q : Nat} : ((q : Nat) : Int) ∈ nextI i a → q ∈ nextN i a := by
  intro h
  unfold nextN
  rw [List.mem_map]
  exact ⟨_, h, by simp⟩
theorem Seek.go {L : List Ins} {R T T' : List Bool} {w : List Nat} {a : Nat} {i : Ins} (S : Seek L R T (w ++ [a])) (hi : L[a]? = some i) (hnn : ∀ p ∈ nextI i a, 0 ≤ p) (hT' : T'.length = L.length)
    (ht : ∀ t : Nat, bAt T' t = true ↔ bAt T t = true ∨ (isJ i ∧ i.n = (t : Nat))) : Seek L (R.set a true) T' (w ++ nextN i a) := by
  have hal : a < R.length := by rw [S.lenR]; exact (List.getElem?_eq_some_iff.1 hi).1
  have ha : Reach (bareC L) a := S.wait a (by simp)
  have hset := fun j => bAt_set (l := R) (j := j) hal
  refine ⟨by simp [S.lenR], hT', fun b hb => ?_, fun b hb => ?_, ?_, fun b j q h1 h2 h3 => ?_, fun t => ?_⟩
  · rw [hset] at hb
    split at hb
    · rename_i e; rw [e]; exact ha
    · exact S.sound b hb
  · simp only [List.mem_append] at hb
    rcases hb with hb | hb
    · exact S.wait b (by simp [hb])
    · unfold nextN at hb
      rw [List.mem_map] at hb
      obtain ⟨p, hp, rfl⟩ := hb
      exact .step ha hi (by rw [Int.toNat_of_nonneg (hnn p hp)]; exact hp)
  · rw [hset]
    by_cases e : 0 = a
    · rw [if_pos e]; exact .inl rfl
    · rw [if_neg e]
      rcases S.zero with h0 | h0
      · exact .inl h0
      · simp at h0
        rcases h0 with h0 | h0
        · exact .inr (by simp [h0])
        · exact absurd h0 e
  · rw [hset] at h1 ⊢
    by_cases e : q = a
    · rw [if_pos e]; exact .inl rfl
    · rw [if_neg e]
      split at h1
      · rename_i eb
        subst eb
        rw [hi] at h2
        cases h2
        exact .inr (by simp [mem_nextN h3])
      · rcases S.next b j q h1 h2 h3 with h0 | h0
        · exact .inl h0
        · simp at h0
          rcases h0 with h0 | h0
          · exact .inr (by simp [h0])
          · exact absurd h0 e
  · rw [ht, S.tgt]
    constructor
    · rintro (⟨b, j, h1, h2, h3, h4⟩ | ⟨h1, h2⟩)
      · refine ⟨b, j, ?_, h2, h3, h4⟩
        rw [hset]
        split
        · rfl
        · exact h1
      · exact ⟨a, i, by rw [hset, if_pos rfl], hi, h1, h2⟩
    · rintro ⟨b, j, h1, h2, h3, h4⟩
      rw [hset] at h1
      split at h1
      · rename_i eb
        subst eb
        rw [hi] at h2
        cases h2
        exact .inr ⟨h3, h4⟩
      · exact .inl ⟨b, j, h1, h2, h3, h4⟩
def falses (R : List Bool) : Nat := R.countP (!·)
theorem falses_set {R : List Bool} {a : Nat} (h : R[a]? = some false) : falses (R.set a true) + 1 = falses R := by
  unfold falses
  induction R generalizing a with
  | nil => simp at h
  | cons x R ih =>
    cases a with
    | zero => simp at h; subst h; simp
    | succ a =>
      have := ih (a := a) (by simpa using h)
      simp only [List.set_cons_succ, List.countP_cons]
      omega
theorem bAt_rep (n i : Nat) : bAt (List.replicate n false) i = false := by
  unfold bAt
  rw [List.getElem?_replicate]
  split <;> rfl
theorem Seek.start {L : List Ins} : Seek L (List.replicate L.length false) (List.replicate L.length false) [0] := by
  have no : ∀ {a : Nat}, bAt (List.replicate L.length false) a = true → False := fun {a} h => by
    rw [bAt_rep] at h
    cases h
  refine ⟨by simp, by simp, fun a h => (no h).elim, fun a ha => ?_, .inr (by simp), fun a i q h => (no h).elim, fun t => ⟨fun h => (no h).elim, fun ⟨a, i, h, _⟩ => (no h).elim⟩⟩
  simp at ha
  subst ha
  exact .zero

theorem pfollow_spec (d : Nat) {H : AH} (hw : H.wf) {k : Nat} {s r t : AV} {L : List Ins} (hk : H.m k = some ⟨[s, r, t], 148, true⟩) (hrow : Row H s 3 (L.map insC)) {a : Nat} (ha : a < L.length) (hL : L.length ≤ 65536) :
    Ret (RT (d + 1) 102 [.ptr (some (k, 0)), .int .i64 (a : Nat)] H) fun x => Row x.2 x.1 1 ((nextI L[a] a).map fun p => [.int .i64 p]) ∧ Ext H.next H x.2 := by
  rw [R102]
  unfold F102
  obtain ⟨b, o, e1, e2, _⟩ := hrow.at (i := a) (by simpa using ha)
  simp only [List.getElem_map] at e2
  obtain ⟨p, hp⟩ : ∃ p, p = (b, o) := ⟨_, rfl⟩
  rw [← hp] at e1 e2
  have hin : insC L[a] = [.int .i64 L[a].op, .int .i64 L[a].n, .int .i64 L[a].m] := rfl
  rw [hin] at e2
  have hx : Ext H.next H (H.new [.int .i64 L[a].op, .int .i64 L[a].n, .int .i64 L[a].m] 29) := (Ext.refl hw).new _ _
  have hwr := wrapS (i := a) (by omega)
  generalize L[a] = i at *
  have one : ∀ p : Int, Row (((H.new [.int .i64 i.op, .int .i64 i.n, .int .i64 i.m] 29).new [.int .i64 p] 3)) (.slice (some (H.next + 1, 0)) 1 (.kn 1)) 1 [[.int .i64 p]] := fun p =>
    Own.row (l := [[.int .i64 p]]) (by omega) (Own.made (N := 0) (H := H.new [.int .i64 i.op, .int .i64 i.n, .int .i64 i.m] 29) (n := 1) (Nat.zero_le _) rfl) (by simp)
  have two : ∀ p q : Int, Row (((H.new [.int .i64 i.op, .int .i64 i.n, .int .i64 i.m] 29).new [.int .i64 p, .int .i64 q] 3)) (.slice (some (H.next + 1, 0)) 2 (.kn 2)) 1 [[.int .i64 p], [.int .i64 q]] := fun p q =>
    Own.row (l := [[.int .i64 p], [.int .i64 q]]) (by omega) (Own.made (N := 0) (H := H.new [.int .i64 i.op, .int .i64 i.n, .int .i64 i.m] 29) (n := 2) (Nat.zero_le _) rfl) (by simp)
  by_cases e20 : i.op = 20
  · have e17 : i.op ≠ 17 := by omega
    have e18 : i.op ≠ 18 := by omega
    simp -implicitDefEqProofs only [go_sem, Nat.reduceAdd, Nat.reduceMul, Nat.reduceLT, Nat.reduceLeDiff, Nat.reduceEqDiff, Nat.reduceBEq, reduceCtorEq, Int.reduceLT, Int.reduceLE, Int.reduceEq, Int.reduceGT, Int.reduceGE, Int.reduceToNat, Int.reduceNeg, hk, e1, e2, new_put, decide_eq_true e20]
    refine .mk ⟨?_, hx⟩
    simp only [nextI, if_neg e17, if_neg e18, if_pos e20]
    exact Row.nil _ _
  by_cases e17 : i.op = 17
  · simp -implicitDefEqProofs only [go_sem, Nat.reduceAdd, Nat.reduceMul, Nat.reduceLT, Nat.reduceLeDiff, Nat.reduceEqDiff, Nat.reduceBEq, reduceCtorEq, Int.reduceLT, Int.reduceLE, Int.reduceEq, Int.reduceGT, Int.reduceGE, Int.reduceToNat, Int.reduceNeg, hk, e1, e2, new_put, decide_eq_false e20, decide_eq_true e17]
    refine .mk ⟨?_, hx.new _ _⟩
    simp only [nextI, if_pos e17]
    exact one i.n
  by_cases e18 : i.op = 18
  · simp -implicitDefEqProofs only [go_sem, Nat.reduceAdd, Nat.reduceMul, Nat.reduceLT, Nat.reduceLeDiff, Nat.reduceEqDiff, Nat.reduceBEq, reduceCtorEq, Int.reduceLT, Int.reduceLE, Int.reduceEq, Int.reduceGT, Int.reduceGE, Int.reduceToNat, Int.reduceNeg, hk, e1, e2, new_put, decide_eq_false e20, decide_eq_false e17, decide_eq_true e18, hwr]
    refine .mk ⟨?_, hx.new _ _⟩
    simp only [nextI, if_neg e17, if_pos e18]
    exact two _ _
  · simp -implicitDefEqProofs only [go_sem, Nat.reduceAdd, Nat.reduceMul, Nat.reduceLT, Nat.reduceLeDiff, Nat.reduceEqDiff, Nat.reduceBEq, reduceCtorEq, Int.reduceLT, Int.reduceLE, Int.reduceEq, Int.reduceGT, Int.reduceGE, Int.reduceToNat, Int.reduceNeg, hk, e1, e2, new_put, decide_eq_false e20, decide_eq_false e17, decide_eq_false e18, hwr]
    refine .mk ⟨?_, hx.new _ _⟩
    simp only [nextI, if_neg e17, if_neg e18, if_neg e20]
    exact one _

theorem mk139 (n : Nat) (h : n ≤ 1000000) : nMakeSlice Tryd.prog 139 (.int .i64 (n : Nat)) (.int .i64 (n : Nat)) = some ⟨List.replicate n (.bool false), 4, fun b => .slice (some (b, 0)) n (.kn n)⟩ := by
  obtain ⟨i, hi, hb⟩ : ∃ i, Tryd.prog.info? 4 = some i ∧ i.bytes = 1 := by
    have h1 : (Tryd.prog.info? 4).isSome = true := by kernel_rfl
    have h2 : ((Tryd.prog.info? 4).map (·.bytes)).getD 0 = 1 := by kernel_rfl
    obtain ⟨i, hi⟩ := Option.isSome_iff_exists.1 h1
    rw [hi] at h2
    exact ⟨i, hi, h2⟩
  have hu : Tryd.prog.underlying 139 = some (.slice 4) := by kernel_rfl
  have hz : zeroL Tryd.prog 4 = some [.bool false] := by kernel_rfl
  have hc : Tryd.prog.cellsOf 4 = 1 := by kernel_rfl
  unfold nMakeSlice
  simp only [hu, hi, hz, Option.bind_some, hc]
  rw [if_pos ⟨by omega, Int.le_refl _, by rw [hb]; omega, by omega, by simp⟩]
  simp only [Int.toNat_natCast, Nat.mul_one]
  congr 2
  unfold pat
  apply List.ext_getElem?
  intro j
  rw [List.getElem?_map, List.getElem?_replicate]
  by_cases hj : j < n
  · rw [List.getElem?_range hj, if_pos hj]
    simp [Nat.mod_one]
  · rw [if_neg hj, List.getElem?_eq_none (by simp; omega)]
    rfl
structure Lk (Hb : AH) (s : AV) (L : List Ins) (R T : List Bool) (H : AH) : Prop where
  ext : Ext Hb.next Hb H
  lt : Hb.next + 2 < H.next
  rb : H.m Hb.next = some ⟨R.map .bool, 4, true⟩
  tb : H.m (Hb.next + 1) = some ⟨T.map .bool, 4, true⟩
  kb : H.m (Hb.next + 2) = some ⟨[s, .slice (some (Hb.next, 0)) L.length (.kn L.length), .slice (some (Hb.next + 1, 0)) L.length (.kn L.length)], 148, true⟩
theorem Lk.on {Hb : AH} {s : AV} {L : List Ins} {R T : List Bool} {H H' : AH} (K : Lk Hb s L R T H) (h : Ext (Hb.next + 3) H H') : Lk Hb s L R T H' :=
  ⟨K.ext.trans h (by omega), by have := h.next; omega, by rw [h.low _ (by omega)]; exact K.rb, by rw [h.low _ (by omega)]; exact K.tb, by rw [h.low _ (by omega)]; exact K.kb⟩
theorem Lk.setR {Hb : AH} {s : AV} {L : List Ins} {R T : List Bool} {H : AH} (K : Lk Hb s L R T H) (a : Nat) : Lk Hb s L (R.set a true) T (H.put Hb.next ⟨(R.map AV.bool).set a (.bool true), 4, true⟩) := by
  have := K.lt
  refine ⟨K.ext.put (Nat.le_refl _) (by omega) _, K.lt, by simp [List.map_set], ?_, ?_⟩
  · simp only [put_m]; rw [if_neg (by omega)]; exact K.tb
  · simp only [put_m]; rw [if_neg (by omega)]; exact K.kb
theorem Lk.setT {Hb : AH} {s : AV} {L : List Ins} {R T : List Bool} {H : AH} (K : Lk Hb s L R T H) (a : Nat) : Lk Hb s L R (T.set a true) (H.put (Hb.next + 1) ⟨(T.map AV.bool).set a (.bool true), 4, true⟩) := by
  have := K.lt
  refine ⟨K.ext.put (by omega) (by omega) _, K.lt, ?_, by simp [List.map_set], ?_⟩
  · simp only [put_m]; rw [if_neg (by omega)]; exact K.rb
  · simp only [put_m]; rw [if_neg (by omega)]; exact K.kb
theorem boolRow_of {H : AH} {b n : Nat} {l : List Bool} {e : TypeId} {w : Bool} (h : H.m b = some ⟨l.map .bool, e, w⟩) (hl : l.length = n) : BoolRow H (.slice (some (b, 0)) n (.kn n)) l := by
  subst hl
  refine ⟨fun x hx => by simp only [List.mem_map] at hx; obtain ⟨_, _, rfl⟩ := hx; rfl, .inr ⟨_, _, by rw [List.length_map], .inr ⟨b, 0, _, rfl, h, by simp, fun i hi => ?_⟩⟩⟩
  simp only [List.length_map] at hi
  simp only [Nat.zero_add, Nat.mul_one, List.getElem_map]
  rw [List.drop_eq_getElem_cons (by simpa using hi)]
  simp
theorem Lk.sight {Hb : AH} {s : AV} {L : List Ins} {R T : List Bool} {H : AH} (K : Lk Hb s L R T H) (hw : Hb.wf) (hrow : Row Hb s 3 (L.map insC)) (hc : CapOk s) (hR : R.length = L.length) (hT : T.length = L.length) : Sight H (Hb.next + 2) s L R T :=
  ⟨⟨_, _, K.kb, boolRow_of K.rb hR, boolRow_of K.tb hT⟩, hrow.mono (K.ext.sub hw), hc, hR, hT⟩
def natsC (w : List Nat) : List Int := w.map fun n => ((n : Nat) : Int)
structure ILk (Hb : AH) (s : AV) (L : List Ins) (f : Nat) (t : St) : Prop where
  t0 : t.1 0 = s
  t3 : t.1 3 = .ptr (some (Hb.next + 2, 0))
  rest : ∃ R T w, Lk Hb s L R T t.2 ∧ OwnI (Hb.next + 3) t.2 (t.1 4) (natsC w) ∧ Seek L R T w ∧ 3 * falses R + w.length < f ∧ f ≤ 300000
def ELk (Hb : AH) (s : AV) (L : List Ins) (r : Ex × St) : Prop :=
  r.1 = .exit 0 ∧ r.2.1 3 = .ptr (some (Hb.next + 2, 0)) ∧ ∃ R T, Lk Hb s L R T r.2.2 ∧ Seek L R T []
theorem nextI_len (i : Ins) (a : Nat) : (nextI i a).length ≤ 2 := by
  unfold nextI
  split
  · simp
  · split
    · simp
    · split <;> simp
theorem ints_flat (l : List Int) : (l.map fun p => [AV.int .i64 p]).flatten = intsC l := by
  rw [flat_one]
  rfl
theorem look_tail (d : Nat) {Hb : AH} (hw : Hb.wf) {s : AV} {L : List Ins} (hrow : Row Hb s 3 (L.map insC)) (P : Plain L) {R Tg : List Bool} {H3 : AH} {T : Tm} {a : Nat} {w : List Nat} (ha : a < L.length) (hnn : ∀ p ∈ nextI L[a] a, 0 ≤ p) (K : Lk Hb s L R Tg H3)
    (hwait : OwnI (Hb.next + 3) H3 (T 4) (natsC w)) (S : Seek L R Tg (w ++ nextN L[a] a)) {f : Nat} (t0 : T 0 = s) (t3 : T 3 = .ptr (some (Hb.next + 2, 0))) (t5 : T 5 = .int .i64 (a : Nat)) (hlt : 3 * falses R + w.length + 2 < f) (hf : f ≤ 300000) :
    Ret (jn (F75_J0 (RT (d + 1)) (Ri.iter big) T H3) (F75_J1 (RT (d + 1)) (Ri.iter big))) fun r => (r.1 = .normal ∧ ILk Hb s L f r.2) ∨ (r.1 ≠ .normal ∧ ELk Hb s L r) := by
  obtain ⟨⟨v, H4⟩, h102, hr4, hx4⟩ := pfollow_spec d K.ext.wf K.kb (hrow.mono (K.ext.sub hw)) ha P.few
  simp only at hr4 hx4
  have x4 : Ext (Hb.next + 3) H3 H4 := hx4.less K.lt
  have K4 := K.on x4
  have hwait4 : OwnI (Hb.next + 3) H4 (T 4) (natsC w) := hwait.keep K.ext.wf hx4.low
  obtain ⟨hl4, hs4⟩ := hr4.src
  have hnl := nextI_len L[a] a
  have hfl := ints_flat (nextI L[a] a)
  rw [hfl] at hs4
  have hxs : Ext (Hb.next + 3) H4 H4 := Ext.self K4.ext.wf K4.lt
  unfold F75_J0
  simp -implicitDefEqProofs only [go_sem, Nat.reduceAdd, Nat.reduceMul, Nat.reduceLT, Nat.reduceLeDiff, Nat.reduceEqDiff, Nat.reduceBEq, reduceCtorEq, Int.reduceLT, Int.reduceLE, Int.reduceEq, Int.reduceGT, Int.reduceGE, Int.reduceToNat, Int.reduceNeg, t3, t5, h102]
  refine ret_bind (ret_bind ((app_own ysl40 (by kernel_rfl) hwait4 hxs hl4 hs4 (by rw [intsC_len]; simp) (by rw [intsC_len, intsC_len, natsC, List.length_map]; omega)).mono ?_))
  rintro ⟨v5, H5⟩ ⟨h1, h2, _⟩
  simp only at h1 h2
  refine .mk ?_
  simp -implicitDefEqProofs only [go_sem, Nat.reduceAdd, Nat.reduceMul, Nat.reduceLT, Nat.reduceLeDiff, Nat.reduceEqDiff, Nat.reduceBEq, reduceCtorEq, Int.reduceLT, Int.reduceLE, Int.reduceEq, Int.reduceGT, Int.reduceGE, Int.reduceToNat, Int.reduceNeg, F75_J1]
  refine .mk (.inl ⟨rfl, ?_, ?_, R, Tg, w ++ nextN L[a] a, K4.on h2, ?_, S, ?_, hf⟩)
  · simp -implicitDefEqProofs only [go_sem, Nat.reduceEqDiff, Nat.reduceBEq, reduceCtorEq, t0]
  · simp -implicitDefEqProofs only [go_sem, Nat.reduceEqDiff, Nat.reduceBEq, reduceCtorEq, t3]
  · simp -implicitDefEqProofs only [go_sem, Nat.reduceEqDiff, Nat.reduceBEq, reduceCtorEq]
    have e : intsC (natsC (w ++ nextN L[a] a)) = intsC (natsC w) ++ intsC (nextI L[a] a) := by
      unfold natsC intsC nextN
      rw [List.map_append, List.map_append]
      congr 2
      rw [List.map_map]
      conv => rhs; rw [← List.map_id (nextI L[a] a)]
      exact List.map_congr_left fun p hp => by simp only [Function.comp, id]; exact Int.toNat_of_nonneg (hnn p hp)
    show Own _ _ _ _ _ (intsC (natsC (w ++ nextN L[a] a)))
    rw [e]
    exact h1
  · simp only [List.length_append, nextN, List.length_map]
    omega
theorem Row.blk {H : AH} {s : AV} {k : Nat} {l : List (List AV)} (h : Row H s k l) {i : Nat} (hi : i < l.length) :
    ∃ b o B, (∀ kd, idxSl s (.int kd (i : Nat)) k = some (.ptr (some (b, o)))) ∧ H.m b = some B ∧ o + k ≤ B.cells.length ∧ (B.cells.drop o).take k = l[i] := by
  rcases h.is with ⟨_, rfl⟩ | ⟨a, c, rfl, h2⟩
  · simp at hi
  rcases h2 with rfl | ⟨b, o, B, rfl, hB, hl, hr⟩
  · simp at hi
  · have hik : i * k + k ≤ l.length * k := by rw [← Nat.succ_mul]; exact Nat.mul_le_mul_right k hi
    refine ⟨b, o + i * k, B, fun kd => ?_, hB, by omega, hr i hi⟩
    simp [idxSl]; omega
theorem cut_get {l : List AV} {o : Nat} {x : List AV} {k : Nat} (h : (l.drop o).take k = x) {j : Nat} (hj : j < k) : l[o + j]? = x[j]? := by
  rw [← h, List.getElem?_take, if_pos hj, List.getElem?_drop]
set_option maxHeartbeats 4000000 in
theorem look_round (d : Nat) {Hb : AH} (hw : Hb.wf) {s : AV} {L : List Ins} (hrow : Row Hb s 3 (L.map insC)) (P : Plain L) (hin : ∀ a, Reach (bareC L) a → a < L.length) (f : Nat) (t : St) (hI : ILk Hb s L (f + 1) t) :
    Ret (F75_L2 (RT (d + 1)) (Ri.iter big) t) fun r => (r.1 = .normal ∧ ILk Hb s L f r.2) ∨ (r.1 ≠ .normal ∧ ELk Hb s L r) := by
  obtain ⟨T, H⟩ := t
  obtain ⟨t0, t3, R, Tg, w, K, hwait, S, hlt, hf⟩ := hI
  simp only at t0 t3 K hwait
  have hLl := P.few
  have hwl : aLen Tryd.prog 40 (T 4) = some (.int .i64 (w.length : Nat)) := by rw [hwait.alen ysl40.under, intsC_len, natsC, List.length_map]
  unfold F75_L2
  rcases List.eq_nil_or_concat w with rfl | ⟨w', a, rfl⟩
  · simp -implicitDefEqProofs only [go_sem, Nat.reduceEqDiff, Nat.reduceBEq, reduceCtorEq, hwl]
    refine .mk (.inr ⟨by simp, rfl, ?_, R, Tg, K, S⟩)
    simp -implicitDefEqProofs only [go_sem, Nat.reduceAdd, Nat.reduceMul, Nat.reduceLT, Nat.reduceLeDiff, Nat.reduceEqDiff, Nat.reduceBEq, reduceCtorEq, Int.reduceLT, Int.reduceLE, Int.reduceEq, Int.reduceGT, Int.reduceGE, Int.reduceToNat, Int.reduceNeg, t3]
  · rw [List.concat_eq_append] at *
    have hwl' : aLen Tryd.prog 40 (T 4) = some (.int .i64 ((w'.length + 1 : Nat) : Int)) := by rw [hwl]; simp
    have halt : a < L.length := hin a (S.wait a (by simp))
    have hpos : decide (((w'.length + 1 : Nat) : Int) > 0) = true := decide_eq_true (by omega)
    have hsub1 : IntKind.i64.wrap (((w'.length + 1 : Nat) : Int) - 1) = ((w'.length : Nat) : Int) := by
      simp only [List.length_append, List.length_cons, List.length_nil] at hlt
      rw [wrapR (by omega)]
      omega
    obtain ⟨bw, Bw, haw, hNw, hbwn, hBwm, _, _, hgw, hidw, _⟩ := hwait.cell K.ext.wf (i := w'.length) (by rw [intsC_len]; simp [natsC])
    have hwa : (natsC (w' ++ [a]))[w'.length]? = some ((a : Nat) : Int) := by simp [natsC]
    rw [intsC_get, hwa] at hgw
    simp only [Option.map_some] at hgw
    obtain ⟨s', hcut, hwait', hat'⟩ := hwait.cut (n := w'.length + 1) (j := w'.length) (by rw [intsC_len]; simp [natsC]) (by omega) (by omega) .i64
    have hwait2 : OwnI (Hb.next + 3) H s' (natsC w') := by
      have : (intsC (natsC (w' ++ [a]))).take (w'.length * 1) = intsC (natsC w') := by
        rw [Nat.mul_one]
        simp only [intsC, natsC, List.map_append]
        rw [List.take_append_of_le_length (by simp), List.take_of_length_le (by simp)]
      rw [this] at hwait'
      exact hwait'
    have hal : ((0 : Int) ≤ ((a : Nat) : Int) ∧ ((a : Nat) : Int) < ((L.length : Nat) : Int)) = True := by simp; omega
    have halR : a < R.length := by rw [S.lenR]; exact halt
    have hRa : (R.map AV.bool)[a]? = some (.bool R[a]) := by rw [List.getElem?_map, List.getElem?_eq_getElem halR]; rfl
    simp only [List.length_append, List.length_cons, List.length_nil] at hlt
    cases hv : R[a]
    · rw [hv] at hRa
      have hRa' : R[a]? = some false := by rw [List.getElem?_eq_getElem halR, hv]
      have K2 := K.setR a
      obtain ⟨bi, oi, Bi, ei, hBi, hleB, hcutB⟩ := Row.blk hrow (i := a) (by simpa using halt)
      simp only [List.getElem_map] at hcutB
      have hbl : bi < Hb.next := hw _ _ hBi
      have hBH : H.m bi = some Bi := by rw [K.ext.low _ hbl]; exact hBi
      have n1 : ¬ bi = Hb.next := by omega
      have n2 : ¬ bi = H.next := by have := K.lt; omega
      have n3 : ¬ Hb.next + 2 = H.next := by have := K.lt; omega
      have n4 : ¬ Hb.next + 1 = H.next := by have := K.lt; omega
      have hleB' : (oi + 3 ≤ Bi.cells.length) = True := eq_true hleB
      have hin1 : insC L[a] = [.int .i64 L[a].op, .int .i64 L[a].n, .int .i64 L[a].m] := rfl
      have hB1 : Bi.cells[oi + 1]? = some (.int .i64 L[a].n) := by rw [cut_get hcutB (by omega)]; rfl
      have h101 := jumps_spec d (H.put Hb.next ⟨(R.map AV.bool).set a (.bool true), 4, true⟩) L[a]
      have hnn : ∀ p ∈ nextI L[a] a, 0 ≤ p := fun p hp => by
        unfold nextI at hp
        split at hp
        · simp at hp; subst hp; exact (P.jump _ (List.getElem_mem _) (.inl ‹_›)).1
        · split at hp
          · simp only [List.mem_cons, List.not_mem_nil, or_false] at hp
            rcases hp with rfl | rfl
            · omega
            · exact (P.jump _ (List.getElem_mem _) (.inr ‹_›)).1
          · split at hp
            · simp at hp
            · simp at hp; omega
      have hcnt := falses_set hRa'
      have halr : (a < (R.map AV.bool).length) = True := eq_true (by simpa using halR)
      have hown2 : ∀ B, OwnI (Hb.next + 3) (H.put Hb.next B) s' (natsC w') := fun B => hwait2.mono fun b hb => by
        intro c h
        simp only [put_m]
        have hbN : Hb.next + 3 ≤ b := by
          obtain ⟨_, _, h2⟩ := hwait2.at (b := b) ⟨hb, c, h⟩
          exact h2
        rw [if_neg (by omega)]
      rw [hin1] at h101 hcutB
      by_cases hj : isJ L[a]
      · rw [decide_eq_true hj] at h101
        have hrg := P.jump _ (List.getElem_mem halt) hj
        have hjn : ((0 : Int) ≤ L[a].n ∧ L[a].n < ((L.length : Nat) : Int)) = True := eq_true ⟨hrg.1, hrg.2.1⟩
        have hTl : L[a].n.toNat < Tg.length := by rw [S.lenT]; omega
        have htl : (L[a].n.toNat < (Tg.map AV.bool).length) = True := eq_true (by simpa using hTl)
        simp -implicitDefEqProofs only [go_sem, Nat.reduceAdd, Nat.reduceMul, Nat.reduceLT, Nat.reduceLeDiff, Nat.reduceEqDiff, Nat.reduceBEq, reduceCtorEq, Int.reduceLT, Int.reduceLE, Int.reduceEq, Int.reduceGT, Int.reduceGE, Int.reduceToNat, Int.reduceNeg, t0, t3, hwl', hpos, hsub1, hidw, hBwm, hgw, hcut, K.kb, hal, K.rb, hRa, halr, ei, n1, n2, n3, n4, hBH, hleB', hcutB, h101, hB1, hjn, K.tb, htl]
        have K3 := (K2.on ((Ext.self K2.ext.wf K2.lt).new (insC L[a]) 29)).setT L[a].n.toNat
        refine look_tail d hw hrow P halt hnn K3 ?_ (S.go (T' := Tg.set L[a].n.toNat true) (List.getElem?_eq_getElem halt) hnn (by simp [S.lenT]) fun t => ?_) ?_ ?_ ?_ (by omega) (by omega)
        · simp -implicitDefEqProofs only [go_sem, Nat.reduceEqDiff, Nat.reduceBEq, reduceCtorEq]
          refine (((hown2 _).new K2.ext.wf (insC L[a]) 29).mono fun b hb c h => ?_)
          simp only [put_m]
          have hbN : Hb.next + 3 ≤ b := by
            obtain ⟨_, _, h2⟩ := hwait2.at (b := b) ⟨hb, c, h⟩
            exact h2
          rw [if_neg (by omega)]
        · rw [bAt_set hTl]
          by_cases e : t = L[a].n.toNat
          · rw [if_pos e]
            simp only [true_iff]
            exact .inr ⟨hj, by omega⟩
          · rw [if_neg e]
            exact ⟨.inl, fun h => h.resolve_right fun h2 => e (by omega)⟩
        · simp -implicitDefEqProofs only [go_sem, Nat.reduceEqDiff, Nat.reduceBEq, reduceCtorEq, t0]
        · simp -implicitDefEqProofs only [go_sem, Nat.reduceEqDiff, Nat.reduceBEq, reduceCtorEq, t3]
        · simp -implicitDefEqProofs only [go_sem, Nat.reduceEqDiff, Nat.reduceBEq, reduceCtorEq]
      · rw [decide_eq_false hj] at h101
        simp -implicitDefEqProofs only [go_sem, Nat.reduceAdd, Nat.reduceMul, Nat.reduceLT, Nat.reduceLeDiff, Nat.reduceEqDiff, Nat.reduceBEq, reduceCtorEq, Int.reduceLT, Int.reduceLE, Int.reduceEq, Int.reduceGT, Int.reduceGE, Int.reduceToNat, Int.reduceNeg, t0, t3, hwl', hpos, hsub1, hidw, hBwm, hgw, hcut, K.kb, hal, K.rb, hRa, halr, ei, n1, n2, hBH, hleB', hcutB, h101]
        have K3 := K2.on ((Ext.self K2.ext.wf K2.lt).new (insC L[a]) 29)
        refine look_tail d hw hrow P halt hnn K3 ?_ (S.go (T' := Tg) (List.getElem?_eq_getElem halt) hnn S.lenT fun t => ⟨.inl, fun h => h.resolve_right fun h2 => hj h2.1⟩) ?_ ?_ ?_ (by omega) (by omega)
        · simp -implicitDefEqProofs only [go_sem, Nat.reduceEqDiff, Nat.reduceBEq, reduceCtorEq]
          exact (hown2 _).new K2.ext.wf _ _
        · simp -implicitDefEqProofs only [go_sem, Nat.reduceEqDiff, Nat.reduceBEq, reduceCtorEq, t0]
        · simp -implicitDefEqProofs only [go_sem, Nat.reduceEqDiff, Nat.reduceBEq, reduceCtorEq, t3]
        · simp -implicitDefEqProofs only [go_sem, Nat.reduceEqDiff, Nat.reduceBEq, reduceCtorEq]
    · rw [hv] at hRa
      simp -implicitDefEqProofs only [go_sem, Nat.reduceAdd, Nat.reduceMul, Nat.reduceLT, Nat.reduceLeDiff, Nat.reduceEqDiff, Nat.reduceBEq, reduceCtorEq, Int.reduceLT, Int.reduceLE, Int.reduceEq, Int.reduceGT, Int.reduceGE, Int.reduceToNat, Int.reduceNeg, t0, t3, hwl', hpos, hsub1, hidw, hBwm, hgw, hcut, K.kb, hal, K.rb, hRa, F75_J1]
      refine .mk (.inl ⟨rfl, ?_, ?_, R, Tg, w', K, ?_, S.old (by rw [bAt_eq halR, hv]), by omega, by omega⟩)
      · simp -implicitDefEqProofs only [go_sem, Nat.reduceEqDiff, Nat.reduceBEq, reduceCtorEq, t0]
      · simp -implicitDefEqProofs only [go_sem, Nat.reduceEqDiff, Nat.reduceBEq, reduceCtorEq, t3]
      · simp -implicitDefEqProofs only [go_sem, Nat.reduceEqDiff, Nat.reduceBEq, reduceCtorEq]
        exact hwait2

set_option maxHeartbeats 1000000 in
theorem look_spec (d : Nat) {H : AH} (hw : H.wf) {s : AV} {L : List Ins} (hrow : Row H s 3 (L.map insC)) (hc : CapOk s) (P : Plain L) (hin : ∀ a, Reach (bareC L) a → a < L.length) :
    Ret (RT (d + 2) 75 [s] H) fun r => Ext H.next H r.2 ∧ ∃ k R T, r.1 = .ptr (some (k, 0)) ∧ Sight r.2 k s L R T ∧ bAt R = reachL L ∧ bAt T = targL L := by
  rw [R75]
  unfold F75
  have hL := P.few
  have hal : aLen Tryd.prog 22 s = some (.int .i64 (L.length : Nat)) := by rw [hrow.alen ysl22.under, List.length_map]
  have hmk := mk139 L.length (by omega)
  obtain ⟨p, n, c, rfl, _⟩ := hc
  have hwf3 : ∀ B1 B2 B3, Ext H.next H ((((H.res 3).put H.next B1).put (H.next + 1) B2).put (H.next + 2) B3) := fun B1 B2 B3 => by
    have h0 : Ext H.next H (H.res 3) := Ext.res (Ext.refl hw) 3
    exact ((h0.put (Nat.le_refl _) (by simp) _).put (by omega) (by simp) _).put (by omega) (by simp) _
  have K : Lk H (.slice (some p) n c) L (List.replicate L.length false) (List.replicate L.length false) (((((H.res 3).put H.next ⟨List.replicate L.length (.bool false), 4, true⟩).put (H.next + 1) ⟨List.replicate L.length (.bool false), 4, true⟩).put (H.next + 2) ⟨[.slice (some p) n c, .slice (some (H.next, 0)) L.length (.kn L.length), .slice (some (H.next + 1, 0)) L.length (.kn L.length)], 148, true⟩).new [.int .i64 0] 3) := by
    refine ⟨(hwf3 _ _ _).new _ _, by simp, ?_, ?_, ?_⟩
    · simp
    · simp
    · simp
  simp -implicitDefEqProofs only [go_sem, Nat.reduceAdd, Nat.reduceMul, Nat.reduceLT, Nat.reduceLeDiff, Nat.reduceEqDiff, Nat.reduceBEq, reduceCtorEq, Int.reduceLT, Int.reduceLE, Int.reduceEq, Int.reduceGT, Int.reduceGE, Int.reduceToNat, Int.reduceNeg, hal, hmk]
  refine Ret.then (Q' := ELk H (.slice (some p) n c) L) (Ret.iter (ILk H (.slice (some p) n c) L) _ (fun f t hI => look_round d hw hrow P hin f t hI) (fun t ht => by obtain ⟨_, _, _, _, _, _, _, _, h, _⟩ := ht; exact absurd h (Nat.not_lt_zero _)) 300000 big _ (by unfold big; omega)
    ⟨?_, ?_, _, _, [0], K, ?_, Seek.start, ?_, Nat.le_refl _⟩) ?_
  · simp -implicitDefEqProofs only [go_sem, Nat.reduceEqDiff, Nat.reduceBEq, reduceCtorEq]
  · simp -implicitDefEqProofs only [go_sem, Nat.reduceEqDiff, Nat.reduceBEq, reduceCtorEq]
  · simp -implicitDefEqProofs only [go_sem, Nat.reduceEqDiff, Nat.reduceBEq, reduceCtorEq]
    exact Own.made (N := H.next + 3) (n := 1) (by simp) rfl
  · have : falses (List.replicate L.length false) ≤ L.length := by
      have := List.countP_le_length (p := fun b : Bool => !b) (l := List.replicate L.length false)
      simpa [falses] using this
    simp only [List.length_cons, List.length_nil]
    omega
  · rintro ⟨e, T, H1⟩ ⟨rfl, t3, R, Tg, K1, S1⟩
    simp only at t3 K1
    simp -implicitDefEqProofs only [go_sem, Nat.reduceAdd, Nat.reduceMul, Nat.reduceLT, Nat.reduceLeDiff, Nat.reduceEqDiff, Nat.reduceBEq, reduceCtorEq, Int.reduceLT, Int.reduceLE, Int.reduceEq, Int.reduceGT, Int.reduceGE, Int.reduceToNat, Int.reduceNeg, t3]
    exact .mk ⟨K1.ext, H.next + 2, R, Tg, rfl, K1.sight hw hrow ⟨_, _, _, rfl, ‹_›⟩ S1.lenR S1.lenT, S1.done.1, S1.done.2⟩
end Go.Proofs.YthiflgncldmkjaaDoor
set_option linter.unusedVariables false
set_option linter.unusedSimpArgs false
set_option maxRecDepth 100000
namespace Go.Ri

theorem Own.cut3 {N sz : Nat} {e : TypeId} {H : AH} {s : AV} {cs : List AV} (h : Own N sz e H s cs) {n j : Nat} (hn : cs.length = n * sz) (hpos : 0 < sz) (hn0 : 0 < n) (hj : j ≤ n) (k : IntKind) :
    ∃ b, At s b ∧ slSl s sz none (some (.int k (j : Nat))) (some (.int k (j : Nat))) = some (.slice (some (b, 0)) j (.kn j)) ∧ Own N sz e H (.slice (some (b, 0)) j (.kn j)) (cs.take (j * sz)) := by
  rcases h with ⟨rfl, rfl⟩ | ⟨b, m, c, B, rfl, hc, hcl, hb, hbe, hbr, hbl, htk, hN⟩
  · have h : n * sz = 0 := hn.symm
    have := Nat.mul_pos hn0 hpos
    omega
  · have hmn : m = n := Nat.eq_of_mul_eq_mul_right hpos (hcl.symm.trans hn)
    subst hmn
    have hjm : j * sz ≤ m * sz := Nat.mul_le_mul_right _ hj
    refine ⟨b, ⟨m, c, rfl⟩, ?_, .inr ⟨b, j, _, B, rfl, .inr ⟨j, rfl, Nat.le_refl _, by omega⟩, by rw [List.length_take, hcl]; omega, hb, hbe, hbr, by omega, ?_, hN⟩⟩
    · have h1 : bnds m c.known none (some (.int k (j : Nat))) (some (.int k (j : Nat))) = some (0, j, some j) := by
        unfold bnds
        simp only
        rw [bnd_nat k (by rcases hc with rfl | ⟨mc, rfl, hm, _⟩; simpa [Cap.known] using hj; simp [Cap.known]; omega)]
        simp only [Option.bind_some]
        rw [bnd_nat k (Nat.le_refl _)]
        rfl
      rw [slSl_ptr _ _ _ _ _ _ _ (by rcases hc with rfl | ⟨mc, rfl, _⟩; exact .inl rfl; exact .inr rfl), h1]
      rfl
    · rw [← htk, List.take_take]
      congr 1
      omega
theorem app_full {P : Program} {t xt e sz by_ : Nat} (T : SlT P t e sz by_) (hq : seqT P xt = true)
    {N : Nat} {H : AH} {b j : Nat} {x : AV} {cs ds : List AV} {n : Nat} (hs : Own N sz e H (.slice (some (b, 0)) j (.kn j)) cs) (hw : H.wf) (hN : N ≤ H.next) (hx : aLenOf x = some n) (hd : srcN sz n x H = some ds) (hdl : ds.length = n * sz)
    (hlim : (cs.length + ds.length) * by_ ≤ 140737488355328 * sz) :
    Ret (aAppend P t xt (.slice (some (b, 0)) j (.kn j)) x H) fun r => Own N sz e r.2 r.1 (cs ++ ds) ∧ Ext H.next H r.2 ∧ ((ds = [] ∧ r = (.slice (some (b, 0)) j (.kn j), H)) ∨ Own H.next sz e r.2 r.1 (cs ++ ds)) := by
  obtain ⟨i, hi, rfl, rfl⟩ := T.info
  obtain ⟨z, hz, hzl⟩ := T.zero
  have hzp := T.pos
  unfold aAppend
  simp only [T.under, hi, hz, Option.bind_some]
  rw [if_pos ⟨hq, by omega, hzl, rfl⟩]
  simp only [hx, hd, Option.bind_some]
  have bound : ∀ m : Nat, m * i.size = cs.length + ds.length → m * i.bytes ≤ 140737488355328 ∧ m ≤ 9223372036854775807 := by
    intro m hm
    rw [← hm, Nat.mul_right_comm] at hlim
    have h1 := Nat.le_of_mul_le_mul_right hlim hzp
    have h2 : m ≤ m * i.bytes := Nat.le_mul_of_pos_right m T.bpos
    omega
  cases n with
  | zero =>
    have : ds = [] := List.eq_nil_of_length_eq_zero (by simpa using hdl)
    subst this
    exact .mk ⟨by simpa using hs, .refl hw, .inl ⟨rfl, rfl⟩⟩
  | succ n =>
    rcases hs with ⟨h, _⟩ | ⟨b', m, c, B, h, hc, hcl, hb, hbe, hbr, hbl, htk, hN'⟩
    · cases h
    · cases h
      have hold : oldN i.size j (some (b, 0)) H = some cs := by
        cases j with
        | zero =>
          have : cs = [] := List.eq_nil_of_length_eq_zero (by omega)
          subst this
          rfl
        | succ j =>
          simp only [oldN, AH.ldN, hb, Option.bind_some]
          rw [if_pos (by omega)]
          simp only [List.drop_zero, htk]
      simp only [appTo]
      rw [if_neg (by omega)]
      simp only [hold, Option.bind_some, grow]
      have hneed : (j + (n + 1)) * i.size = cs.length + ds.length := by rw [Nat.add_mul, hcl, hdl]
      rw [if_pos (bound _ hneed)]
      have mk : ∀ M, M ≤ H.next → Own M i.size e (H.new (cs ++ ds) e) (.slice (some (H.next, 0)) (j + (n + 1)) (.op i.size)) (cs ++ ds) := fun M hM =>
        .inr ⟨H.next, _, _, ⟨cs ++ ds, e, true⟩, rfl, .inl rfl, by simp [hneed], by simp, rfl, rfl, by simp [hneed], List.take_of_length_le (by simp [hneed]), hM⟩
      exact .mk ⟨mk N hN, (Ext.refl hw).new _ _, .inr (mk _ (Nat.le_refl _))⟩
theorem Own.el {N k : Nat} {e : TypeId} {H : AH} {s : AV} {l : List (List AV)} (h : Own N k e H s l.flatten) (hk : 0 < k) (hl : ∀ x ∈ l, x.length = k) (hw : H.wf) {i : Nat} (hi : i < l.length) :
    ∃ b B, At s b ∧ N ≤ b ∧ b < H.next ∧ H.m b = some B ∧ B.rw_ = true ∧ i * k + k ≤ B.cells.length ∧ (B.cells.drop (i * k)).take k = l[i] ∧ (∀ kd, idxSl s (.int kd (i : Nat)) k = some (.ptr (some (b, i * k)))) ∧
      ∀ j v, j < k → Own N k e (H.put b ⟨B.cells.set (i * k + j) v, B.elem, B.rw_⟩) s (l.set i (l[i].set j v)).flatten := by
  have hfl := flat_len l hl
  rcases h with ⟨_, h0⟩ | ⟨b, n, c, B, rfl, hc, hcl, hb, hbe, hbr, hbl, htk, hN⟩
  · rw [h0] at hfl
    have := Nat.mul_pos (show 0 < l.length by omega) hk
    simp at hfl
    omega
  · rw [hfl] at hcl
    have hln : l.length = n := Nat.eq_of_mul_eq_mul_right hk hcl
    subst hln
    have hik : i * k + k ≤ l.length * k := by rw [← Nat.succ_mul]; exact Nat.mul_le_mul_right k hi
    refine ⟨b, B, ⟨_, _, rfl⟩, hN, hw _ _ hb, hb, hbr, by omega, ?_, fun kd => ?_, fun j v hj => ?_⟩
    · rw [← flat_at l hl i hi, ← htk, List.drop_take, List.take_take, Nat.min_eq_left (by omega)]
    · simp [idxSl]; omega
    · have hset : (l.set i (l[i].set j v)).flatten = l.flatten.set (i * k + j) v := by
        clear hc hb htk hbl hfl hik hcl
        induction l generalizing i with
        | nil => simp at hi
        | cons x l ih =>
          have hx := hl x (by simp)
          cases i with
          | zero =>
            simp only [List.set_cons_zero, List.flatten_cons, List.getElem_cons_zero, Nat.zero_mul, Nat.zero_add]
            rw [List.set_append_left _ _ (by omega)]
          | succ i =>
            have := ih (fun y hy => hl y (by simp [hy])) (i := i) (by simpa using hi)
            simp only [List.set_cons_succ, List.flatten_cons, List.getElem_cons_succ, this]
            rw [List.set_append_right _ _ (by rw [hx, Nat.succ_mul]; omega)]
            congr 2
            rw [hx, Nat.succ_mul]
            omega
      rw [hset]
      refine .inr ⟨b, l.length, c, ⟨B.cells.set (i * k + j) v, B.elem, B.rw_⟩, rfl, ?_, by simp [hfl], by simp, hbe, hbr, by simpa using hbl, ?_, hN⟩
      · rcases hc with h | ⟨m, h1, h2, h3⟩
        · exact .inl h
        · exact .inr ⟨m, h1, h2, by simpa using h3⟩
      · simp only
        rw [List.take_set, htk]
end Go.Ri
namespace Go.Proofs.YthiflgncldmkjaaDoor
open Go.Ri
def insF (L : List Ins) : List AV := (L.map insC).flatten
theorem insF_len (L : List Ins) : (insF L).length = L.length * 3 := by
  unfold insF
  rw [flat_len _ (insC_len L), List.length_map]
theorem insF_append (a b : List Ins) : insF (a ++ b) = insF a ++ insF b := by simp [insF]
theorem insF_take (L : List Ins) (n : Nat) (h : n ≤ L.length) : (insF L).take (n * 3) = insF (L.take n) := by
  have e : L = L.take n ++ L.drop n := (List.take_append_drop n L).symm
  conv => lhs; rw [e, insF_append]
  rw [List.take_append_of_le_length (by rw [insF_len]; simp; omega), List.take_of_length_le (by rw [insF_len]; simp; omega)]
theorem Own.insRow {N : Nat} {H : AH} {s : AV} {L : List Ins} (h : Own N 3 29 H s (insF L)) : Row H s 3 (L.map insC) := Own.row (by omega) h (insC_len L)
theorem Own.capOk {N : Nat} {H : AH} {s : AV} {L : List Ins} (h : Own N 3 29 H s (insF L)) (h0 : 0 < L.length) : CapOk s := by
  rcases h with ⟨_, h⟩ | ⟨b, n, c, B, rfl, hc, _⟩
  · have := insF_len L
    rw [h] at this
    simp at this
    omega
  · exact ⟨_, n, c, rfl, hc.imp id fun ⟨m, h1, h2, _⟩ => ⟨m, h1, h2⟩⟩
theorem leftP_ok {op a b x : Int} (ha : InI a) (hb : InI b) (h : leftP op a b = some x) : InI x := by
  have hw : ∀ n : Int, InI (IntKind.i64.wrap n) := fun n => by rw [wrap_i]; unfold InI; omega
  have ht : ∀ c : Bool, InI (truthI c) := fun c => by cases c <;> (unfold truthI InI; simp)
  unfold leftP at h
  by_cases h7 : op = 7
  · rw [if_pos h7] at h; cases h; exact hw _
  rw [if_neg h7] at h
  by_cases h8 : op = 8
  · rw [if_pos h8] at h; cases h; exact hw _
  rw [if_neg h8] at h
  by_cases h9 : op = 9
  · rw [if_pos h9] at h; cases h; exact hw _
  rw [if_neg h9] at h
  by_cases h12 : op = 12
  · rw [if_pos h12] at h; cases h; exact ht _
  rw [if_neg h12] at h
  by_cases h13 : op = 13
  · rw [if_pos h13] at h; cases h; exact ht _
  rw [if_neg h13] at h
  by_cases h14 : op = 14
  · rw [if_pos h14] at h; cases h; exact ht _
  rw [if_neg h14] at h
  by_cases hb0 : b = 0
  · rw [if_pos hb0] at h; cases h
  rw [if_neg hb0] at h
  by_cases h10 : op = 10
  · rw [if_pos h10] at h; cases h; exact hw _
  rw [if_neg h10] at h
  by_cases h11 : op = 11
  · rw [if_pos h11] at h
    cases h
    unfold InI at *
    have h1 : (a.tmod b).natAbs ≤ a.natAbs := by rw [Int.natAbs_tmod]; exact Nat.mod_le _ _
    by_cases h0 : 0 ≤ a
    · have := Int.tmod_nonneg b h0
      omega
    · have h2 := Int.tmod_nonneg b (show 0 ≤ -a by omega)
      rw [Int.neg_tmod] at h2
      omega
  rw [if_neg h11] at h
  cases h
theorem ok_I0 : I0.Ok := ⟨by unfold InI I0; simp, by unfold InI I0; simp, by unfold InI I0; simp⟩
theorem Plain.at {L : List Ins} (P : Plain L) (p : Nat) : (insAt L p).Ok := by
  unfold insAt
  cases h : L[p]? with
  | none => exact ok_I0
  | some i => exact P.ok i (List.mem_of_getElem? h)
theorem Plain.jAt {L : List Ins} (P : Plain L) (T : Nat → Bool) (p : Nat) : (Go.Proofs.YthiflgncldmkjaaDoor.jAt T L p).Ok := by
  unfold Go.Proofs.YthiflgncldmkjaaDoor.jAt
  split
  · exact ok_I0
  · exact P.at _
theorem push_ok {n : Int} (h : InI n) : (pushI n).Ok := ⟨by unfold InI pushI; simp, h, by unfold InI pushI; simp⟩
theorem put_ok {R T : Nat → Bool} {L : List Ins} (P : Plain L) (p : Nat) : ∀ i ∈ (ruleP R T L p).put, i.Ok := by
  have hw : ∀ n : Int, InI (IntKind.i64.wrap n) := fun n => by rw [wrap_i]; unfold InI; omega
  have ht : ∀ c : Bool, InI (truthI c) := fun c => by cases c <;> (unfold truthI InI; simp)
  have one : ∀ {x : Ins} {a n : Nat}, x.Ok → ∀ i ∈ (⟨a, n, [x]⟩ : Chg).put, i.Ok := fun h i hi => by
    simp at hi
    subst hi
    exact h
  have zero : ∀ {a n : Nat}, ∀ i ∈ (⟨a, n, []⟩ : Chg).put, i.Ok := fun i hi => by simp at hi
  let M : Chg → Prop := fun X => ∀ i ∈ X.put, i.Ok
  have hi := P.at p
  have hj := P.jAt T p
  have single : M (singleP R L p (insAt L p)) := by
    unfold singleP
    refine chg_ite (fun _ => zero) fun _ => chg_ite (fun _ => zero) fun _ => chg_ite (fun _ => one ⟨by unfold InI; simp, by unfold InI; simp, by unfold InI; simp⟩) fun _ => chg_ite (fun _ => one ⟨hi.op, (P.at _).n, by unfold InI; simp⟩) fun _ => zero
  have pair : M (pairP (insAt L p) (jAt T L p) (kAt T L p)) := by
    unfold pairP
    refine chg_ite (fun _ => one (push_ok (hw _))) fun _ => chg_ite (fun _ => one (push_ok (ht _))) fun _ => chg_ite (fun h => one (push_ok ?_)) fun _ => chg_ite (fun _ => zero) fun _ => chg_ite (fun _ => zero) fun _ => chg_ite (fun _ => zero) fun _ => chg_ite (fun _ => zero) fun _ =>
      chg_ite (fun _ => one ⟨by unfold InI; simp, hj.n, by unfold InI; simp⟩) fun _ => chg_ite (fun _ => zero) fun _ => chg_ite (fun _ => zero) fun _ => chg_ite (fun h => one ⟨by unfold InI; simp, hi.n, ?_⟩) fun _ => zero
    · cases hl : leftP (kAt T L p).op (insAt L p).n (jAt T L p).n with
      | none => rw [hl] at h; simp at h
      | some x => exact leftP_ok hi.n hj.n hl
    · obtain ⟨h1, h2, h3, h4⟩ := h
      have e1 := insAt_some h1 (by omega)
      have e2 := (jAt_some (T := T) (L := L) (p := p) (by rw [h2]; omega)).2
      have c1 := P.clear _ (List.mem_of_getElem? e1) h1
      have c2 := P.clear _ (List.mem_of_getElem? e2) h2
      unfold InI
      simp only
      omega
  unfold ruleP
  exact chg_ite (M := M) (fun _ => single) fun _ => pair
end Go.Proofs.YthiflgncldmkjaaDoor
set_option linter.unusedVariables false
set_option linter.unusedSimpArgs false
set_option maxRecDepth 100000
namespace Go.Proofs.YthiflgncldmkjaaDoor
open Go.Ri

theorem insF_set {L : List Ins} {i : Nat} {x : Ins} (hi : i < L.length) (hx : L[i] = x) (q : Int) : ((L.map insC).set i ((insC x).set 1 (.int .i64 q))).flatten = insF (L.set i ⟨x.op, q, x.m⟩) := by
  unfold insF
  rw [List.map_set]
  rfl
structure ID (N : Nat) (H : AH) (out : AV) (A : List Ins) (p n m : Nat) (i : Nat) (t : St) : Prop where
  t1 : t.1 1 = .int .i64 (p : Nat)
  t5 : t.1 5 = .ptr (some (H.next, 0))
  t7 : t.1 7 = out
  t8 : t.1 8 = .int .i64 ((n : Int) - (m : Int))
  t37 : t.1 37 = out
  t38 : t.1 38 = .int .i64 (A.length : Nat)
  t39 : t.1 39 = .int .i64 (i : Nat)
  ext : Ext N H t.2
  lt : H.next < t.2.next
  blk : ∃ r s, t.2.m H.next = some ⟨[r, .int .i64 (n : Nat), s], 108, true⟩
  own : Own N 3 29 t.2 out (insF ((A.take i).map (mvI p n m) ++ A.drop i))
set_option maxHeartbeats 4000000 in
theorem done_loop (d : Nat) {N : Nat} {H : AH} (hw : H.wf) (hN : N ≤ H.next) {out : AV} {A : List Ins} {p n m : Nat} (hA : A.length ≤ 70000) (hp : p + n ≤ 70000) (hm : m ≤ n) (hn : 1 ≤ n) (hok : ∀ i ∈ A, i.Ok) (hat : ∀ b, At out b → b ≠ H.next) {T : Tm} {H1 : AH} (h0 : ID N H out A p n m 0 (T, H1)) :
    Ret (Ri.iter big (F97_L2 (RT (d + 1)) (Ri.iter big)) (T, H1)) fun r => r.1 = .exit 0 ∧ ID N H out A p n m A.length r.2 := by
  refine Ret.upTo (n := A.length) (ID N H out A p n m) (by unfold big; omega) h0 ?_ ?_
  · rintro i ⟨T1, H2⟩ hi ⟨t1, t5, t7, t8, t37, t38, t39, hx, hlt, ⟨br, bs, hb⟩, hown⟩
    simp only at t1 t5 t7 t8 t37 t38 t39 hx hlt hb hown
    have hcmp : decide (((i : Nat) : Int) < ((A.length : Nat) : Int)) = true := decide_eq_true (by omega)
    have hl0 : ((A.take i).map (mvI p n m) ++ A.drop i).length = A.length := by simp; omega
    have hget : ((A.take i).map (mvI p n m) ++ A.drop i)[i]'(by omega) = A[i] := by
      rw [List.getElem_append_right (by simp; omega)]
      simp [Nat.min_eq_left (Nat.le_of_lt hi)]
    have hstep : ∀ x : Ins, x = mvI p n m A[i] → ((A.take i).map (mvI p n m) ++ A.drop i).set i x = (A.take (i + 1)).map (mvI p n m) ++ A.drop (i + 1) := by
      rintro x rfl
      rw [List.set_append_right _ _ (by simp; omega)]
      have h1 : i - ((A.take i).map (mvI p n m)).length = 0 := by simp; omega
      rw [h1, List.drop_eq_getElem_cons hi, List.set_cons_zero, List.take_succ_eq_append_getElem hi, List.map_append, List.append_assoc]
      rfl
    have hsame : mvI p n m A[i] = A[i] → (A.take i).map (mvI p n m) ++ A.drop i = (A.take (i + 1)).map (mvI p n m) ++ A.drop (i + 1) := by
      intro h
      rw [List.drop_eq_getElem_cons hi, List.take_succ_eq_append_getElem hi, List.map_append, List.append_assoc]
      simp only [List.map_cons, List.map_nil, h]
      rfl
    obtain ⟨bo, Bo, hao, hNo, hbo, hBo, hrw, hle, hcut, hid, hset⟩ := hown.el (by omega) (insC_len _) hx.wf (i := i) (by rw [List.length_map]; omega)
    simp only [List.getElem_map, hget] at hcut hset
    have hbn : bo ≠ H.next := hat bo hao
    have hok1 := hok A[i] (List.getElem_mem _)
    have h101 := jumps_spec d (H2.new (insC A[i]) 29) A[i]
    have hi2 := fun q : Int => hset 1 (.int .i64 q) (by omega)
    have hin : insC A[i] = [.int .i64 A[i].op, .int .i64 A[i].n, .int .i64 A[i].m] := rfl
    have n1 : ¬ bo = H2.next := by omega
    have n2 : ¬ bo = H2.next + 1 := by omega
    have n3 : ¬ H.next = H2.next := by omega
    have n4 : ¬ H.next = H2.next + 1 := by omega
    have hle' : (i * 3 + 3 ≤ Bo.cells.length) = True := eq_true hle
    have hl1 : (i * 3 + 1 < Bo.cells.length) = True := eq_true (by omega)
    have hB1 : Bo.cells[i * 3 + 1]? = some (.int .i64 A[i].n) := by rw [cut_get hcut (by omega)]; rfl
    have hx2 : Ext N H ((H2.new (insC A[i]) 29).new (insC A[i]) 29) := (hx.new _ _).new _ _
    have hown2 : Own N 3 29 ((H2.new (insC A[i]) 29).new (insC A[i]) 29) out (insF ((A.take i).map (mvI p n m) ++ A.drop i)) := (hown.new hx.wf _ _).new (hx.new _ _).wf _ _
    have hwi := wrapS (i := i) (by omega)
    have hpn : IntKind.i64.wrap (((p : Nat) : Int) + ((n : Nat) : Int)) = ((p + n : Nat) : Int) := by rw [wrap_id (by unfold InI; omega)]; omega
    rw [hin] at hcut h101 hx2 hown2
    have hblk2 : (((H2.new [.int .i64 A[i].op, .int .i64 A[i].n, .int .i64 A[i].m] 29).new [.int .i64 A[i].op, .int .i64 A[i].n, .int .i64 A[i].m] 29)).m H.next = some ⟨[br, .int .i64 (n : Nat), bs], 108, true⟩ := by simp [n3, n4, hb]
    -- a target is moved: the same written into the heap with the two copies
    have hwr : ∀ q : Int, ⟨A[i].op, q, A[i].m⟩ = mvI p n m A[i] → Own N 3 29 ((((H2.new [.int .i64 A[i].op, .int .i64 A[i].n, .int .i64 A[i].m] 29).new [.int .i64 A[i].op, .int .i64 A[i].n, .int .i64 A[i].m] 29)).put bo ⟨Bo.cells.set (i * 3 + 1) (.int .i64 q), Bo.elem, true⟩) out (insF ((A.take (i + 1)).map (mvI p n m) ++ A.drop (i + 1))) := by
      intro q hq
      have h1 := hi2 q
      rw [insF_set (by omega) hget, hrw] at h1
      rw [hstep _ hq] at h1
      refine h1.mono fun b hb' c e => ?_
      have := hao.one ⟨hb', c, e⟩
      subst this
      simp
    have hput : ∀ B, Ext N H ((((H2.new [.int .i64 A[i].op, .int .i64 A[i].n, .int .i64 A[i].m] 29).new [.int .i64 A[i].op, .int .i64 A[i].n, .int .i64 A[i].m] 29)).put bo B) := fun B => hx2.put hNo (by simp only [new_next]; omega) B
    have hbp : ∀ B, ((((H2.new [.int .i64 A[i].op, .int .i64 A[i].n, .int .i64 A[i].m] 29).new [.int .i64 A[i].op, .int .i64 A[i].n, .int .i64 A[i].m] 29)).put bo B).m H.next = some ⟨[br, .int .i64 (n : Nat), bs], 108, true⟩ := fun B => by
      rw [put_m, if_neg (fun e => hbn e.symm)]
      exact hblk2
    unfold F97_L2
    by_cases hj : isJ A[i]
    · rw [decide_eq_true hj] at h101
      by_cases hge : A[i].n ≥ ((p + n : Nat) : Int)
      · have hq : IntKind.i64.wrap (A[i].n - (((n : Nat) : Int) - ((m : Nat) : Int))) = A[i].n - n + m := by
          have := hok1.n
          unfold InI at this
          rw [wrap_id (by unfold InI; omega)]
          omega
        simp -implicitDefEqProofs only [go_sem, Nat.reduceAdd, Nat.reduceMul, Nat.reduceLT, Nat.reduceLeDiff, Nat.reduceEqDiff, Nat.reduceBEq, reduceCtorEq, Int.reduceLT, Int.reduceLE, Int.reduceEq, Int.reduceGT, Int.reduceGE, Int.reduceToNat, Int.reduceNeg, t1, t5, t7, t8, t37, t38, t39, hcmp, hid, hBo, hle', hcut, new_put, h101, n1, n2, n3, n4, hb, hpn, decide_eq_true hge, hB1, hq, hrw, hl1, F97_J0, F97_J1, hwi]
        refine .mk (.inl ⟨rfl, ?_, ?_, ?_, ?_, ?_, ?_, ?_, hput _, by simp only [put_next, new_next]; omega, ⟨br, bs, hbp _⟩, hwr _ ?_⟩)
        · simp -implicitDefEqProofs only [go_sem, Nat.reduceEqDiff, Nat.reduceBEq, reduceCtorEq, t1]
        · simp -implicitDefEqProofs only [go_sem, Nat.reduceEqDiff, Nat.reduceBEq, reduceCtorEq, t5]
        · simp -implicitDefEqProofs only [go_sem, Nat.reduceEqDiff, Nat.reduceBEq, reduceCtorEq, t7]
        · simp -implicitDefEqProofs only [go_sem, Nat.reduceEqDiff, Nat.reduceBEq, reduceCtorEq, t8]
        · simp -implicitDefEqProofs only [go_sem, Nat.reduceEqDiff, Nat.reduceBEq, reduceCtorEq, t37]
        · simp -implicitDefEqProofs only [go_sem, Nat.reduceEqDiff, Nat.reduceBEq, reduceCtorEq, t38]
        · simp -implicitDefEqProofs only [go_sem, Nat.reduceEqDiff, Nat.reduceBEq, reduceCtorEq]
        · unfold mvI mvP
          rw [if_pos hj, if_neg (by omega), if_neg (by omega)]
      · by_cases hgt : A[i].n > ((p : Nat) : Int)
        · simp -implicitDefEqProofs only [go_sem, Nat.reduceAdd, Nat.reduceMul, Nat.reduceLT, Nat.reduceLeDiff, Nat.reduceEqDiff, Nat.reduceBEq, reduceCtorEq, Int.reduceLT, Int.reduceLE, Int.reduceEq, Int.reduceGT, Int.reduceGE, Int.reduceToNat, Int.reduceNeg, t1, t5, t7, t8, t37, t38, t39, hcmp, hid, hBo, hle', hcut, new_put, h101, n1, n2, n3, n4, hb, hpn, decide_eq_false hge, decide_eq_true hgt, hB1, hrw, hl1, F97_J0, F97_J1, hwi]
          refine .mk (.inl ⟨rfl, ?_, ?_, ?_, ?_, ?_, ?_, ?_, hput _, by simp only [put_next, new_next]; omega, ⟨br, bs, hbp _⟩, hwr _ ?_⟩)
          · simp -implicitDefEqProofs only [go_sem, Nat.reduceEqDiff, Nat.reduceBEq, reduceCtorEq, t1]
          · simp -implicitDefEqProofs only [go_sem, Nat.reduceEqDiff, Nat.reduceBEq, reduceCtorEq, t5]
          · simp -implicitDefEqProofs only [go_sem, Nat.reduceEqDiff, Nat.reduceBEq, reduceCtorEq, t7]
          · simp -implicitDefEqProofs only [go_sem, Nat.reduceEqDiff, Nat.reduceBEq, reduceCtorEq, t8]
          · simp -implicitDefEqProofs only [go_sem, Nat.reduceEqDiff, Nat.reduceBEq, reduceCtorEq, t37]
          · simp -implicitDefEqProofs only [go_sem, Nat.reduceEqDiff, Nat.reduceBEq, reduceCtorEq, t38]
          · simp -implicitDefEqProofs only [go_sem, Nat.reduceEqDiff, Nat.reduceBEq, reduceCtorEq]
          · unfold mvI mvP
            rw [if_pos hj, if_neg (by omega), if_pos (by omega)]
        · simp -implicitDefEqProofs only [go_sem, Nat.reduceAdd, Nat.reduceMul, Nat.reduceLT, Nat.reduceLeDiff, Nat.reduceEqDiff, Nat.reduceBEq, reduceCtorEq, Int.reduceLT, Int.reduceLE, Int.reduceEq, Int.reduceGT, Int.reduceGE, Int.reduceToNat, Int.reduceNeg, t1, t5, t7, t8, t37, t38, t39, hcmp, hid, hBo, hle', hcut, new_put, h101, n1, n2, n3, n4, hb, hpn, decide_eq_false hge, decide_eq_false hgt, F97_J0, F97_J1, hwi]
          refine .mk (.inl ⟨rfl, ?_, ?_, ?_, ?_, ?_, ?_, ?_, hx2, by simp only [new_next]; omega, ⟨br, bs, hblk2⟩, ?_⟩)
          · simp -implicitDefEqProofs only [go_sem, Nat.reduceEqDiff, Nat.reduceBEq, reduceCtorEq, t1]
          · simp -implicitDefEqProofs only [go_sem, Nat.reduceEqDiff, Nat.reduceBEq, reduceCtorEq, t5]
          · simp -implicitDefEqProofs only [go_sem, Nat.reduceEqDiff, Nat.reduceBEq, reduceCtorEq, t7]
          · simp -implicitDefEqProofs only [go_sem, Nat.reduceEqDiff, Nat.reduceBEq, reduceCtorEq, t8]
          · simp -implicitDefEqProofs only [go_sem, Nat.reduceEqDiff, Nat.reduceBEq, reduceCtorEq, t37]
          · simp -implicitDefEqProofs only [go_sem, Nat.reduceEqDiff, Nat.reduceBEq, reduceCtorEq, t38]
          · simp -implicitDefEqProofs only [go_sem, Nat.reduceEqDiff, Nat.reduceBEq, reduceCtorEq]
          · rw [← hsame (by unfold mvI mvP; rw [if_pos hj, if_pos (by omega)])]
            exact hown2
    · rw [decide_eq_false hj] at h101
      simp -implicitDefEqProofs only [go_sem, Nat.reduceAdd, Nat.reduceMul, Nat.reduceLT, Nat.reduceLeDiff, Nat.reduceEqDiff, Nat.reduceBEq, reduceCtorEq, Int.reduceLT, Int.reduceLE, Int.reduceEq, Int.reduceGT, Int.reduceGE, Int.reduceToNat, Int.reduceNeg, t1, t5, t7, t8, t37, t38, t39, hcmp, hid, hBo, hle', hcut, new_put, h101, F97_J1, hwi]
      refine .mk (.inl ⟨rfl, ?_, ?_, ?_, ?_, ?_, ?_, ?_, hx2, by simp only [new_next]; omega, ⟨br, bs, hblk2⟩, ?_⟩)
      · simp -implicitDefEqProofs only [go_sem, Nat.reduceEqDiff, Nat.reduceBEq, reduceCtorEq, t1]
      · simp -implicitDefEqProofs only [go_sem, Nat.reduceEqDiff, Nat.reduceBEq, reduceCtorEq, t5]
      · simp -implicitDefEqProofs only [go_sem, Nat.reduceEqDiff, Nat.reduceBEq, reduceCtorEq, t7]
      · simp -implicitDefEqProofs only [go_sem, Nat.reduceEqDiff, Nat.reduceBEq, reduceCtorEq, t8]
      · simp -implicitDefEqProofs only [go_sem, Nat.reduceEqDiff, Nat.reduceBEq, reduceCtorEq, t37]
      · simp -implicitDefEqProofs only [go_sem, Nat.reduceEqDiff, Nat.reduceBEq, reduceCtorEq, t38]
      · simp -implicitDefEqProofs only [go_sem, Nat.reduceEqDiff, Nat.reduceBEq, reduceCtorEq]
      · rw [← hsame (by unfold mvI; rw [if_neg hj])]
        exact hown2
  · rintro ⟨T1, H2⟩ ⟨t1, t5, t7, t8, t37, t38, t39, hx, hlt, hb, hown⟩
    simp only at t1 t5 t7 t8 t37 t38 t39 hx hlt hb hown
    have hcmp : decide (((A.length : Nat) : Int) < ((A.length : Nat) : Int)) = false := decide_eq_false (by omega)
    unfold F97_L2
    simp -implicitDefEqProofs only [go_sem, Nat.reduceAdd, Nat.reduceMul, Nat.reduceLT, Nat.reduceLeDiff, Nat.reduceEqDiff, Nat.reduceBEq, reduceCtorEq, Int.reduceLT, Int.reduceLE, Int.reduceEq, Int.reduceGT, Int.reduceGE, Int.reduceToNat, Int.reduceNeg, t38, t39, hcmp]
    refine .mk ⟨by simp, rfl, ?_, ?_, ?_, ?_, ?_, ?_, ?_, hx, hlt, hb, hown⟩
    · simp -implicitDefEqProofs only [go_sem, Nat.reduceEqDiff, Nat.reduceBEq, reduceCtorEq, t1]
    · simp -implicitDefEqProofs only [go_sem, Nat.reduceEqDiff, Nat.reduceBEq, reduceCtorEq, t5]
    · simp -implicitDefEqProofs only [go_sem, Nat.reduceEqDiff, Nat.reduceBEq, reduceCtorEq, t7]
    · simp -implicitDefEqProofs only [go_sem, Nat.reduceEqDiff, Nat.reduceBEq, reduceCtorEq, t8]
    · simp -implicitDefEqProofs only [go_sem, Nat.reduceEqDiff, Nat.reduceBEq, reduceCtorEq, t37]
    · simp -implicitDefEqProofs only [go_sem, Nat.reduceEqDiff, Nat.reduceBEq, reduceCtorEq, t38]
    · simp -implicitDefEqProofs only [go_sem, Nat.reduceEqDiff, Nat.reduceBEq, reduceCtorEq, t39]

theorem insF_drop (L : List Ins) (n : Nat) : ((L.map insC).drop n).flatten = insF (L.drop n) := by
  unfold insF
  rw [List.map_drop]
theorem Row.from_cut {H : AH} {s : AV} {k : Nat} {l : List (List AV)} (h : Row H s k l) (hc : ∃ p n c, s = .slice (some p) n c ∧ (c = .op k ∨ ∃ m, c = .kn m ∧ n ≤ m)) {a : Nat} (ha : a ≤ l.length) :
    ∃ v, slSl s k (some (.int .i64 (a : Nat))) none none = some v ∧ Row H v k (l.drop a) := by
  obtain ⟨p, m, c, rfl, hcap⟩ := hc
  have hlen : ∀ x ∈ l.drop a, x.length = k := fun x hx => h.len x (List.mem_of_mem_drop hx)
  have hll : (l.drop a).length = l.length - a := by simp
  rcases h.is with ⟨e, _⟩ | ⟨q, c', e, hr⟩
  · cases e
  · cases e
    have hb : bnds l.length c.known (some (.int .i64 (a : Nat))) none none = some (a, l.length, c.known) := by
      unfold bnds
      simp only
      rw [bnd_nat .i64 ha]
      rfl
    rw [slSl_ptr _ _ _ _ _ _ _ (by rcases hcap with rfl | ⟨m, rfl, _⟩; exact .inl rfl; exact .inr rfl), hb]
    obtain ⟨b, o⟩ := p
    simp only [Option.bind_some, Option.some.injEq]
    refine ⟨_, rfl, ?_⟩
    rcases hr with rfl | ⟨b', o', B, e, hB, hle, hat⟩
    · have : a = 0 := by simpa using ha
      subst this
      simp only [cutAt, if_pos rfl]
      exact ⟨by simp, .inr ⟨_, _, rfl, .inl rfl⟩⟩
    · cases e
      have hak : a * k ≤ l.length * k := Nat.mul_le_mul_right _ ha
      unfold cutAt
      by_cases h0 : a = 0
      · subst h0
        rw [if_pos rfl]
        refine ⟨hlen, .inr ⟨some (b, o), capOf c.known k, by rw [List.drop_zero], .inr ⟨b, o, B, rfl, hB, by simpa using hle, fun i hi => ?_⟩⟩⟩
        have := hat i (by simpa using hi)
        simpa using this
      · rw [if_neg h0]
        by_cases hlt : a < l.length
        · rw [if_pos hlt]
          refine ⟨hlen, .inr ⟨_, _, by rw [hll], .inr ⟨b, o + a * k, B, rfl, hB, ?_, fun i hi => ?_⟩⟩⟩
          · rw [hll, Nat.sub_mul]
            omega
          · rw [hll] at hi
            have := hat (a + i) (by omega)
            rw [Nat.add_mul, ← Nat.add_assoc] at this
            rw [this]
            simp
        · rw [if_neg hlt]
          exact ⟨hlen, .inl ⟨rfl, List.drop_of_length_le (by omega)⟩⟩
set_option maxHeartbeats 2000000 in
theorem done_spec (d : Nat) {H : AH} (hw : H.wf) {k : Nat} {s : AV} {L : List Ins} {R T : List Bool} (S : Sight H k s L R T) (P : Plain L) {N : Nat} (hN : N ≤ H.next) (hown : Own N 3 29 H s (insF L)) {a : Nat} {M : Nat} {v : AV} {c : Chg} (hc : ChgAt M H v c)
    (hn : 1 ≤ c.n) (hp : a + c.n ≤ L.length) (hm : c.put.length ≤ c.n) (hput : ∀ i ∈ c.put, i.Ok) :
    Ret (RT (d + 2) 97 [.ptr (some (k, 0)), .int .i64 (a : Nat), v] H) fun r => Own N 3 29 r.2 r.1 (insF (doneP L a c.n c.put)) ∧ Ext N H r.2 := by
  rw [R97]
  unfold F97
  have hL := P.few
  obtain ⟨s2, rfl, hrow2, _⟩ := hc
  obtain ⟨rr, tt, hk, _, _⟩ := S.blk
  have hx1 : Ext H.next H (H.new [.int .i64 (c.rule : Nat), .int .i64 (c.n : Nat), s2] 108) := (Ext.refl hw).new _ _
  have hkn : ¬ k = H.next := by have := hw _ _ hk; omega
  have S1 := S.mono (hx1.sub hw)
  have hown1 : Own N 3 29 (H.new [.int .i64 (c.rule : Nat), .int .i64 (c.n : Nat), s2] 108) s (insF L) := hown.new hw _ _
  obtain ⟨b, hab, hcut, hownc⟩ := hown1.cut3 (n := L.length) (j := a) (insF_len L) (by omega) (by omega) (by omega) .i64
  rw [insF_take L a (by omega)] at hownc
  obtain ⟨hbB, hbH, hbN⟩ := hown.at hab
  have hblt : b < H.next := hw _ _ hbH
  have hrow1 := hrow2.mono (hx1.sub hw)
  obtain ⟨hpl, hps⟩ := hrow1.src
  rw [List.length_map] at hpl hps
  obtain ⟨vt, htl, htr⟩ := Row.from_cut S1.row S1.cap (a := a + c.n) (by rw [List.length_map]; exact hp)
  have hbd : ∀ x : Nat, x ≤ 70000 → (x * 3) * 24 ≤ 140737488355328 * 3 := fun x hx => by omega
  have hpl1 : c.put.length ≤ 65536 := by omega
  obtain ⟨⟨v8, H8⟩, hap8, hown8, hx8, hcase⟩ := app_full (x := s2) (ds := insF c.put) ysl22 ysl22.seq hownc hx1.wf (Nat.le_trans hN hx1.next) hpl hps (insF_len _) (by rw [insF_len, insF_len, ← Nat.add_mul]; exact hbd _ (by simp; omega))
  simp only at hown8 hx8 hcase
  simp only [new_next] at hx8
  have hk8 : H8.m k = some ⟨[s, rr, tt], 148, true⟩ := by
    rw [hx8.low k (by have := hw _ _ hk; omega)]
    simp [hkn, hk]
  have hb8 : H8.m H.next = some ⟨[.int .i64 (c.rule : Nat), .int .i64 (c.n : Nat), s2], 108, true⟩ := by
    rw [hx8.low _ (Nat.lt_succ_self _)]
    simp
  have htr8 := htr.mono (hx8.sub hx1.wf)
  obtain ⟨htl8, hts8⟩ := htr8.src
  rw [insF_drop] at hts8
  rw [List.length_drop, List.length_map] at htl8 hts8
  have hlim : ∀ x y : Nat, x ≤ 140000 → y ≤ 140000 → (x * 3 + y * 3) * 24 ≤ 140737488355328 * 3 := fun x y hx hy => by omega
  have hdl : (insF (L.drop (a + c.n))).length = (L.length - (a + c.n)) * 3 := by rw [insF_len, List.length_drop]
  -- the second time
  have second : Ret (aAppend Tryd.prog 22 22 v8 vt H8) fun r => Own N 3 29 r.2 r.1 (insF (L.take a ++ c.put ++ L.drop (a + c.n))) ∧ Ext (H.next + 1) H8 r.2 ∧ ∀ x, At r.1 x → x = b ∨ H.next < x := by
    have hcs : insF (L.take a) ++ insF c.put ++ insF (L.drop (a + c.n)) = insF (L.take a ++ c.put ++ L.drop (a + c.n)) := by rw [insF_append, insF_append]
    have lim : ((insF (L.take a) ++ insF c.put).length + (insF (L.drop (a + c.n))).length) * 24 ≤ 140737488355328 * 3 := by
      rw [List.length_append, insF_len, insF_len, insF_len, ← Nat.add_mul]
      exact hlim _ _ (by simp; omega) (by simp; omega)
    rcases hcase with ⟨h0, e⟩ | hown8'
    · cases e
      refine (app_full ysl22 ysl22.seq hown8 hx8.wf (Nat.le_trans hN (by have := hx8.next; omega)) htl8 hts8 hdl lim).mono ?_
      rintro ⟨v9, H9⟩ ⟨h1, h2, h3⟩
      simp only at h1 h2 h3
      rw [hcs] at h1 h3
      refine ⟨h1, h2.less hx8.next, fun x hx => ?_⟩
      rcases h3 with ⟨_, e⟩ | h3
      · cases e
        obtain ⟨_, _, e⟩ := hx
        cases e
        exact .inl rfl
      · obtain ⟨_, _, hh⟩ := h3.at hx
        have := hx8.next
        exact .inr (by omega)
    · refine (app_own ysl22 ysl22.seq hown8' (Ext.self hx8.wf hx8.next) htl8 hts8 hdl lim).mono ?_
      rintro ⟨v9, H9⟩ ⟨h1, h2, _⟩
      simp only at h1 h2
      rw [hcs] at h1
      refine ⟨h1.low (Nat.le_trans hN (Nat.le_succ _)), h2, fun x hx => ?_⟩
      obtain ⟨_, _, hh⟩ := h1.at hx
      exact .inr hh
  obtain ⟨⟨v9, H9⟩, hap9, hown9, hx9, hat9⟩ := second
  simp only at hown9 hx9 hat9
  have hb9 : H9.m H.next = some ⟨[.int .i64 (c.rule : Nat), .int .i64 (c.n : Nat), s2], 108, true⟩ := by
    rw [hx9.low _ (Nat.lt_succ_self _)]
    exact hb8
  have hwa : IntKind.i64.wrap (((a : Nat) : Int) + ((c.n : Nat) : Int)) = ((a + c.n : Nat) : Int) := by rw [wrap_id (by unfold InI; omega)]; omega
  have hws : IntKind.i64.wrap (((c.n : Nat) : Int) - ((c.put.length : Nat) : Int)) = ((c.n : Nat) : Int) - ((c.put.length : Nat) : Int) := wrap_id (by unfold InI; omega)
  have hpa : aLen Tryd.prog 22 s2 = some (.int .i64 (c.put.length : Nat)) := by rw [hrow2.alen ysl22.under, List.length_map]
  have hoa : aLen Tryd.prog 22 v9 = some (.int .i64 ((L.take a ++ c.put ++ L.drop (a + c.n)).length : Nat)) := by rw [(Own.insRow hown9).alen ysl22.under, List.length_map]
  have hkk : ((H.new [AV.int .i64 (c.rule : Nat), .int .i64 (c.n : Nat), s2] 108).m k) = some ⟨[s, rr, tt], 148, true⟩ := by simp [hkn, hk]
  have hAl : (L.take a ++ c.put ++ L.drop (a + c.n)).length ≤ 70000 := by simp; omega
  have hex9 : Ext N H H9 := ((hx1.trans hx8 (Nat.le_succ _)).trans hx9 (Nat.le_succ _)).less hN
  simp -implicitDefEqProofs only [go_sem, Nat.reduceAdd, Nat.reduceMul, Nat.reduceLT, Nat.reduceLeDiff, Nat.reduceEqDiff, Nat.reduceBEq, reduceCtorEq, Int.reduceLT, Int.reduceLE, Int.reduceEq, Int.reduceGT, Int.reduceGE, Int.reduceToNat, Int.reduceNeg, hk, hkn, hcut, hap8, hk8, hb8, hwa, htl, hap9, hb9, hpa, hws, hoa]
  refine Ret.then (done_loop d hw hN (out := v9) (A := L.take a ++ c.put ++ L.drop (a + c.n)) (p := a) (n := c.n) (m := c.put.length) hAl (by omega) hm hn (fun i hi => ?_) (fun x hx => ?_) ⟨?_, ?_, ?_, ?_, ?_, ?_, ?_, hex9, ?_, ⟨_, _, hb9⟩, ?_⟩) ?_
  · simp only [List.mem_append] at hi
    rcases hi with (hi | hi) | hi
    · exact P.ok i (List.mem_of_mem_take hi)
    · exact hput i hi
    · exact P.ok i (List.mem_of_mem_drop hi)
  · rcases hat9 x hx with rfl | h <;> omega
  · simp -implicitDefEqProofs only [go_sem, Nat.reduceEqDiff, Nat.reduceBEq, reduceCtorEq]
  · simp -implicitDefEqProofs only [go_sem, Nat.reduceEqDiff, Nat.reduceBEq, reduceCtorEq]
  · simp -implicitDefEqProofs only [go_sem, Nat.reduceEqDiff, Nat.reduceBEq, reduceCtorEq]
  · simp -implicitDefEqProofs only [go_sem, Nat.reduceEqDiff, Nat.reduceBEq, reduceCtorEq]
  · simp -implicitDefEqProofs only [go_sem, Nat.reduceEqDiff, Nat.reduceBEq, reduceCtorEq]
  · simp -implicitDefEqProofs only [go_sem, Nat.reduceEqDiff, Nat.reduceBEq, reduceCtorEq]
  · simp -implicitDefEqProofs only [go_sem, Nat.reduceEqDiff, Nat.reduceBEq, reduceCtorEq]
    rfl
  · exact hx9.next
  · simpa using hown9
  · rintro ⟨e, T2, H2⟩ ⟨rfl, _, _, t7, _, _, _, _, hx2, _, _, hown2⟩
    simp only at t7 hx2 hown2
    simp -implicitDefEqProofs only [go_sem, Nat.reduceAdd, Nat.reduceMul, Nat.reduceLT, Nat.reduceLeDiff, Nat.reduceEqDiff, Nat.reduceBEq, reduceCtorEq, Int.reduceLT, Int.reduceLE, Int.reduceEq, Int.reduceGT, Int.reduceGE, Int.reduceToNat, Int.reduceNeg, t7]
    refine .mk ⟨?_, hx2⟩
    rw [List.take_of_length_le (Nat.le_refl _), List.drop_of_length_le (Nat.le_refl _), List.append_nil] at hown2
    exact hown2
end Go.Proofs.YthiflgncldmkjaaDoor
set_option linter.unusedVariables false
set_option linter.unusedSimpArgs false
set_option maxRecDepth 100000
namespace Go.Proofs.YthiflgncldmkjaaDoor
open Go.Ri

theorem Snd.reach {l : List Code} {c : Code} (s : Snd l c) : ∀ a, Reach (bareC c.ins) a → a < c.ins.length := by
  obtain ⟨o, h, g⟩ := s
  intro a ha
  obtain ⟨x, hx, _⟩ := g.at_reach (Reach.ins (c := bareC c.ins) (c' := c) rfl ha)
  have := (List.getElem?_eq_some_iff.1 hx).1
  rw [g.len] at this
  exact this
structure IO1 (Hc : AH) (k : Nat) (s : AV) (L : List Ins) (i : Nat) (t : St) : Prop where
  t0 : t.1 0 = s
  t4 : t.1 4 = .ptr (some (k, 0))
  t5 : t.1 5 = .ptr (some (Hc.next, 0))
  t11 : t.1 11 = .int .i64 (L.length : Nat)
  t12 : t.1 12 = .int .i64 (i : Nat)
  ext : Ext Hc.next Hc t.2
  lt : Hc.next < t.2.next
  blk : ∃ x y, t.2.m Hc.next = some ⟨[.int .i64 0, x, y], 108, true⟩
  none : ∀ j, j < i → (fitP L j).rule = 0
def EO1 (Hc : AH) (k : Nat) (s : AV) (L : List Ins) (r : Ex × St) : Prop :=
  r.1 = .exit 0 ∧ r.2.1 0 = s ∧ r.2.1 4 = .ptr (some (k, 0)) ∧ r.2.1 5 = .ptr (some (Hc.next, 0)) ∧ Ext Hc.next Hc r.2.2 ∧ Hc.next < r.2.2.next ∧
    ((firstP L L.length 0 = none ∧ ∃ x y, r.2.2.m Hc.next = some ⟨[.int .i64 0, x, y], 108, true⟩) ∨
     ∃ i, i < L.length ∧ firstP L L.length 0 = some i ∧ r.2.1 6 = .int .i64 (i : Nat) ∧ ∃ x y M, r.2.2.m Hc.next = some ⟨[.int .i64 ((fitP L i).rule : Nat), x, y], 108, true⟩ ∧ ChgAt M r.2.2 (.agg [.int .i64 ((fitP L i).rule : Nat), x, y]) (fitP L i))
theorem search_loop (d : Nat) {Hc : AH} (hw : Hc.wf) {k : Nat} {s : AV} {L : List Ins} {R Tg : List Bool} (S : Sight Hc k s L R Tg) (hR : bAt R = reachL L) (hT : bAt Tg = targL L) (P : Plain L) {T : Tm} {H1 : AH} (h0 : IO1 Hc k s L 0 (T, H1)) :
    Ret (Ri.iter big (F73_L0 (RT (d + 4)) (Ri.iter big)) (T, H1)) (EO1 Hc k s L) := by
  have hL := P.few
  refine Ret.upTo (n := L.length) (IO1 Hc k s L) (by unfold big; omega) h0 ?_ ?_
  · rintro i ⟨T1, H2⟩ hi ⟨t0, t4, t5, t11, t12, hx, hlt, ⟨bx, bz, hb⟩, hnone⟩
    simp only at t0 t4 t5 t11 t12 hx hlt hb
    have hcmp : decide (((i : Nat) : Int) < ((L.length : Nat) : Int)) = true := decide_eq_true (by omega)
    obtain ⟨⟨v, H3⟩, h76, hx3, hc⟩ := fits_spec d hx.wf (S.mono (hx.sub hw)) P hi
    simp only at hx3 hc
    have hfit : ruleP (bAt R) (bAt Tg) L i = fitP L i := by unfold fitP; rw [hR, hT]
    rw [hfit] at hc
    obtain ⟨sv, rfl, hrow, hlow⟩ := id hc
    have hb3 : H3.m Hc.next = some ⟨[.int .i64 0, bx, bz], 108, true⟩ := by rw [hx3.low _ hlt]; exact hb
    have hlt3 : Hc.next < H3.next := Nat.lt_of_lt_of_le hlt hx3.next
    have hx4 : Ext Hc.next Hc (H3.put Hc.next ⟨[.int .i64 ((fitP L i).rule : Nat), .int .i64 ((fitP L i).n : Nat), sv], 108, true⟩) := (hx.trans hx3 (Nat.le_of_lt hlt)).put (Nat.le_refl _) hlt3 _
    have hrp := rule_pos (c := fitP L i)
    unfold F73_L0
    by_cases hr : (fitP L i).rule ≠ 0
    · rw [decide_eq_true hr] at hrp
      simp -implicitDefEqProofs only [go_sem, Nat.reduceAdd, Nat.reduceMul, Nat.reduceLT, Nat.reduceLeDiff, Nat.reduceEqDiff, Nat.reduceBEq, reduceCtorEq, Int.reduceLT, Int.reduceLE, Int.reduceEq, Int.reduceGT, Int.reduceGE, Int.reduceToNat, Int.reduceNeg, t0, t4, t5, t11, t12, hcmp, h76, hb3, hrp]
      refine .mk (.inr ⟨by simp, rfl, ?_, ?_, ?_, hx4, hlt3, .inr ⟨i, hi, firstP_at hr L.length 0 (Nat.zero_le _) (by omega) (fun r _ h => hnone r h), ?_, .int .i64 ((fitP L i).n : Nat), sv, H2.next, ?_, ?_⟩⟩)
      · simp -implicitDefEqProofs only [go_sem, Nat.reduceEqDiff, Nat.reduceBEq, reduceCtorEq, t0]
      · simp -implicitDefEqProofs only [go_sem, Nat.reduceEqDiff, Nat.reduceBEq, reduceCtorEq, t4]
      · simp -implicitDefEqProofs only [go_sem, Nat.reduceEqDiff, Nat.reduceBEq, reduceCtorEq, t5]
      · simp -implicitDefEqProofs only [go_sem, Nat.reduceEqDiff, Nat.reduceBEq, reduceCtorEq]
      · simp
      · exact hc.keep fun b B hb hB => by simp only [put_m]; rw [if_neg (by omega)]; exact hB
    · rw [decide_eq_false hr] at hrp
      have hr0 : (fitP L i).rule = 0 := Classical.byContradiction hr
      simp -implicitDefEqProofs only [go_sem, Nat.reduceAdd, Nat.reduceMul, Nat.reduceLT, Nat.reduceLeDiff, Nat.reduceEqDiff, Nat.reduceBEq, reduceCtorEq, Int.reduceLT, Int.reduceLE, Int.reduceEq, Int.reduceGT, Int.reduceGE, Int.reduceToNat, Int.reduceNeg, t0, t4, t5, t11, t12, hcmp, h76, hb3, hrp, wrapS (i := i) (by omega)]
      refine .mk (.inl ⟨rfl, ?_, ?_, ?_, ?_, ?_, hx4, hlt3, ⟨.int .i64 ((fitP L i).n : Nat), sv, ?_⟩, fun j hj => ?_⟩)
      · simp -implicitDefEqProofs only [go_sem, Nat.reduceEqDiff, Nat.reduceBEq, reduceCtorEq, t0]
      · simp -implicitDefEqProofs only [go_sem, Nat.reduceEqDiff, Nat.reduceBEq, reduceCtorEq, t4]
      · simp -implicitDefEqProofs only [go_sem, Nat.reduceEqDiff, Nat.reduceBEq, reduceCtorEq, t5]
      · simp -implicitDefEqProofs only [go_sem, Nat.reduceEqDiff, Nat.reduceBEq, reduceCtorEq, t11]
      · simp -implicitDefEqProofs only [go_sem, Nat.reduceEqDiff, Nat.reduceBEq, reduceCtorEq]
      · simp [hr0]
      · by_cases e : j = i
        · rw [e]; exact hr0
        · exact hnone j (by omega)
  · rintro ⟨T1, H2⟩ ⟨t0, t4, t5, t11, t12, hx, hlt, hb, hnone⟩
    simp only at t0 t4 t5 t11 t12 hx hlt hb
    have hcmp : decide (((L.length : Nat) : Int) < ((L.length : Nat) : Int)) = false := decide_eq_false (by omega)
    unfold F73_L0
    simp -implicitDefEqProofs only [go_sem, Nat.reduceAdd, Nat.reduceMul, Nat.reduceLT, Nat.reduceLeDiff, Nat.reduceEqDiff, Nat.reduceBEq, reduceCtorEq, Int.reduceLT, Int.reduceLE, Int.reduceEq, Int.reduceGT, Int.reduceGE, Int.reduceToNat, Int.reduceNeg, t11, t12, hcmp]
    refine .mk ⟨by simp, rfl, ?_, ?_, ?_, hx, hlt, .inl ⟨firstP_no _ _ fun r _ h => hnone r (by omega), hb⟩⟩
    · simp -implicitDefEqProofs only [go_sem, Nat.reduceEqDiff, Nat.reduceBEq, reduceCtorEq, t0]
    · simp -implicitDefEqProofs only [go_sem, Nat.reduceEqDiff, Nat.reduceBEq, reduceCtorEq, t4]
    · simp -implicitDefEqProofs only [go_sem, Nat.reduceEqDiff, Nat.reduceBEq, reduceCtorEq, t5]
theorem once_spec (d : Nat) {H : AH} (hw : H.wf) {N : Nat} (hN : N ≤ H.next) {s : AV} {l : List Code} {c : Code} (hs : Snd l c) (hok : ∀ i ∈ c.ins, i.Ok) (hown : Own N 3 29 H s (insF c.ins)) :
    Ret (RT (d + 5) 73 [s] H) fun r => Ext N H r.2 ∧ ((∃ L' v, onceP c.ins = some L' ∧ r.1 = .tuple [v, .bool true] ∧ Own N 3 29 r.2 v (insF L') ∧ ∀ i ∈ L', i.Ok) ∨ (onceP c.ins = none ∧ r.1 = .tuple [s, .bool false] ∧ Own N 3 29 r.2 s (insF c.ins))) := by
  rw [R73]
  unfold F73
  have P := hs.1.plain hok
  have hL := P.few
  have h0 := hs.1.some_
  have hrow : Row H s 3 (c.ins.map insC) := Own.insRow hown
  have hcap : CapOk s := Own.capOk hown h0
  obtain ⟨⟨v, Hc⟩, h75, hx, k, R, Tg, rfl, S, hR, hT⟩ := look_spec (d + 2) hw hrow hcap P hs.reach
  simp only at hx S
  have hal : aLen Tryd.prog 22 s = some (.int .i64 (c.ins.length : Nat)) := S.alen
  have hownc : Own N 3 29 Hc s (insF c.ins) := hown.keep hw hx.low
  have hxn : Ext Hc.next Hc (Hc.new [.int .i64 0, .int .i64 0, .slice none 0 (.kn 0)] 108) := (Ext.refl hx.wf).new _ _
  simp -implicitDefEqProofs only [go_sem, Nat.reduceAdd, Nat.reduceMul, Nat.reduceLT, Nat.reduceLeDiff, Nat.reduceEqDiff, Nat.reduceBEq, reduceCtorEq, Int.reduceLT, Int.reduceLE, Int.reduceEq, Int.reduceGT, Int.reduceGE, Int.reduceToNat, Int.reduceNeg, h75, hal]
  refine Ret.then (search_loop d hx.wf S hR hT P ⟨?_, ?_, ?_, ?_, ?_, hxn, by simp, ⟨.int .i64 0, .slice none 0 (.kn 0), ?_⟩, fun j hj => absurd hj (Nat.not_lt_zero _)⟩) ?_
  · simp -implicitDefEqProofs only [go_sem, Nat.reduceEqDiff, Nat.reduceBEq, reduceCtorEq]
  · simp -implicitDefEqProofs only [go_sem, Nat.reduceEqDiff, Nat.reduceBEq, reduceCtorEq]
  · simp -implicitDefEqProofs only [go_sem, Nat.reduceEqDiff, Nat.reduceBEq, reduceCtorEq]
  · simp -implicitDefEqProofs only [go_sem, Nat.reduceEqDiff, Nat.reduceBEq, reduceCtorEq]
  · simp -implicitDefEqProofs only [go_sem, Nat.reduceEqDiff, Nat.reduceBEq, reduceCtorEq]
    rfl
  · simp
  rintro ⟨e, T, H2⟩ ⟨rfl, t0, t4, t5, hx2, hlt, ⟨hno, x, y, hb⟩ | ⟨i, hi, hsome, t6, x, y, M, hb, hc⟩⟩
  · simp only at t0 t4 t5 hx2 hb
    simp -implicitDefEqProofs only [go_sem, Nat.reduceAdd, Nat.reduceMul, Nat.reduceLT, Nat.reduceLeDiff, Nat.reduceEqDiff, Nat.reduceBEq, reduceCtorEq, Int.reduceLT, Int.reduceLE, Int.reduceEq, Int.reduceGT, Int.reduceGE, Int.reduceToNat, Int.reduceNeg, t0, t5, hb]
    refine .mk ⟨(hx.trans hx2 hx.next).less hN, .inr ⟨by simp [onceP, hno], rfl, hownc.keep hx.wf hx2.low⟩⟩
  · simp only at t0 t4 t5 t6 hx2 hb hc
    obtain ⟨_, _, hr, _⟩ := firstP_some hsome
    obtain ⟨o, h, g⟩ := hs
    have St := fit_step g o hi hr
    have hr1 : decide ((((fitP c.ins i).rule : Nat) : Int) = 0) = false := decide_eq_false (by omega)
    have hpok := put_ok (R := reachL c.ins) (T := targL c.ins) P i
    obtain ⟨⟨v, H3⟩, h97, hown3, hx3⟩ := done_spec (d + 2) hx2.wf (S.mono (hx2.sub hx.wf)) P (Nat.le_trans hN (Nat.le_trans hx.next hx2.next)) (hownc.keep hx.wf hx2.low) hc St.pos St.bound St.small hpok
    simp only at hown3 hx3
    simp -implicitDefEqProofs only [go_sem, Nat.reduceAdd, Nat.reduceMul, Nat.reduceLT, Nat.reduceLeDiff, Nat.reduceEqDiff, Nat.reduceBEq, reduceCtorEq, Int.reduceLT, Int.reduceLE, Int.reduceEq, Int.reduceGT, Int.reduceGE, Int.reduceToNat, Int.reduceNeg, t0, t4, t5, t6, hb, hr1, h97]
    refine .mk ⟨((hx.trans hx2 hx.next).less hN).trans hx3 (Nat.le_refl _), .inl ⟨_, v, by simp [onceP, hsome], rfl, hown3, fun j hj => ?_⟩⟩
    -- what is made is as it must be
    unfold doneP at hj
    rw [List.mem_map] at hj
    obtain ⟨q, hq, rfl⟩ := hj
    have hqok : q.Ok := by
      simp only [List.mem_append] at hq
      rcases hq with (hq | hq) | hq
      · exact hok q (List.mem_of_mem_take hq)
      · exact hpok q hq
      · exact hok q (List.mem_of_mem_drop hq)
    have hb1 := St.bound
    have hb2 := St.small
    unfold mvI
    split
    · refine ⟨hqok.op, ?_, hqok.m⟩
      have := hqok.n
      unfold InI mvP at *
      simp only
      split
      · omega
      · split <;> omega
    · exact hqok
end Go.Proofs.YthiflgncldmkjaaDoor
set_option linter.unusedVariables false
set_option linter.unusedSimpArgs false
set_option maxRecDepth 100000
namespace Go.Proofs.YthiflgncldmkjaaDoor
open Go.Ri

def OwnCode (N : Nat) (H : AH) (x : List AV) (c : Code) : Prop := ∃ s, x = [s, .int .i64 c.cells, .int .i64 c.params, .bool c.answers] ∧ Own N 3 29 H s (insF c.ins) ∧ (∀ i ∈ c.ins, i.Ok) ∧ InI c.cells ∧ InI c.params
def OwnCodes (N : Nat) (H : AH) (v : AV) (l : List Code) : Prop := ∃ rows : List (List AV), Own N 4 24 H v rows.flatten ∧ (∀ x ∈ rows, x.length = 4) ∧ rows.length = l.length ∧ ∀ j (h1 : j < rows.length) (h2 : j < l.length), OwnCode N H rows[j] l[j]
theorem OwnCode.keep {N : Nat} {H H' : AH} {x : List AV} {c : Code} (h : OwnCode N H x c) (hs : ∀ b B, H.m b = some B → B.elem = 29 → H'.m b = some B) : OwnCode N H' x c := by
  obtain ⟨s, h1, h2, h3⟩ := h
  refine ⟨s, h1, ?_, h3⟩
  rcases h2 with h2 | ⟨b, n, c, B, rfl, hc, hcl, hb, hbe, r⟩
  · exact .inl h2
  · exact .inr ⟨b, n, c, B, rfl, hc, hcl, hs b B hb hbe, hbe, r⟩
theorem OwnCodes.keep {N : Nat} {H H' : AH} {v : AV} {l : List Code} (h : OwnCodes N H v l) (hw : H.wf) (hs : ∀ b, b < H.next → H'.m b = H.m b) : OwnCodes N H' v l := by
  obtain ⟨rows, h1, h2, h3, h4⟩ := h
  exact ⟨rows, h1.keep hw hs, h2, h3, fun j a b => (h4 j a b).keep fun b B hB _ => by rw [hs b (hw b B hB)]; exact hB⟩
theorem OwnCodes.row {N : Nat} {H : AH} {v : AV} {l : List Code} (h : OwnCodes N H v l) (hl : l.length ≤ 9223372036854775807) (hi : ∀ c ∈ l, c.ins.length ≤ 9223372036854775807) : CodesRow H v l := by
  obtain ⟨rows, h1, h2, h3, h4⟩ := h
  refine ⟨rows, Own.row (by omega) h1 h2, ⟨h3, hl⟩, fun j a b => ?_⟩
  obtain ⟨s, e, ho, hok, hc, hp⟩ := h4 j a b
  exact ⟨s, e, ⟨Own.insRow ho, hok⟩, hc, hp, hi _ (List.getElem_mem _)⟩
theorem OwnCodes.nil (N : Nat) (H : AH) : OwnCodes N H (.slice none 0 (.kn 0)) [] := ⟨[], Own.nil _ _ _ _, by simp, rfl, fun j h => absurd h (Nat.not_lt_zero _)⟩
theorem OwnCodes.more {N : Nat} {H0 H : AH} {v : AV} {l : List Code} {x : List AV} {c : Code} (h : OwnCodes N H v l) (he : Ext N H0 H) (hx : OwnCode N H x c) (hl : l.length ≤ 1000) :
    Ret (aAppend Tryd.prog 36 36 v (.slice (some (H.next, 0)) 1 (.kn 1)) (H.new x 24)) fun r => OwnCodes N r.2 r.1 (l ++ [c]) ∧ Ext N H0 r.2 := by
  obtain ⟨rows, h1, h2, h3, h4⟩ := h
  have hx4 : x.length = 4 := by obtain ⟨s, e, _⟩ := hx; rw [e]; rfl
  have hfl := flat_len rows h2
  refine (app_el (ds := x) ysl36 h1 he hx4 (by rw [hfl, h3]; omega)).mono ?_
  rintro ⟨v', H'⟩ ⟨k1, k2, k3, k4, k5⟩
  simp only at k1 k2 k4
  have hstay : ∀ b B, H.m b = some B → B.elem = 29 → H'.m b = some B := fun b B hB hE => by
    rw [k4 b (he.wf b B hB) fun ha => ?_]
    · exact hB
    · obtain ⟨n, cc, rfl⟩ := ha
      rcases h1 with ⟨e, _⟩ | ⟨b', n', c', B', e, _, _, hb, hbe, _⟩
      · cases e
      · cases e
        rw [hb] at hB
        cases hB
        rw [hbe] at hE
        cases hE
  refine ⟨⟨rows ++ [x], by rw [List.flatten_append]; simpa using k1, fun y hy => ?_, by simp [h3], fun j a b => ?_⟩, k2⟩
  · simp only [List.mem_append, List.mem_cons, List.not_mem_nil, or_false] at hy
    rcases hy with hy | rfl
    · exact h2 y hy
    · exact hx4
  · by_cases hj : j < rows.length
    · rw [List.getElem_append_left hj, List.getElem_append_left (by omega)]
      exact (h4 j hj (by omega)).keep hstay
    · have hj' : j = rows.length := by simp at a; omega
      subst hj'
      rw [List.getElem_append_right (Nat.le_refl _), List.getElem_append_right (by omega)]
      simp only [Nat.sub_self, h3, List.getElem_cons_zero]
      exact hx.keep hstay
def MadeAll (l As : List Code) : Prop := As.length = l.length ∧ ∀ j (h1 : j < l.length) (h2 : j < As.length), ∃ A, Makes l[j].ins A ∧ As[j] = { l[j] with ins := A }

structure IM (T0 : Tm) (N : Nat) (Hb : AH) (l : List Code) (c : Code) (f : Nat) (t : St) : Prop where
  t6 : t.1 6 = T0 6
  t8 : t.1 8 = T0 8
  t15 : t.1 15 = T0 15
  t16 : t.1 16 = T0 16
  t17 : t.1 17 = T0 17
  ext : Ext N Hb t.2
  rest : ∃ A : List Ins, Snd l { c with ins := A } ∧ (∀ i ∈ A, i.Ok) ∧ Own N 3 29 t.2 (t.1 9) (insF A) ∧ ((t.1 10 = .bool true ∧ (∀ B, Makes A B → Makes c.ins B) ∧ wsum A.length A + 1 < f) ∨ (t.1 10 = .bool false ∧ Makes c.ins A ∧ 0 < f))
def EM (T0 : Tm) (N : Nat) (Hb : AH) (l : List Code) (c : Code) (r : Ex × St) : Prop :=
  r.1 = .exit 2 ∧ r.2.1 6 = T0 6 ∧ r.2.1 8 = T0 8 ∧ r.2.1 15 = T0 15 ∧ r.2.1 16 = T0 16 ∧ r.2.1 17 = T0 17 ∧ Ext N Hb r.2.2 ∧ ∃ A : List Ins, Makes c.ins A ∧ (∀ i ∈ A, i.Ok) ∧ Own N 3 29 r.2.2 (r.2.1 9) (insF A)
theorem make_round (d : Nat) {T0 : Tm} {N : Nat} {Hb : AH} {l : List Code} {c : Code} (f : Nat) (t : St) (hI : IM T0 N Hb l c (f + 1) t) :
    Ret (F33_L0 (RT (d + 5)) (Ri.iter big) t) fun r => (r.1 = .normal ∧ IM T0 N Hb l c f r.2) ∨ (r.1 ≠ .normal ∧ EM T0 N Hb l c r) := by
  obtain ⟨T, H⟩ := t
  obtain ⟨t6, t8, t15, t16, t17, hx, A, hs, hok, hown, ⟨t10, hmk, hlt⟩ | ⟨t10, hmk, hlt⟩⟩ := hI
  · simp only at t6 t8 t15 t16 t17 hx hown t10
    obtain ⟨⟨v, H1⟩, h73, hx1, hr⟩ := once_spec d hx.wf hx.next hs hok hown
    simp only at hx1 hr
    unfold F33_L0
    rcases hr with ⟨L', v', ho, rfl, hown', hok'⟩ | ⟨ho, rfl, hown'⟩
    · simp -implicitDefEqProofs only [go_sem, Nat.reduceAdd, Nat.reduceMul, Nat.reduceLT, Nat.reduceLeDiff, Nat.reduceEqDiff, Nat.reduceBEq, reduceCtorEq, Int.reduceLT, Int.reduceLE, Int.reduceEq, Int.reduceGT, Int.reduceGE, Int.reduceToNat, Int.reduceNeg, t10, h73]
      obtain ⟨s1, hd, _⟩ := once_snd hs ho
      refine .mk (.inl ⟨rfl, ?_, ?_, ?_, ?_, ?_, hx.trans hx1 (Nat.le_refl _), L', s1, hok', ?_, .inl ⟨?_, fun B hB => hmk B (.more ho hB), ?_⟩⟩)
      · simp -implicitDefEqProofs only [go_sem, Nat.reduceEqDiff, Nat.reduceBEq, reduceCtorEq, t6]
      · simp -implicitDefEqProofs only [go_sem, Nat.reduceEqDiff, Nat.reduceBEq, reduceCtorEq, t8]
      · simp -implicitDefEqProofs only [go_sem, Nat.reduceEqDiff, Nat.reduceBEq, reduceCtorEq, t15]
      · simp -implicitDefEqProofs only [go_sem, Nat.reduceEqDiff, Nat.reduceBEq, reduceCtorEq, t16]
      · simp -implicitDefEqProofs only [go_sem, Nat.reduceEqDiff, Nat.reduceBEq, reduceCtorEq, t17]
      · simp -implicitDefEqProofs only [go_sem, Nat.reduceEqDiff, Nat.reduceBEq, reduceCtorEq]
        exact hown'
      · simp -implicitDefEqProofs only [go_sem, Nat.reduceEqDiff, Nat.reduceBEq, reduceCtorEq]
      · simp only at hd
        omega
    · simp -implicitDefEqProofs only [go_sem, Nat.reduceAdd, Nat.reduceMul, Nat.reduceLT, Nat.reduceLeDiff, Nat.reduceEqDiff, Nat.reduceBEq, reduceCtorEq, Int.reduceLT, Int.reduceLE, Int.reduceEq, Int.reduceGT, Int.reduceGE, Int.reduceToNat, Int.reduceNeg, t10, h73]
      refine .mk (.inl ⟨rfl, ?_, ?_, ?_, ?_, ?_, hx.trans hx1 (Nat.le_refl _), A, hs, hok, ?_, .inr ⟨?_, hmk A (.stop ho), by omega⟩⟩)
      · simp -implicitDefEqProofs only [go_sem, Nat.reduceEqDiff, Nat.reduceBEq, reduceCtorEq, t6]
      · simp -implicitDefEqProofs only [go_sem, Nat.reduceEqDiff, Nat.reduceBEq, reduceCtorEq, t8]
      · simp -implicitDefEqProofs only [go_sem, Nat.reduceEqDiff, Nat.reduceBEq, reduceCtorEq, t15]
      · simp -implicitDefEqProofs only [go_sem, Nat.reduceEqDiff, Nat.reduceBEq, reduceCtorEq, t16]
      · simp -implicitDefEqProofs only [go_sem, Nat.reduceEqDiff, Nat.reduceBEq, reduceCtorEq, t17]
      · simp -implicitDefEqProofs only [go_sem, Nat.reduceEqDiff, Nat.reduceBEq, reduceCtorEq]
        exact hown'
      · simp -implicitDefEqProofs only [go_sem, Nat.reduceEqDiff, Nat.reduceBEq, reduceCtorEq]
  · simp only at t6 t8 t15 t16 t17 hx hown t10
    unfold F33_L0
    simp -implicitDefEqProofs only [go_sem, Nat.reduceAdd, Nat.reduceMul, Nat.reduceLT, Nat.reduceLeDiff, Nat.reduceEqDiff, Nat.reduceBEq, reduceCtorEq, Int.reduceLT, Int.reduceLE, Int.reduceEq, Int.reduceGT, Int.reduceGE, Int.reduceToNat, Int.reduceNeg, t10]
    refine .mk (.inr ⟨by simp, rfl, ?_, ?_, ?_, ?_, ?_, hx, A, hmk, hok, ?_⟩)
    · simp -implicitDefEqProofs only [go_sem, Nat.reduceEqDiff, Nat.reduceBEq, reduceCtorEq, t6]
    · simp -implicitDefEqProofs only [go_sem, Nat.reduceEqDiff, Nat.reduceBEq, reduceCtorEq, t8]
    · simp -implicitDefEqProofs only [go_sem, Nat.reduceEqDiff, Nat.reduceBEq, reduceCtorEq, t15]
    · simp -implicitDefEqProofs only [go_sem, Nat.reduceEqDiff, Nat.reduceBEq, reduceCtorEq, t16]
    · simp -implicitDefEqProofs only [go_sem, Nat.reduceEqDiff, Nat.reduceBEq, reduceCtorEq, t17]
    · simp -implicitDefEqProofs only [go_sem, Nat.reduceEqDiff, Nat.reduceBEq, reduceCtorEq]
      exact hown
theorem wsum_small {L : List Ins} (h : ∀ i ∈ L, isJ i → 0 ≤ i.n) : ∀ n : Nat, wsum n L ≤ L.length * (n + 2) := by
  intro n
  induction L with
  | nil => simp [wsum]
  | cons i L ih =>
    have h1 := ih fun j hj => h j (by simp [hj])
    have h2 : wt n i ≤ n + 2 := by
      unfold wt
      split
      · rename_i hj
        have := h i (by simp) hj
        omega
      · omega
    simp only [wsum, List.map_cons, List.sum_cons, List.length_cons, Nat.succ_mul] at h1 ⊢
    omega
theorem make_inner (d : Nat) {T : Tm} {H Hb : AH} {N : Nat} {l : List Code} {c : Code} (hs : Snd l c) (hok : ∀ i ∈ c.ins, i.Ok) (hx : Ext N Hb H) (hown : Own N 3 29 H (T 9) (insF c.ins)) (t10 : T 10 = .bool true) :
    Ret (Ri.iter big (F33_L0 (RT (d + 5)) (Ri.iter big)) (T, H)) (EM T N Hb l c) := by
  have P := hs.1.plain hok
  have hw := wsum_small (L := c.ins) (fun i hi hj => (P.jump i hi hj).1) c.ins.length
  have hm : c.ins.length * (c.ins.length + 2) ≤ 65536 * 65538 := Nat.mul_le_mul P.few (by have := P.few; omega)
  refine Ret.iter (IM T N Hb l c) _ (fun f t hI => make_round d f t hI) (fun t ht => ?_) (wsum c.ins.length c.ins + 2) big _ (by unfold big; omega) ⟨rfl, rfl, rfl, rfl, rfl, hx, c.ins, hs, hok, hown, .inl ⟨t10, fun B hB => hB, by omega⟩⟩
  obtain ⟨_, _, _, _, _, _, _, _, _, _, ⟨_, _, h⟩ | ⟨_, _, h⟩⟩ := ht <;> exact absurd h (Nat.not_lt_zero _)
end Go.Proofs.YthiflgncldmkjaaDoor
set_option linter.unusedVariables false
set_option linter.unusedSimpArgs false
set_option maxRecDepth 100000
namespace Go.Proofs.YthiflgncldmkjaaDoor
open Go.Ri

theorem SoundP.snd {l : List Code} {main : Int} (h : SoundP l main) {k : Nat} (hk : k < l.length) : Snd l l[k] := by
  obtain ⟨hs, c, _, hc, ho, hg⟩ := h.2.2.2.2.2.2 k hk
  rw [Int.toNat_natCast, List.getElem?_eq_getElem hk] at hc
  cases hc
  exact ⟨ho, hs, hg⟩
theorem CodesRow.inok {H : AH} {ls : AV} {l : List Code} (h : CodesRow H ls l) {k : Nat} (hk : k < l.length) : ∀ i ∈ l[k].ins, i.Ok := by
  obtain ⟨rows, hr, ⟨hl, _⟩, hc⟩ := h
  obtain ⟨s, _, hi, _⟩ := hc k (by omega) hk
  exact hi.2
structure IMk (H : AH) (ls : AV) (l : List Code) (i : Nat) (t : St) : Prop where
  t15 : t.1 15 = ls
  t16 : t.1 16 = .int .i64 (l.length : Nat)
  t17 : t.1 17 = .int .i64 (i : Nat)
  ext : Ext H.next H t.2
  out : ∃ As, MadeAll (l.take i) As ∧ OwnCodes H.next t.2 (t.1 6) As
set_option maxHeartbeats 2000000 in
theorem make_loop (d : Nat) {H : AH} (hw : H.wf) {ls : AV} {l : List Code} (hl : CodesRow H ls l) (h40 : l.length ≤ 40) (hs : ∀ k (hk : k < l.length), Snd l l[k]) {T : Tm} {H1 : AH} (h0 : IMk H ls l 0 (T, H1)) :
    Ret (Ri.iter big (F33_L1 (RT (d + 5)) (Ri.iter big)) (T, H1)) fun r => r.1 = .exit 0 ∧ IMk H ls l l.length r.2 := by
  refine Ret.upTo (n := l.length) (IMk H ls l) (by unfold big; omega) h0 ?_ ?_
  · rintro i ⟨T1, H2⟩ hi ⟨t15, t16, t17, hx, As, hm, hown⟩
    simp only at t15 t16 t17 hx hown
    have hcmp : decide (((i : Nat) : Int) < ((l.length : Nat) : Int)) = true := decide_eq_true (by omega)
    obtain ⟨b, o, c, q1, q2, ⟨s, q3, q4, _⟩, _, _, _, q5, q6, q7⟩ := codes_at (hl.mono (hx.sub hw)) (n := ((i : Nat) : Int)) (by omega) (by omega)
    rw [Int.toNat_natCast, List.getElem?_eq_getElem hi] at q1
    obtain rfl : l[i] = c := Option.some.inj q1
    obtain ⟨pp, hpp⟩ : ∃ p, p = (b, o) := ⟨_, rfl⟩
    rw [← hpp] at q2 q3
    have hsi := hs i hi
    have hoki := hl.inok hi
    have hx2 : Ext H.next H (H2.new [s, .int .i64 l[i].cells, .int .i64 l[i].params, .bool l[i].answers] 24) := hx.new _ _
    have hrow : Row (H2.new [s, .int .i64 l[i].cells, .int .i64 l[i].params, .bool l[i].answers] 24) s 3 (l[i].ins.map insC) := q4.1.mono (((Ext.refl hx.wf).new _ _).sub hx.wf)
    obtain ⟨hsl, hss⟩ := hrow.src
    rw [List.length_map] at hsl hss
    have hlen := hsi.1.few
    obtain ⟨⟨v3, H3⟩, hap, ho3, hx3, _⟩ := app_own (x := s) (ds := insF l[i].ins) ysl22 ysl22.seq (Own.nil _ _ _ _) (Ext.refl hx2.wf) hsl hss (insF_len _) (by rw [insF_len]; simp; omega)
    simp only [List.nil_append] at ho3 hx3
    have hb3 : H3.m H2.next = some ⟨[s, .int .i64 l[i].cells, .int .i64 l[i].params, .bool l[i].answers], 24, true⟩ := by
      rw [hx3.low _ (by simp)]
      simp
    unfold F33_L1
    simp -implicitDefEqProofs only [go_sem, Nat.reduceAdd, Nat.reduceMul, Nat.reduceLT, Nat.reduceLeDiff, Nat.reduceEqDiff, Nat.reduceBEq, reduceCtorEq, Int.reduceLT, Int.reduceLE, Int.reduceEq, Int.reduceGT, Int.reduceGE, Int.reduceToNat, Int.reduceNeg, t15, t16, t17, hcmp, q2, q3, new_put, hap]
    refine Ret.then (make_inner d (N := (H2.new [s, .int .i64 l[i].cells, .int .i64 l[i].params, .bool l[i].answers] 24).next) (Hb := H3) (l := l) (c := l[i]) hsi hoki (Ext.self hx3.wf hx3.next) ?_ ?_) ?_
    · simp -implicitDefEqProofs only [go_sem, Nat.reduceEqDiff, Nat.reduceBEq, reduceCtorEq]
      exact ho3
    · simp -implicitDefEqProofs only [go_sem, Nat.reduceEqDiff, Nat.reduceBEq, reduceCtorEq]
    rintro ⟨e, T4, H4⟩ ⟨rfl, u6, u8, u15, u16, u17, hx4, A, hmk, hokA, hownA⟩
    simp only [updL_cons', updL_nil'] at u6 u8 u15 u16 u17
    simp only at u6 u8 u15 u16 u17 hx4 hownA
    have u6 : T4 6 = T1 6 := u6
    have u8 : T4 8 = .ptr (some (H2.next, 0)) := u8
    have u15 : T4 15 = T1 15 := u15
    have u16 : T4 16 = T1 16 := u16
    have u17 : T4 17 = T1 17 := u17
    have hb4 : H4.m H2.next = some ⟨[s, .int .i64 l[i].cells, .int .i64 l[i].params, .bool l[i].answers], 24, true⟩ := by rw [hx4.low _ (by simp)]; exact hb3
    have hx34 : Ext (H2.next + 1) (H2.new [s, .int .i64 l[i].cells, .int .i64 l[i].params, .bool l[i].answers] 24) H4 := hx3.trans hx4 (Nat.le_refl _)
    have hlt4 : H2.next < H4.next := hx34.next
    have hxa : Ext H.next H H4 := hx2.trans hx34 (by have := hx.next; omega)
    obtain ⟨pv, nv, cv, hv4⟩ := hownA.shape
    have hx5 : Ext H.next H (H4.put H2.next ⟨[T4 9, .int .i64 l[i].cells, .int .i64 l[i].params, .bool l[i].answers], 24, true⟩) := hxa.put hx.next hlt4 _
    have hAown : Own (H2.next + 1) 3 29 (H4.put H2.next ⟨[T4 9, .int .i64 l[i].cells, .int .i64 l[i].params, .bool l[i].answers], 24, true⟩) (T4 9) (insF A) := hownA.mono fun b hb c e => by
      obtain ⟨_, _, h⟩ := hownA.at (b := b) ⟨hb, c, e⟩
      simp only [new_next] at h
      simp only [put_m]
      rw [if_neg (by omega)]
    have hownB : OwnCodes H.next (H4.put H2.next ⟨[T4 9, .int .i64 l[i].cells, .int .i64 l[i].params, .bool l[i].answers], 24, true⟩) (T1 6) As := hown.keep hx.wf fun b hb => by
      simp only [put_m]
      rw [if_neg (by omega), hx34.low b (by omega)]
      simp only [new_m]
      rw [if_neg (by omega)]
    have hent : OwnCode H.next (H4.put H2.next ⟨[T4 9, .int .i64 l[i].cells, .int .i64 l[i].params, .bool l[i].answers], 24, true⟩) [T4 9, .int .i64 l[i].cells, .int .i64 l[i].params, .bool l[i].answers] { l[i] with ins := A } :=
      ⟨T4 9, rfl, hAown.low (by have := hx.next; omega), hokA, q5, q6⟩
    have hAl : As.length = i := by rw [hm.1]; simp; omega
    rw [hv4] at hx5 hownB hent
    rw [hv4] at hAown
    have u6' : T4 6 = T1 6 := u6
    simp -implicitDefEqProofs only [go_sem, Nat.reduceAdd, Nat.reduceMul, Nat.reduceLT, Nat.reduceLeDiff, Nat.reduceEqDiff, Nat.reduceBEq, reduceCtorEq, Int.reduceLT, Int.reduceLE, Int.reduceEq, Int.reduceGT, Int.reduceGE, Int.reduceToNat, Int.reduceNeg, u8, hv4, hb4, u6]
    refine ret_bind ((OwnCodes.more hownB hx5 hent (by omega)).mono ?_)
    rintro ⟨v6, H6⟩ ⟨k1, k2⟩
    simp only at k1 k2
    simp -implicitDefEqProofs only [go_sem, Nat.reduceAdd, Nat.reduceMul, Nat.reduceLT, Nat.reduceLeDiff, Nat.reduceEqDiff, Nat.reduceBEq, reduceCtorEq, Int.reduceLT, Int.reduceLE, Int.reduceEq, Int.reduceGT, Int.reduceGE, Int.reduceToNat, Int.reduceNeg, u17, t17, wrapS (i := i) (by omega)]
    refine .mk (.inl ⟨rfl, ?_, ?_, ?_, k2, As ++ [{ l[i] with ins := A }], ⟨?_, fun j h1 h2 => ?_⟩, ?_⟩)
    · simp -implicitDefEqProofs only [go_sem, Nat.reduceAdd, Nat.reduceMul, Nat.reduceLT, Nat.reduceLeDiff, Nat.reduceEqDiff, Nat.reduceBEq, reduceCtorEq, Int.reduceLT, Int.reduceLE, Int.reduceEq, Int.reduceGT, Int.reduceGE, Int.reduceToNat, Int.reduceNeg, u15, t15]
    · simp -implicitDefEqProofs only [go_sem, Nat.reduceAdd, Nat.reduceMul, Nat.reduceLT, Nat.reduceLeDiff, Nat.reduceEqDiff, Nat.reduceBEq, reduceCtorEq, Int.reduceLT, Int.reduceLE, Int.reduceEq, Int.reduceGT, Int.reduceGE, Int.reduceToNat, Int.reduceNeg, u16, t16]
    · simp -implicitDefEqProofs only [go_sem, Nat.reduceEqDiff, Nat.reduceBEq, reduceCtorEq]
    · simp [hAl]
      omega
    · rw [List.getElem_take]
      by_cases hj : j < As.length
      · obtain ⟨B, hB1, hB2⟩ := hm.2 j (by simp; omega) hj
        rw [List.getElem_take] at hB1 hB2
        exact ⟨B, hB1, by rw [List.getElem_append_left hj]; exact hB2⟩
      · have hji : j = i := by simp at h2; omega
        subst hji
        exact ⟨A, hmk, by rw [List.getElem_append_right (by omega)]; simp [hAl]⟩
    · simp -implicitDefEqProofs only [go_sem, Nat.reduceEqDiff, Nat.reduceBEq, reduceCtorEq]
      exact k1
  · rintro ⟨T1, H2⟩ ⟨t15, t16, t17, hx, hout⟩
    simp only at t15 t16 t17 hx hout
    have hcmp : decide (((l.length : Nat) : Int) < ((l.length : Nat) : Int)) = false := decide_eq_false (by omega)
    unfold F33_L1
    simp -implicitDefEqProofs only [go_sem, Nat.reduceAdd, Nat.reduceMul, Nat.reduceLT, Nat.reduceLeDiff, Nat.reduceEqDiff, Nat.reduceBEq, reduceCtorEq, Int.reduceLT, Int.reduceLE, Int.reduceEq, Int.reduceGT, Int.reduceGE, Int.reduceToNat, Int.reduceNeg, t16, t17, hcmp]
    refine .mk ⟨by simp, rfl, ?_, ?_, ?_, hx, ?_⟩
    · simp -implicitDefEqProofs only [go_sem, Nat.reduceEqDiff, Nat.reduceBEq, reduceCtorEq, t15]
    · simp -implicitDefEqProofs only [go_sem, Nat.reduceEqDiff, Nat.reduceBEq, reduceCtorEq, t16]
    · simp -implicitDefEqProofs only [go_sem, Nat.reduceEqDiff, Nat.reduceBEq, reduceCtorEq, t17]
    · simp -implicitDefEqProofs only [go_sem, Nat.reduceEqDiff, Nat.reduceBEq, reduceCtorEq]
      exact hout
theorem make_spec (d : Nat) {H : AH} (hw : H.wf) (hT : Tabs H) {ls : AV} {l : List Code} (hl : CodesRow H ls l) {main : Int} (hm : InI main) :
    Ret (RT (d + 6) 33 [ls, .int .i64 main] H) fun r => Ext H.next H r.2 ∧ ((¬ SoundP l main ∧ r.1 = .tuple [.slice none 0 (.kn 0), .int .i64 60]) ∨ (SoundP l main ∧ ∃ As v, r.1 = .tuple [v, .int .i64 0] ∧ MadeAll l As ∧ OwnCodes H.next r.2 v As)) := by
  rw [R33]
  unfold F33
  obtain ⟨⟨v, H1⟩, h27, hx, b, hb, hiff⟩ := Sound_spec d hw hT hl hm
  simp only at hx hb
  subst hb
  have hal := hl.alen
  cases b
  · simp -implicitDefEqProofs only [go_sem, Nat.reduceEqDiff, Nat.reduceBEq, reduceCtorEq, h27]
    exact .mk ⟨hx, .inl ⟨fun h => Bool.noConfusion (hiff.2 h), rfl⟩⟩
  · have hsp := hiff.1 rfl
    simp -implicitDefEqProofs only [go_sem, Nat.reduceAdd, Nat.reduceMul, Nat.reduceLT, Nat.reduceLeDiff, Nat.reduceEqDiff, Nat.reduceBEq, reduceCtorEq, Int.reduceLT, Int.reduceLE, Int.reduceEq, Int.reduceGT, Int.reduceGE, Int.reduceToNat, Int.reduceNeg, h27, hal]
    refine Ret.then (make_loop d hw hl (by have := hsp.2.1; omega) (fun k hk => hsp.snd hk) ⟨?_, ?_, ?_, hx, [], ⟨by simp, fun j h1 h2 => absurd h2 (Nat.not_lt_zero _)⟩, ?_⟩) ?_
    · simp -implicitDefEqProofs only [go_sem, Nat.reduceEqDiff, Nat.reduceBEq, reduceCtorEq]
    · simp -implicitDefEqProofs only [go_sem, Nat.reduceEqDiff, Nat.reduceBEq, reduceCtorEq]
    · simp -implicitDefEqProofs only [go_sem, Nat.reduceEqDiff, Nat.reduceBEq, reduceCtorEq]
      rfl
    · simp -implicitDefEqProofs only [go_sem, Nat.reduceEqDiff, Nat.reduceBEq, reduceCtorEq]
      exact OwnCodes.nil _ _
    · rintro ⟨e, T, H2⟩ ⟨rfl, _, _, _, hx2, As, hmA, hownA⟩
      simp only at hx2 hownA
      rw [List.take_of_length_le (Nat.le_refl _)] at hmA
      simp -implicitDefEqProofs only [go_sem, Nat.reduceAdd, Nat.reduceMul, Nat.reduceLT, Nat.reduceLeDiff, Nat.reduceEqDiff, Nat.reduceBEq, reduceCtorEq, Int.reduceLT, Int.reduceLE, Int.reduceEq, Int.reduceGT, Int.reduceGE, Int.reduceToNat, Int.reduceNeg]
      exact .mk ⟨hx2, .inr ⟨hsp, As, _, rfl, hmA, hownA⟩⟩
end Go.Proofs.YthiflgncldmkjaaDoor
set_option linter.unusedVariables false
set_option linter.unusedSimpArgs false
set_option maxRecDepth 100000
namespace Go.Proofs.YthiflgncldmkjaaDoor
open Go.Ri
theorem run32 (e0 e1 : TypeId) : saysTrue (aCall Tryd.prog (drawB Tryd.prog) 60 32 [] ⟨mTabs e0 e1, 2⟩) = true := by kernel_rfl
theorem ok32 : Ok1 Tryd.prog 32 gTrue := ok_true run32 ⟨_, Tryd.func32, by kernel_rfl, by kernel_rfl⟩
theorem run39 (e0 e1 : TypeId) : saysTrue (aCall Tryd.prog (drawB Tryd.prog) 60 39 [] ⟨mTabs e0 e1, 2⟩) = true := by kernel_rfl
theorem ok39 : Ok1 Tryd.prog 39 gTrue := ok_true run39 ⟨_, Tryd.func39, by kernel_rfl, by kernel_rfl⟩
end Go.Proofs.YthiflgncldmkjaaDoor
set_option linter.unusedVariables false
set_option linter.unusedSimpArgs false
set_option maxRecDepth 100000
namespace Go.Proofs.YthiflgncldmkjaaDoor
open Go.Ri

noncomputable def RL (d : Nat) : CallF := addT (addT (RT d) 32 gTrue) 39 gTrue
theorem RL_ok (d : Nat) : CallOk Tryd.prog (RL d) := addT_ok (addT_ok (RT_ok d) ok32) ok39
theorem RL_at {d : Nat} {f : Nat} (h : f ≠ 32 ∧ f ≠ 39) (vs : List AV) (H : AH) : RL d f vs H = RT d f vs H := by
  unfold RL
  rw [addT_ne _ _ _ _ h.2, addT_ne _ _ _ _ h.1]
theorem RL_32 (d : Nat) {H : AH} (hT : Tabs H) : RL d 32 [] H = some (.bool true, H) := by
  unfold RL
  rw [addT_ne _ _ _ _ (by decide), addT_at]
  exact chk_pos (⟨rfl, hT⟩ : [] = ([] : List AV) ∧ Tabs H) _
noncomputable def LawR (d : Nat) : CallF := fun f vs H => aFun Tryd.prog (drawA Tryd.prog) (RL d) (iter big) f vs H
theorem LawR_ok (d : Nat) : CallOk Tryd.prog (LawR d) := fun f vs H v H' h => aFun_sound (draw := drawA Tryd.prog) (n := big) (RL_ok d) (fun nt => drawA_ok (RL_ok d)) f vs H v H' h

theorem great10_spec (d : Nat) {H : AH} {ls : AV} {l : List Code} (hl : CodesRow H ls l) : Ret (RT (d + 2) 31 [ls] H) fun r => (∃ b, r.1 = .bool b) ∧ r.2 = H := by
  rw [R31]
  unfold F31
  have hfew := hl.few
  have hal := hl.alen
  by_cases p1 : ((l.length : Nat) : Int) > 50
  · simp -implicitDefEqProofs only [go_sem, Nat.reduceAdd, Nat.reduceMul, Nat.reduceLT, Nat.reduceLeDiff, Nat.reduceEqDiff, Nat.reduceBEq, reduceCtorEq, Int.reduceLT, Int.reduceLE, Int.reduceEq, Int.reduceGT, Int.reduceGE, Int.reduceToNat, Int.reduceNeg, hal, decide_eq_true p1]
    exact .mk ⟨⟨_, rfl⟩, rfl⟩
  obtain ⟨⟨v1, H1⟩, h1, ⟨n1, hn1⟩, hH1⟩ := Size_spec d hl 400
  simp only at hn1 hH1
  subst hn1 hH1
  by_cases p2 : n1 > 400
  · simp -implicitDefEqProofs only [go_sem, Nat.reduceAdd, Nat.reduceMul, Nat.reduceLT, Nat.reduceLeDiff, Nat.reduceEqDiff, Nat.reduceBEq, reduceCtorEq, Int.reduceLT, Int.reduceLE, Int.reduceEq, Int.reduceGT, Int.reduceGE, Int.reduceToNat, Int.reduceNeg, hal, decide_eq_false p1, h1, decide_eq_true p2]
    exact .mk ⟨⟨_, rfl⟩, rfl⟩
  simp -implicitDefEqProofs only [go_sem, Nat.reduceAdd, Nat.reduceMul, Nat.reduceLT, Nat.reduceLeDiff, Nat.reduceEqDiff, Nat.reduceBEq, reduceCtorEq, Int.reduceLT, Int.reduceLE, Int.reduceEq, Int.reduceGT, Int.reduceGE, Int.reduceToNat, Int.reduceNeg, hal, decide_eq_false p1, h1, decide_eq_false p2]
  refine Ret.then (Q' := fun r => r.2.2 = H1 ∧ (r.1 = .exit 0 ∨ (r.1 = .ret ∧ r.2.1 2 = .bool true))) (Ret.upTo (n := l.length) (fun i t => t.1 0 = ls ∧ t.1 3 = .int .i64 (i : Nat) ∧ t.2 = H1) (by unfold big; omega) ⟨?_, ?_, rfl⟩ ?_ ?_) ?_
  · simp -implicitDefEqProofs only [go_sem, Nat.reduceEqDiff, Nat.reduceBEq, reduceCtorEq]
  · simp -implicitDefEqProofs only [go_sem, Nat.reduceEqDiff, Nat.reduceBEq, reduceCtorEq]
    rfl
  · rintro i ⟨T1, H2⟩ hi ⟨t0, t3, hH⟩
    simp only at t0 t3 hH
    subst hH
    have hcmp : decide (((i : Nat) : Int) < ((l.length : Nat) : Int)) = true := decide_eq_true (by omega)
    obtain ⟨b, o, c, q1, q2, _, q4, _⟩ := codes_at hl (n := ((i : Nat) : Int)) (by omega) (by omega)
    unfold F31_L0
    by_cases p3 : c.cells > 300
    · by_cases p4 : c.cells ≤ 65536
      · simp -implicitDefEqProofs only [go_sem, Nat.reduceAdd, Nat.reduceMul, Nat.reduceLT, Nat.reduceLeDiff, Nat.reduceEqDiff, Nat.reduceBEq, reduceCtorEq, Int.reduceLT, Int.reduceLE, Int.reduceEq, Int.reduceGT, Int.reduceGE, Int.reduceToNat, Int.reduceNeg, t0, t3, hal, hcmp, q2, q4, decide_eq_true p3, decide_eq_true p4]
        refine .mk (.inr ⟨by simp, rfl, .inr ⟨rfl, ?_⟩⟩)
        simp -implicitDefEqProofs only [go_sem, Nat.reduceAdd, Nat.reduceMul, Nat.reduceLT, Nat.reduceLeDiff, Nat.reduceEqDiff, Nat.reduceBEq, reduceCtorEq, Int.reduceLT, Int.reduceLE, Int.reduceEq, Int.reduceGT, Int.reduceGE, Int.reduceToNat, Int.reduceNeg]
      · simp -implicitDefEqProofs only [go_sem, Nat.reduceAdd, Nat.reduceMul, Nat.reduceLT, Nat.reduceLeDiff, Nat.reduceEqDiff, Nat.reduceBEq, reduceCtorEq, Int.reduceLT, Int.reduceLE, Int.reduceEq, Int.reduceGT, Int.reduceGE, Int.reduceToNat, Int.reduceNeg, t0, t3, hal, hcmp, q2, q4, decide_eq_true p3, decide_eq_false p4, wrapS (i := i) (by omega)]
        refine .mk (.inl ⟨rfl, ?_, ?_, rfl⟩)
        · simp -implicitDefEqProofs only [go_sem, Nat.reduceEqDiff, Nat.reduceBEq, reduceCtorEq, t0]
        · simp -implicitDefEqProofs only [go_sem, Nat.reduceEqDiff, Nat.reduceBEq, reduceCtorEq]
    · simp -implicitDefEqProofs only [go_sem, Nat.reduceAdd, Nat.reduceMul, Nat.reduceLT, Nat.reduceLeDiff, Nat.reduceEqDiff, Nat.reduceBEq, reduceCtorEq, Int.reduceLT, Int.reduceLE, Int.reduceEq, Int.reduceGT, Int.reduceGE, Int.reduceToNat, Int.reduceNeg, t0, t3, hal, hcmp, q2, q4, decide_eq_false p3, wrapS (i := i) (by omega)]
      refine .mk (.inl ⟨rfl, ?_, ?_, rfl⟩)
      · simp -implicitDefEqProofs only [go_sem, Nat.reduceEqDiff, Nat.reduceBEq, reduceCtorEq, t0]
      · simp -implicitDefEqProofs only [go_sem, Nat.reduceEqDiff, Nat.reduceBEq, reduceCtorEq]
  · rintro ⟨T1, H2⟩ ⟨t0, t3, hH⟩
    simp only at t0 t3 hH
    have hcmp : decide (((l.length : Nat) : Int) < ((l.length : Nat) : Int)) = false := decide_eq_false (by omega)
    unfold F31_L0
    simp -implicitDefEqProofs only [go_sem, Nat.reduceAdd, Nat.reduceMul, Nat.reduceLT, Nat.reduceLeDiff, Nat.reduceEqDiff, Nat.reduceBEq, reduceCtorEq, Int.reduceLT, Int.reduceLE, Int.reduceEq, Int.reduceGT, Int.reduceGE, Int.reduceToNat, Int.reduceNeg, t0, t3, hal, hcmp]
    exact .mk ⟨by simp, hH, .inl rfl⟩
  · rintro ⟨e, T1, H2⟩ ⟨hH, rfl | ⟨rfl, t2⟩⟩
    · simp only at hH
      simp -implicitDefEqProofs only [go_sem, Nat.reduceAdd, Nat.reduceMul, Nat.reduceLT, Nat.reduceLeDiff, Nat.reduceEqDiff, Nat.reduceBEq, reduceCtorEq, Int.reduceLT, Int.reduceLE, Int.reduceEq, Int.reduceGT, Int.reduceGE, Int.reduceToNat, Int.reduceNeg]
      exact .mk ⟨⟨_, rfl⟩, hH⟩
    · simp only at hH t2
      simp -implicitDefEqProofs only [go_sem, Nat.reduceAdd, Nat.reduceMul, Nat.reduceLT, Nat.reduceLeDiff, Nat.reduceEqDiff, Nat.reduceBEq, reduceCtorEq, Int.reduceLT, Int.reduceLE, Int.reduceEq, Int.reduceGT, Int.reduceGE, Int.reduceToNat, Int.reduceNeg, t2]
      exact .mk ⟨⟨_, rfl⟩, hH⟩

def IRS (H : AH) (ls : AV) (l : List Code) (i : Nat) (t : St) : Prop :=
  t.1 0 = ls ∧ t.1 5 = .int .i64 (i : Nat) ∧ Ext H.next H t.2 ∧ ∀ k : Nat, k < i → ∃ h, Hts l k h
theorem refSound_spec (d : Nat) {H : AH} (hw : H.wf) (hT : Tabs H) {ls : AV} {l : List Code} (hl : CodesRow H ls l) {main : Int} (hm : InI main) :
    Ret (RT (d + 5) 36 [ls, .int .i64 main] H) fun r => Ext H.next H r.2 ∧ ∃ b : Bool, r.1 = .bool b ∧ (b = true ↔ SoundP l main) := by
  rw [R36]
  unfold F36
  have hal := hl.alen
  have hfew := hl.few
  have no : ¬ SoundP l main → Ret (some (AV.bool false, H)) fun r => Ext H.next H r.2 ∧ ∃ b : Bool, r.1 = .bool b ∧ (b = true ↔ SoundP l main) := fun h => .mk ⟨.refl hw, false, rfl, by simp [h]⟩
  by_cases p1 : ((l.length : Nat) : Int) = 0
  · simp -implicitDefEqProofs only [go_sem, Nat.reduceAdd, Nat.reduceMul, Nat.reduceLT, Nat.reduceLeDiff, Nat.reduceEqDiff, Nat.reduceBEq, reduceCtorEq, Int.reduceLT, Int.reduceLE, Int.reduceEq, Int.reduceGT, Int.reduceGE, Int.reduceToNat, Int.reduceNeg, hal, decide_eq_true p1]
    exact no fun h => by have := h.1; omega
  by_cases p2 : ((l.length : Nat) : Int) > 40
  · simp -implicitDefEqProofs only [go_sem, Nat.reduceAdd, Nat.reduceMul, Nat.reduceLT, Nat.reduceLeDiff, Nat.reduceEqDiff, Nat.reduceBEq, reduceCtorEq, Int.reduceLT, Int.reduceLE, Int.reduceEq, Int.reduceGT, Int.reduceGE, Int.reduceToNat, Int.reduceNeg, hal, decide_eq_false p1, decide_eq_true p2]
    exact no fun h => by have := h.2.1; omega
  by_cases p3 : main < 0
  · simp -implicitDefEqProofs only [go_sem, Nat.reduceAdd, Nat.reduceMul, Nat.reduceLT, Nat.reduceLeDiff, Nat.reduceEqDiff, Nat.reduceBEq, reduceCtorEq, Int.reduceLT, Int.reduceLE, Int.reduceEq, Int.reduceGT, Int.reduceGE, Int.reduceToNat, Int.reduceNeg, hal, decide_eq_false p1, decide_eq_false p2, decide_eq_true p3]
    exact no fun h => by have := h.2.2.1; omega
  by_cases p4 : main ≥ ((l.length : Nat) : Int)
  · simp -implicitDefEqProofs only [go_sem, Nat.reduceAdd, Nat.reduceMul, Nat.reduceLT, Nat.reduceLeDiff, Nat.reduceEqDiff, Nat.reduceBEq, reduceCtorEq, Int.reduceLT, Int.reduceLE, Int.reduceEq, Int.reduceGT, Int.reduceGE, Int.reduceToNat, Int.reduceNeg, hal, decide_eq_false p1, decide_eq_false p2, decide_eq_false p3, decide_eq_true p4]
    exact no fun h => by have := h.2.2.2.1; omega
  obtain ⟨b, o, c, q1, q2, _, _, q5, q6, _⟩ := codes_at hl (n := main) (by omega) (by omega)
  have hpa : paramsAt l main = c.params := by simp [paramsAt, q1]
  have haa : answersAt l main = c.answers := by simp [answersAt, q1]
  by_cases p5 : c.params = 0
  · cases p6 : c.answers
    · rw [p6] at q6
      simp -implicitDefEqProofs only [go_sem, Nat.reduceAdd, Nat.reduceMul, Nat.reduceLT, Nat.reduceLeDiff, Nat.reduceEqDiff, Nat.reduceBEq, reduceCtorEq, Int.reduceLT, Int.reduceLE, Int.reduceEq, Int.reduceGT, Int.reduceGE, Int.reduceToNat, Int.reduceNeg, hal, decide_eq_false p1, decide_eq_false p2, decide_eq_false p3, decide_eq_false p4, q2, q5, q6, decide_eq_true p5]
      refine Ret.then (Q' := fun r => Ext H.next H r.2.2 ∧ ((r.1 = .exit 0 ∧ ∀ k : Nat, k < l.length → ∃ h, Hts l k h) ∨ (r.1 = .ret ∧ r.2.1 4 = .bool false ∧ ¬ ∀ k : Nat, k < l.length → ∃ h, Hts l k h)))
        (Ret.upTo (n := l.length) (IRS H ls l) (by unfold big; omega) ⟨?_, ?_, .refl hw, fun k hk => absurd hk (Nat.not_lt_zero _)⟩ ?_ ?_) ?_
      · simp -implicitDefEqProofs only [go_sem, Nat.reduceEqDiff, Nat.reduceBEq, reduceCtorEq]
      · simp -implicitDefEqProofs only [go_sem, Nat.reduceEqDiff, Nat.reduceBEq, reduceCtorEq]
        rfl
      · rintro i ⟨T1, H2⟩ hi ⟨t0, t5, hx, hdone⟩
        simp only at t0 t5 hx
        have hcmp : decide (((i : Nat) : Int) < ((l.length : Nat) : Int)) = true := decide_eq_true (by omega)
        obtain ⟨⟨v, H3⟩, h29, hx3, hr⟩ := Heights_ref d hx.wf (hT.ext hx hT.two) (hl.mono (hx.sub hw)) (k := ((i : Nat) : Int)) (by unfold InI; omega)
        simp only at hx3 hr
        have hx4 : Ext H.next H H3 := hx.trans hx3 hx.next
        unfold F36_L0
        rcases hr with ⟨hs, h, rfl, _, hh⟩ | ⟨rfl, hno⟩
        · simp -implicitDefEqProofs only [go_sem, Nat.reduceAdd, Nat.reduceMul, Nat.reduceLT, Nat.reduceLeDiff, Nat.reduceEqDiff, Nat.reduceBEq, reduceCtorEq, Int.reduceLT, Int.reduceLE, Int.reduceEq, Int.reduceGT, Int.reduceGE, Int.reduceToNat, Int.reduceNeg, t0, t5, hal, hcmp, h29, wrapS (i := i) (by omega)]
          refine .mk (.inl ⟨rfl, ?_, ?_, hx4, fun k hk => ?_⟩)
          · simp -implicitDefEqProofs only [go_sem, Nat.reduceEqDiff, Nat.reduceBEq, reduceCtorEq, t0]
          · simp -implicitDefEqProofs only [go_sem, Nat.reduceEqDiff, Nat.reduceBEq, reduceCtorEq]
          · by_cases hki : k = i
            · subst hki; exact ⟨h, hh⟩
            · exact hdone k (by omega)
        · simp -implicitDefEqProofs only [go_sem, Nat.reduceAdd, Nat.reduceMul, Nat.reduceLT, Nat.reduceLeDiff, Nat.reduceEqDiff, Nat.reduceBEq, reduceCtorEq, Int.reduceLT, Int.reduceLE, Int.reduceEq, Int.reduceGT, Int.reduceGE, Int.reduceToNat, Int.reduceNeg, t0, t5, hal, hcmp, h29]
          refine .mk (.inr ⟨by simp, hx4, .inr ⟨rfl, ?_, fun h => hno (h i hi)⟩⟩)
          simp -implicitDefEqProofs only [go_sem, Nat.reduceAdd, Nat.reduceMul, Nat.reduceLT, Nat.reduceLeDiff, Nat.reduceEqDiff, Nat.reduceBEq, reduceCtorEq, Int.reduceLT, Int.reduceLE, Int.reduceEq, Int.reduceGT, Int.reduceGE, Int.reduceToNat, Int.reduceNeg]
      · rintro ⟨T1, H2⟩ ⟨t0, t5, hx, hdone⟩
        simp only at t0 t5 hx
        have hcmp : decide (((l.length : Nat) : Int) < ((l.length : Nat) : Int)) = false := decide_eq_false (by omega)
        unfold F36_L0
        simp -implicitDefEqProofs only [go_sem, Nat.reduceAdd, Nat.reduceMul, Nat.reduceLT, Nat.reduceLeDiff, Nat.reduceEqDiff, Nat.reduceBEq, reduceCtorEq, Int.reduceLT, Int.reduceLE, Int.reduceEq, Int.reduceGT, Int.reduceGE, Int.reduceToNat, Int.reduceNeg, t0, t5, hal, hcmp]
        exact .mk ⟨by simp, hx, .inl ⟨rfl, hdone⟩⟩
      · rintro ⟨e, T, H1⟩ ⟨hx, ⟨rfl, hall⟩ | ⟨rfl, h4, hno⟩⟩
        · simp only at hx
          simp -implicitDefEqProofs only [go_sem, Nat.reduceAdd, Nat.reduceMul, Nat.reduceLT, Nat.reduceLeDiff, Nat.reduceEqDiff, Nat.reduceBEq, reduceCtorEq, Int.reduceLT, Int.reduceLE, Int.reduceEq, Int.reduceGT, Int.reduceGE, Int.reduceToNat, Int.reduceNeg]
          exact .mk ⟨hx, true, rfl, by simp only [true_iff]; exact ⟨by omega, by omega, by omega, by omega, by rw [hpa, p5], by rw [haa, p6], hall⟩⟩
        · simp only at hx h4
          simp -implicitDefEqProofs only [go_sem, Nat.reduceAdd, Nat.reduceMul, Nat.reduceLT, Nat.reduceLeDiff, Nat.reduceEqDiff, Nat.reduceBEq, reduceCtorEq, Int.reduceLT, Int.reduceLE, Int.reduceEq, Int.reduceGT, Int.reduceGE, Int.reduceToNat, Int.reduceNeg, h4]
          exact .mk ⟨hx, false, rfl, by simp only [Bool.false_eq_true, false_iff]; exact fun h => hno h.2.2.2.2.2.2⟩
    · rw [p6] at q6
      simp -implicitDefEqProofs only [go_sem, Nat.reduceAdd, Nat.reduceMul, Nat.reduceLT, Nat.reduceLeDiff, Nat.reduceEqDiff, Nat.reduceBEq, reduceCtorEq, Int.reduceLT, Int.reduceLE, Int.reduceEq, Int.reduceGT, Int.reduceGE, Int.reduceToNat, Int.reduceNeg, hal, decide_eq_false p1, decide_eq_false p2, decide_eq_false p3, decide_eq_false p4, q2, q5, q6, decide_eq_true p5]
      exact no fun h => by have := h.2.2.2.2.2.1; rw [haa, p6] at this; cases this
  · simp -implicitDefEqProofs only [go_sem, Nat.reduceAdd, Nat.reduceMul, Nat.reduceLT, Nat.reduceLeDiff, Nat.reduceEqDiff, Nat.reduceBEq, reduceCtorEq, Int.reduceLT, Int.reduceLE, Int.reduceEq, Int.reduceGT, Int.reduceGE, Int.reduceToNat, Int.reduceNeg, hal, decide_eq_false p1, decide_eq_false p2, decide_eq_false p3, decide_eq_false p4, q2, q5, decide_eq_false p5]
    exact no fun h => p5 (by rw [← hpa]; exact h.2.2.2.2.1)
end Go.Proofs.YthiflgncldmkjaaDoor
set_option linter.unusedVariables false
set_option linter.unusedSimpArgs false
set_option maxRecDepth 100000
namespace Go.Proofs.YthiflgncldmkjaaDoor
open Go.Ri Go.ChangeShapes Go.WideShapes Go.ChangeAt Go.RowKit
section
variable {Hh : Type} {enc : TypeId × Value → Hh} {W : World} {base : Nat} {sp : Nat → Bool} {held : Bool}
theorem contract_law {f : FuncId} {fn : Func} {spec : ChangeSpec} (hres : fn.resultTypes = #[4])
    (hspec : ∀ ds : List (DataW Hh), ds.length = fn.params.size → spec.fn Hh ds = { results := [.lit (.bool true)], args := ds }) (hvars : spec.vars = [])
    (hread : ∀ t ∈ fn.params.toList, Tryd.prog.readableRec t = true ∧ t < Tryd.prog.types.size)
    {W : World} {args : Array Value} {ds gs : List (DataW Hh)} {before : List MemPlace}
    (hW : DataW.Whole enc Tryd.prog fn.params.toList spec.vars false W args.toList ds gs before) (hL : laidMetH Tryd.prog laidTabs W)
    (hrun : ∀ ρ H, Sim Tryd.prog ρ H W → H.ro → Tabs H → DataW.TrodAll enc Tryd.prog W 0 (fun _ => true) true fn.params.toList args.toList ds before →
      ∃ ρ' H' vs d, Lays Tryd.prog W ρ H ρ' H' ∧ relL ρ' vs args.toList ∧ Ret (LawR d f vs H') fun r => r.1 = .bool true) :
    Calls Tryd.prog f args W fun e W' => ∃ v, e = .returned v ∧ spec.post enc Tryd.prog fn false true false false W args v W' := by
  have hW' := hW
  obtain ⟨p, q, hA, hV, rfl, hfz, hnd⟩ := hW
  rw [hvars] at hV
  obtain ⟨rfl, rfl⟩ := trodVars_none hV
  simp only [List.append_nil] at hW' hrun
  obtain ⟨ρ, H, hS, hro, hT⟩ := start hL
  obtain ⟨ρ', H', vs, d, hLay, hrel, ⟨r, hr1, hr2⟩⟩ := hrun ρ H hS hro hT hA
  obtain ⟨v1, H1⟩ := r
  simp only at hr2
  subst hr2
  have hC := (LawR_ok d f vs H' (.bool true) H1 hr1).2 ρ' W args.toList hLay.sim hrel
  rw [Array.toArray_toList] at hC
  refine hC.mono ?_
  rintro e W' ⟨ρ2, v', rfl, hv, hout⟩
  simp only [rel] at hv
  subst hv
  have hb := below_of_ro hLay.ro hout
  have hlen : ds.length = fn.params.size := by
    have h : ∀ {ts : List TypeId} {vs : List Value} {ds : List (DataW Hh)} {ps : List MemPlace}, DataW.TrodAll enc Tryd.prog W 0 (fun _ => true) true ts vs ds ps → ds.length = ts.length := by
      intro ts
      induction ts with
      | nil => intro vs ds ps h; obtain ⟨_, rfl, _⟩ := trodAll_nil h; rfl
      | cons t ts ih =>
        intro vs ds ps h
        obtain ⟨v, vs', d, ds', p, q, rfl, rfl, rfl, h0, hr⟩ := trodAll_cons h
        simp [ih hr]
    simpa using h hA
  have hfn := hspec ds hlen
  have hlt : ∀ x ∈ p, x.block < W.heap.size := fun x hx => hW'.lt x hx
  refine ⟨_, rfl, post_of_below (pa := p) (pv := []) (by simpa using hW') (fun _ _ _ => ?_) (fun sp hsp => ?_) (fun _ _ => ?_) (by simp) hb (ok_one hres rfl (okWide_bool_mk under4 _))⟩
  · rw [List.append_nil, hfn, hres]
    exact trodAll_cons_mk (shut_bool under4 _) trodAll_mk0
  · rw [List.append_nil, hfn]
    exact trodAll_stays hb hread hA hlt (fun x hx => hsp x (by simpa using hx))
  · rw [List.append_nil, hfn, hvars]
    rfl

end

theorem bind_lazy {A B : Type} {x y : Option A} {f : A → Option B} (h : x = y) : x.bind f = y.bind f := by rw [h]
theorem jn_lazy {R : Type} {x y : Option (St ⊕ R)} {f : Tm → AH → Option R} (h : x = y) : jn x f = jn y f := by rw [h]

theorem MadeAll.alike {l As : List Code} (h : MadeAll l As) : Alike l As := by
  refine ⟨h.1.symm, fun k => ?_⟩
  by_cases hk : k < l.length
  · obtain ⟨A, _, hA⟩ := h.2 k hk (by rw [h.1]; exact hk)
    rw [List.getElem?_eq_getElem hk, List.getElem?_eq_getElem (by rw [h.1]; exact hk), hA]
    rfl
  · rw [List.getElem?_eq_none (by omega), List.getElem?_eq_none (by rw [h.1]; omega)]
theorem MadeAll.at {l As : List Code} (h : MadeAll l As) {main : Int} (hs : SoundP l main) {k : Nat} (hk : k < As.length) :
    ∃ hl : k < l.length, As[k].cells = l[k].cells ∧ As[k].params = l[k].params ∧ As[k].answers = l[k].answers ∧ As[k].ins.length ≤ l[k].ins.length ∧ Snd As As[k] ∧ onceP As[k].ins = none := by
  have hl : k < l.length := by rw [← h.1]; exact hk
  obtain ⟨A, hm, hA⟩ := h.2 k hl hk
  obtain ⟨s, hlen⟩ := hm.snd (c := l[k]) rfl (hs.snd hl)
  refine ⟨hl, by rw [hA], by rw [hA], by rw [hA], by rw [hA]; exact hlen, ?_, by rw [hA]; exact hm.last⟩
  rw [hA]
  exact h.alike.snd s
theorem MadeAll.sound {l As : List Code} (h : MadeAll l As) {main : Int} (hs : SoundP l main) : SoundP As main := by
  have al := h.alike
  refine ⟨by rw [h.1]; exact hs.1, by rw [h.1]; exact hs.2.1, hs.2.2.1, by rw [h.1]; exact hs.2.2.2.1, by rw [← al.params]; exact hs.2.2.2.2.1, by rw [← al.answers]; exact hs.2.2.2.2.2.1, fun k hk => ?_⟩
  obtain ⟨_, _, _, _, _, ⟨o, hh, g⟩, _⟩ := h.at hs hk
  exact ⟨hh, As[k], by omega, by rw [Int.toNat_natCast]; exact List.getElem?_eq_getElem hk, o, g⟩
theorem MadeAll.reach {l As : List Code} (h : MadeAll l As) {main : Int} (hs : SoundP l main) {k : Nat} (hk : k < As.length) {hh : List Int} (g : Hts As k hh) : ∀ x ∈ hh, 0 ≤ x := by
  obtain ⟨c, _, hc, _, hg⟩ := g
  rw [Int.toNat_natCast, List.getElem?_eq_getElem hk] at hc
  obtain rfl : As[k] = c := Option.some.inj hc
  obtain ⟨_, _, _, _, _, _, hno⟩ := h.at hs hk
  intro x hx
  obtain ⟨a, ha⟩ := List.mem_iff_getElem?.1 hx
  have hlt := (List.getElem?_eq_some_iff.1 ha).1
  rw [hg.len] at hlt
  simp only [onceP, Option.map_eq_none_iff] at hno
  have h0 := fit_zero (firstP_none hno a (Nat.zero_le _) (by omega))
  obtain ⟨y, hy, h0y⟩ := hg.at_reach ((reachL_iff rfl).1 h0)
  rw [ha] at hy
  cases hy
  exact h0y
theorem OwnCodes.codes {N : Nat} {H : AH} {v : AV} {l As : List Code} (h : OwnCodes N H v As) (hm : MadeAll l As) {main : Int} (hs : SoundP l main) : CodesRow H v As := by
  refine h.row (by rw [hm.1]; have := hs.2.1; omega) fun c hc => ?_
  obtain ⟨k, hk⟩ := List.mem_iff_getElem?.1 hc
  have hlt := (List.getElem?_eq_some_iff.1 hk).1
  rw [List.getElem?_eq_getElem hlt] at hk
  cases hk
  obtain ⟨_, _, _, _, _, s, _⟩ := hm.at hs hlt
  have := s.1.few
  omega
end Go.Proofs.YthiflgncldmkjaaDoor
set_option linter.unusedVariables false
set_option linter.unusedSimpArgs false
set_option maxRecDepth 100000
namespace Go.Proofs.YthiflgncldmkjaaDoor
open Go.Ri
attribute [local congr] bind_lazy jn_lazy

theorem bool_neq (a b : Bool) : aBin Tryd.prog .neq 4 (.bool a) (.bool b) = some (.bool (!(a == b))) := by kernel_rfl
theorem beq_same (a : Bool) : (!(a == a)) = false := by simp
theorem codes_ins {H : AH} {ls : AV} {l : List Code} (h : CodesRow H ls l) {k : Nat} (hk : k < l.length) :
    ∃ b o s, (∀ kd, idxSl ls (.int kd (k : Nat)) 4 = some (.ptr (some (b, o)))) ∧ ldOne (.ptr (some (b, o))) H = some s ∧ aLen Tryd.prog 22 s = some (.int .i64 (l[k].ins.length : Nat)) ∧ InsRow H s l[k].ins ∧ ldAgg (.ptr (some (b, o))) 4 H = some (.agg [s, .int .i64 l[k].cells, .int .i64 l[k].params, .bool l[k].answers]) ∧
      ldOne (.ptr (some (b, o + 1))) H = some (.int .i64 l[k].cells) ∧ ldOne (.ptr (some (b, o + 2))) H = some (.int .i64 l[k].params) ∧ ldOne (.ptr (some (b, o + 3))) H = some (.bool l[k].answers) ∧ InI l[k].cells ∧ InI l[k].params := by
  obtain ⟨b, o, c, q1, q2, ⟨s, q3, q4, q5⟩, q6, q7, q8, q9, q10, _⟩ := codes_at h (n := ((k : Nat) : Int)) (by omega) (by omega)
  rw [Int.toNat_natCast, List.getElem?_eq_getElem hk] at q1
  obtain rfl : l[k] = c := Option.some.inj q1
  exact ⟨b, o, s, q2, q5, q4.alen, q4, q3, q6, q7, q8, q9, q10⟩
end Go.Proofs.YthiflgncldmkjaaDoor
set_option linter.unusedVariables false
set_option linter.unusedSimpArgs false
set_option maxRecDepth 100000
namespace Go.Proofs.YthiflgncldmkjaaDoor
open Go.Ri
attribute [local congr] bind_lazy jn_lazy

theorem ins_neq_same (i : Ins) : aBin Tryd.prog .neq 29 (.agg (insC i)) (.agg (insC i)) = some (.bool false) := by
  have h := ins_neq i.op i.n i.m i.op i.n i.m
  have e : (!(i.op == i.op && (i.n == i.n && (i.m == i.m && true)))) = false := by simp
  rw [e] at h
  exact h
theorem same_spec (d : Nat) {H : AH} {va vb : AV} {l : List Code} (ha : CodesRow H va l) (hb : CodesRow H vb l) (hlim : ∀ c ∈ l, c.ins.length ≤ 100000) :
    Ret (RT (d + 1) 35 [va, vb] H) fun r => r.1 = .bool true ∧ r.2 = H := by
  rw [R35]
  unfold F35
  have hfew := ha.few
  have h1 := ha.alen
  have h2 := hb.alen
  simp -implicitDefEqProofs only [go_sem, Nat.reduceAdd, Nat.reduceMul, Nat.reduceLT, Nat.reduceLeDiff, Nat.reduceEqDiff, Nat.reduceBEq, reduceCtorEq, Int.reduceLT, Int.reduceLE, Int.reduceEq, Int.reduceGT, Int.reduceGE, Int.reduceToNat, Int.reduceNeg, h1, h2, eq_self]
  refine Ret.then (Q' := fun r => r.1 = .exit 0 ∧ r.2.2 = H) (Ret.upTo (n := l.length) (fun i t => t.1 0 = va ∧ t.1 1 = vb ∧ t.1 5 = .int .i64 (i : Nat) ∧ t.2 = H) (by unfold big; omega) ⟨?_, ?_, ?_, rfl⟩ ?_ ?_) ?_
  · simp -implicitDefEqProofs only [go_sem, Nat.reduceEqDiff, Nat.reduceBEq, reduceCtorEq]
  · simp -implicitDefEqProofs only [go_sem, Nat.reduceEqDiff, Nat.reduceBEq, reduceCtorEq]
  · simp -implicitDefEqProofs only [go_sem, Nat.reduceEqDiff, Nat.reduceBEq, reduceCtorEq]
    rfl
  · rintro i ⟨T1, H1⟩ hi ⟨t0, t1, t5, hH⟩
    simp only at t0 t1 t5 hH
    subst hH
    have hcmp : decide (((i : Nat) : Int) < ((l.length : Nat) : Int)) = true := decide_eq_true (by omega)
    obtain ⟨b1, o1, s1, f1, f2, f3, fi, _, f4, f5, f6, _⟩ := codes_ins ha hi
    obtain ⟨b2, o2, s2, g1, g2, g3, gi, _, g4, g5, g6, _⟩ := codes_ins hb hi
    have hli := hlim l[i] (List.getElem_mem _)
    unfold F35_L1
    simp -implicitDefEqProofs only [go_sem, Nat.reduceAdd, Nat.reduceMul, Nat.reduceLT, Nat.reduceLeDiff, Nat.reduceEqDiff, Nat.reduceBEq, reduceCtorEq, Int.reduceLT, Int.reduceLE, Int.reduceEq, Int.reduceGT, Int.reduceGE, Int.reduceToNat, Int.reduceNeg, t0, t1, t5, h1, hcmp, f1, f2, f3, f4, f5, f6, g1, g2, g3, g4, g5, g6, eq_self, bool_neq, beq_same]
    refine Ret.then (Q' := fun r => r.1 = .exit 2 ∧ r.2.1 0 = va ∧ r.2.1 1 = vb ∧ r.2.1 5 = .int .i64 (i : Nat) ∧ r.2.2 = H1) (Ret.upTo (n := l[i].ins.length) (fun j t => t.1 0 = va ∧ t.1 1 = vb ∧ t.1 5 = .int .i64 (i : Nat) ∧ t.1 6 = .int .i64 (j : Nat) ∧ t.2 = H1) (by unfold big; omega) ⟨?_, ?_, ?_, ?_, rfl⟩ ?_ ?_) ?_
    · simp -implicitDefEqProofs only [go_sem, Nat.reduceEqDiff, Nat.reduceBEq, reduceCtorEq, t0]
    · simp -implicitDefEqProofs only [go_sem, Nat.reduceEqDiff, Nat.reduceBEq, reduceCtorEq, t1]
    · simp -implicitDefEqProofs only [go_sem, Nat.reduceEqDiff, Nat.reduceBEq, reduceCtorEq, t5]
    · simp -implicitDefEqProofs only [go_sem, Nat.reduceEqDiff, Nat.reduceBEq, reduceCtorEq]
      rfl
    · rintro j ⟨T2, H2⟩ hj ⟨u0, u1, u5, u6, hH⟩
      simp only at u0 u1 u5 u6 hH
      subst hH
      have hcj : decide (((j : Nat) : Int) < ((l[i].ins.length : Nat) : Int)) = true := decide_eq_true (by omega)
      obtain ⟨p1, q1, k1, k2, _⟩ := fi.1.at (i := j) (by simpa using hj)
      obtain ⟨p2, q2, m1, m2, _⟩ := gi.1.at (i := j) (by simpa using hj)
      simp only [List.getElem_map] at k2 m2
      unfold F35_L0
      simp -implicitDefEqProofs only [go_sem, Nat.reduceAdd, Nat.reduceMul, Nat.reduceLT, Nat.reduceLeDiff, Nat.reduceEqDiff, Nat.reduceBEq, reduceCtorEq, Int.reduceLT, Int.reduceLE, Int.reduceEq, Int.reduceGT, Int.reduceGE, Int.reduceToNat, Int.reduceNeg, u0, u1, u5, u6, f1, f2, f3, hcj, g1, g2, k1, k2, m1, m2, ins_neq_same, wrapS (i := j) (by omega)]
      refine .mk (.inl ⟨rfl, ?_, ?_, ?_, ?_, rfl⟩)
      · simp -implicitDefEqProofs only [go_sem, Nat.reduceEqDiff, Nat.reduceBEq, reduceCtorEq, u0]
      · simp -implicitDefEqProofs only [go_sem, Nat.reduceEqDiff, Nat.reduceBEq, reduceCtorEq, u1]
      · simp -implicitDefEqProofs only [go_sem, Nat.reduceEqDiff, Nat.reduceBEq, reduceCtorEq, u5]
      · simp -implicitDefEqProofs only [go_sem, Nat.reduceEqDiff, Nat.reduceBEq, reduceCtorEq]
    · rintro ⟨T2, H2⟩ ⟨u0, u1, u5, u6, hH⟩
      simp only at u0 u1 u5 u6 hH
      subst hH
      have hcj : decide (((l[i].ins.length : Nat) : Int) < ((l[i].ins.length : Nat) : Int)) = false := decide_eq_false (by omega)
      unfold F35_L0
      simp -implicitDefEqProofs only [go_sem, Nat.reduceAdd, Nat.reduceMul, Nat.reduceLT, Nat.reduceLeDiff, Nat.reduceEqDiff, Nat.reduceBEq, reduceCtorEq, Int.reduceLT, Int.reduceLE, Int.reduceEq, Int.reduceGT, Int.reduceGE, Int.reduceToNat, Int.reduceNeg, u0, u5, u6, f1, f2, f3, hcj]
      refine .mk ⟨by simp, rfl, ?_, ?_, ?_, rfl⟩
      · simp -implicitDefEqProofs only [go_sem, Nat.reduceEqDiff, Nat.reduceBEq, reduceCtorEq, u0]
      · simp -implicitDefEqProofs only [go_sem, Nat.reduceEqDiff, Nat.reduceBEq, reduceCtorEq, u1]
      · simp -implicitDefEqProofs only [go_sem, Nat.reduceEqDiff, Nat.reduceBEq, reduceCtorEq, u5]
    · rintro ⟨e, T2, H2⟩ ⟨rfl, u0, u1, u5, hH⟩
      simp only at u0 u1 u5 hH
      subst hH
      simp -implicitDefEqProofs only [go_sem, Nat.reduceAdd, Nat.reduceMul, Nat.reduceLT, Nat.reduceLeDiff, Nat.reduceEqDiff, Nat.reduceBEq, reduceCtorEq, Int.reduceLT, Int.reduceLE, Int.reduceEq, Int.reduceGT, Int.reduceGE, Int.reduceToNat, Int.reduceNeg, u5, wrapS (i := i) (by omega)]
      refine .mk (.inl ⟨rfl, ?_, ?_, ?_, rfl⟩)
      · simp -implicitDefEqProofs only [go_sem, Nat.reduceEqDiff, Nat.reduceBEq, reduceCtorEq, u0]
      · simp -implicitDefEqProofs only [go_sem, Nat.reduceEqDiff, Nat.reduceBEq, reduceCtorEq, u1]
      · simp -implicitDefEqProofs only [go_sem, Nat.reduceEqDiff, Nat.reduceBEq, reduceCtorEq]
  · rintro ⟨T1, H1⟩ ⟨t0, t1, t5, hH⟩
    simp only at t0 t1 t5 hH
    subst hH
    have hcmp : decide (((l.length : Nat) : Int) < ((l.length : Nat) : Int)) = false := decide_eq_false (by omega)
    unfold F35_L1
    simp -implicitDefEqProofs only [go_sem, Nat.reduceAdd, Nat.reduceMul, Nat.reduceLT, Nat.reduceLeDiff, Nat.reduceEqDiff, Nat.reduceBEq, reduceCtorEq, Int.reduceLT, Int.reduceLE, Int.reduceEq, Int.reduceGT, Int.reduceGE, Int.reduceToNat, Int.reduceNeg, t0, t5, h1, hcmp]
    exact .mk ⟨by simp, rfl, rfl⟩
  · rintro ⟨e, T1, H1⟩ ⟨rfl, hH⟩
    simp only at hH
    simp -implicitDefEqProofs only [go_sem, Nat.reduceAdd, Nat.reduceMul, Nat.reduceLT, Nat.reduceLeDiff, Nat.reduceEqDiff, Nat.reduceBEq, reduceCtorEq, Int.reduceLT, Int.reduceLE, Int.reduceEq, Int.reduceGT, Int.reduceGE, Int.reduceToNat, Int.reduceNeg]
    exact .mk ⟨rfl, hH⟩
end Go.Proofs.YthiflgncldmkjaaDoor
set_option linter.unusedVariables false
set_option linter.unusedSimpArgs false
set_option maxRecDepth 100000
namespace Go.Proofs.YthiflgncldmkjaaDoor
open Go.Ri
attribute [local congr] bind_lazy jn_lazy

theorem big65 : 65 ≤ big := by unfold big; omega
theorem rbits (d : Nat) (n : Int) {H : AH} (hw : H.wf) : Ret (RT (d + 1) 139 [.int .i64 n] H) fun r => ArgB r.2.next r.2 r.1 (bits (ofI n) 64) ∧ Ext H.next H r.2 := by
  rw [R139]
  refine (bits_spec (RT d) n hw big big65).mono ?_
  rintro ⟨v, H1⟩ ⟨h1, h2⟩
  exact ⟨.of h1 h2.wf (bits_length _ _) (bits_two _ _), h2⟩
theorem rplus (d : Nat) {va vb : AV} {a b : List Nat} {H : AH} (hw : H.wf) (ha : ArgB H.next H va a) (hb : ArgB H.next H vb b) (hla : a.length = 64) (hlb : b.length = 64) :
    Ret (RT (d + 1) 138 [va, vb, .int .i64 0] H) fun r => ArgB r.2.next r.2 r.1 (plusL a b 0) ∧ Ext H.next H r.2 := by
  rw [R138]
  refine (plus_spec (RT d) (c := 0) hw ha hb (by omega) big big65).mono ?_
  rintro ⟨v, H1⟩ ⟨h1, h2⟩
  exact ⟨.of h1 h2.wf (by rw [plusL_length _ _ _ (by rw [hla, hlb]), hla]) (plusL_two _ _ _), h2⟩
theorem rnumber (d : Nat) {va : AV} {a : List Nat} {H : AH} (hw : H.wf) (ha : ArgB H.next H va a) : Ret (RT (d + 1) 137 [va] H) fun r => r.1 = .int .i64 (IntKind.i64.wrap (val a : Nat)) ∧ r.2 = H := by
  rw [R137]
  exact number_spec (RT d) hw ha big big65
theorem ofI_int (a : Int) : ((ofI a : Nat) : Int) = a % 18446744073709551616 := by unfold ofI; omega
theorem two64 : (2 : Nat) ^ 64 = 18446744073709551616 := by decide
theorem add_val (a b : Int) : IntKind.i64.wrap (val (plusL (bits (ofI a) 64) (bits (ofI b) 64) 0) : Nat) = IntKind.i64.wrap (a + b) := by
  rw [val_plus _ _ _ (by simp [bits_length]), bits_length, val_bits, val_bits, two64, wrap_i, wrap_i]
  have h1 := ofI_int a
  have h2 := ofI_int b
  generalize ofI a = p at *
  generalize ofI b = q at *
  omega
theorem mul_val (a b : Int) : IntKind.i64.wrap ((ofI a * ofI b % 18446744073709551616 : Nat) : Int) = IntKind.i64.wrap (a * b) := by
  have h1 := ofI_int a
  have h2 := ofI_int b
  have h3 : ((ofI a * ofI b % 18446744073709551616 : Nat) : Int) = a * b % 18446744073709551616 := by
    rw [Int.natCast_emod, Int.natCast_mul, h1, h2]
    exact (Int.mul_emod a b 18446744073709551616).symm
  rw [h3, wrap_i, wrap_i]
  generalize a * b = z
  omega
theorem wrap_neg (q : Int) : IntKind.i64.wrap (0 - IntKind.i64.wrap q) = IntKind.i64.wrap (-q) := by
  rw [wrap_i, wrap_i, wrap_i]
  omega
theorem wrap_sub_mul (a q b : Int) : IntKind.i64.wrap (a - IntKind.i64.wrap (IntKind.i64.wrap q * b)) = IntKind.i64.wrap (a - q * b) := by
  have h1 : ∃ k : Int, IntKind.i64.wrap q = q + 18446744073709551616 * k := ⟨-((q + 9223372036854775808) / 18446744073709551616), by rw [wrap_i]; omega⟩
  obtain ⟨k, hk⟩ := h1
  rw [hk, Int.add_mul, Int.mul_assoc]
  generalize q * b = z
  generalize k * b = w
  rw [wrap_i, wrap_i, wrap_i]
  omega
theorem radd_spec (d : Nat) (a b : Int) {H : AH} (hw : H.wf) : Ret (RT (d + 2) 130 [.int .i64 a, .int .i64 b] H) fun r => r.1 = .int .i64 (IntKind.i64.wrap (a + b)) ∧ Ext H.next H r.2 := by
  rw [R130]
  unfold F130
  obtain ⟨⟨v1, H1⟩, h1, A1, x1⟩ := rbits d a hw
  simp only at A1 x1
  obtain ⟨⟨v2, H2⟩, h2, A2, x2⟩ := rbits d b x1.wf
  simp only at A2 x2
  obtain ⟨⟨v3, H3⟩, h3, A3, x3⟩ := rplus d x2.wf (A1.ext x2) A2 (bits_length _ _) (bits_length _ _)
  simp only at A3 x3
  obtain ⟨⟨v4, H4⟩, h4, rfl, rfl⟩ := rnumber d x3.wf A3
  simp -implicitDefEqProofs only [go_sem, Nat.reduceAdd, Nat.reduceMul, Nat.reduceLT, Nat.reduceLeDiff, Nat.reduceEqDiff, Nat.reduceBEq, reduceCtorEq, Int.reduceLT, Int.reduceLE, Int.reduceEq, Int.reduceGT, Int.reduceGE, Int.reduceToNat, Int.reduceNeg, h1, h2, h3, h4]
  exact .mk ⟨congrArg (AV.int .i64) (add_val a b), (x1.trans x2 x1.next).trans x3 (Nat.le_trans x1.next x2.next)⟩
theorem rsub_eq (d : Nat) (a b : Int) (H : AH) : RT d 131 [.int .i64 a, .int .i64 b] H = some (.int .i64 (IntKind.i64.wrap (a - b)), H) := (RT_flat rfl d _ H).trans rfl
theorem rneg_eq (d : Nat) (a : Int) (H : AH) : RT d 115 [.int .i64 a] H = some (.int .i64 (IntKind.i64.wrap (0 - a)), H) := (RT_flat rfl d _ H).trans rfl
theorem rsize_eq (d : Nat) {a : Int} (h : InI a) (H : AH) : RT d 93 [.int .i64 a] H = some (.int .u64 (a.natAbs : Nat), H) := (RT_flat rfl d _ H).trans (chk_pos h _)

structure IMu (H0 : AH) (p q : Nat) (i : Nat) (t : St) : Prop where
  t8 : t.1 8 = .int .i64 (i : Nat)
  ext : Ext H0.next H0 t.2
  y : ArgB t.2.next t.2 (t.1 7) (bits q 64)
  rest : ∃ s x : List Nat, ArgB t.2.next t.2 (t.1 5) s ∧ ArgB t.2.next t.2 (t.1 6) x ∧ s.length = 64 ∧ x.length = 64 ∧ val s = p * (q % 2 ^ i) % 18446744073709551616 ∧ val x = p * 2 ^ i % 18446744073709551616
theorem bits_get {u k i : Nat} (h : i < k) : (bits u k)[i]'(by rw [bits_length]; exact h) = u / 2 ^ i % 2 := by simp [bits]
theorem rmul_spec (d : Nat) (a b : Int) {H : AH} (hw : H.wf) : Ret (RT (d + 2) 132 [.int .i64 a, .int .i64 b] H) fun r => r.1 = .int .i64 (IntKind.i64.wrap (a * b)) ∧ Ext H.next H r.2 := by
  rw [R132]
  unfold F132
  obtain ⟨⟨v1, H1⟩, h1, A1, x1⟩ := rbits d 0 hw
  simp only at A1 x1
  obtain ⟨⟨v2, H2⟩, h2, A2, x2⟩ := rbits d a x1.wf
  simp only at A2 x2
  obtain ⟨⟨v3, H3⟩, h3, A3, x3⟩ := rbits d b x2.wf
  simp only at A3 x3
  simp -implicitDefEqProofs only [go_sem, Nat.reduceAdd, Nat.reduceMul, Nat.reduceLT, Nat.reduceLeDiff, Nat.reduceEqDiff, Nat.reduceBEq, reduceCtorEq, Int.reduceLT, Int.reduceLE, Int.reduceEq, Int.reduceGT, Int.reduceGE, Int.reduceToNat, Int.reduceNeg, h1, h2, h3]
  refine Ret.then (Q' := fun r => r.1 = .exit 0 ∧ Ext H.next H r.2.2 ∧ ∃ s, ArgB r.2.2.next r.2.2 (r.2.1 5) s ∧ val s = ofI a * ofI b % 18446744073709551616) (Ret.upTo (n := 64) (IMu H (ofI a) (ofI b)) (by unfold big; omega)
    ⟨?_, (x1.trans x2 x1.next).trans x3 (Nat.le_trans x1.next x2.next), ?_, bits (ofI 0) 64, bits (ofI a) 64, ?_, ?_, bits_length _ _, bits_length _ _, ?_, ?_⟩ ?_ ?_) ?_
  · simp -implicitDefEqProofs only [go_sem, Nat.reduceEqDiff, Nat.reduceBEq, reduceCtorEq]
    rfl
  · simp -implicitDefEqProofs only [go_sem, Nat.reduceEqDiff, Nat.reduceBEq, reduceCtorEq]
    exact A3
  · simp -implicitDefEqProofs only [go_sem, Nat.reduceEqDiff, Nat.reduceBEq, reduceCtorEq]
    exact (A1.ext x2).ext x3
  · simp -implicitDefEqProofs only [go_sem, Nat.reduceEqDiff, Nat.reduceBEq, reduceCtorEq]
    exact A2.ext x3
  · rw [val_bits, two64]
    simp [ofI, Nat.mod_one]
  · rw [val_bits, two64]
    simp
  · rintro i ⟨T, H4⟩ hi ⟨t8, hx, hy, s, x, hs, hxx, hls, hlx, vs, vx⟩
    simp only at t8 hx hy hs hxx
    have hcmp : decide (((i : Nat) : Int) < 64) = true := decide_eq_true (by omega)
    obtain ⟨by_, cy, By, ey, hby, hBy, hcy, _, _⟩ := id hy
    have hidx : idxSl (T 7) (.int .i64 (i : Nat)) 1 = some (.ptr (some (by_, i))) := by rw [ey]; exact Go.Proofs.YthiflgncldmkjaaDoor.idxSl_at hi
    have hget : By.cells[i]? = some (.int .i64 ((ofI b / 2 ^ i % 2 : Nat) : Int)) := by
      rw [hcy, IL, List.getElem?_map, List.getElem?_eq_getElem (by rw [bits_length]; exact hi), bits_get hi]
      rfl
    have hpow : (2 : Nat) ^ (i + 1) = 2 * 2 ^ i := by rw [Nat.pow_succ]; omega
    have hmod : ofI b % 2 ^ (i + 1) = ofI b % 2 ^ i + 2 ^ i * (ofI b / 2 ^ i % 2) := by rw [Nat.pow_succ, Nat.mod_mul]
    have vx2 : (val x + val x) % 18446744073709551616 = ofI a * 2 ^ (i + 1) % 18446744073709551616 := by
      rw [vx, hpow, ← Nat.mul_assoc, Nat.mul_comm (ofI a) 2, Nat.mul_assoc]
      omega
    unfold F132_L1
    by_cases hb : ofI b / 2 ^ i % 2 = 1
    · have h1 : decide (((ofI b / 2 ^ i % 2 : Nat) : Int) = 1) = true := decide_eq_true (by omega)
      obtain ⟨⟨v5, H5⟩, h5, A5, x5⟩ := rplus d hx.wf hs hxx hls hlx
      simp only at A5 x5
      have hxx5 := hxx.ext x5
      obtain ⟨⟨v6, H6⟩, h6, A6, x6⟩ := rplus d x5.wf hxx5 hxx5 hlx hlx
      simp only at A6 x6
      simp -implicitDefEqProofs only [go_sem, Nat.reduceAdd, Nat.reduceMul, Nat.reduceLT, Nat.reduceLeDiff, Nat.reduceEqDiff, Nat.reduceBEq, reduceCtorEq, Int.reduceLT, Int.reduceLE, Int.reduceEq, Int.reduceGT, Int.reduceGE, Int.reduceToNat, Int.reduceNeg, t8, hcmp, hidx, hBy, hget, h1, h5, F132_J0, h6, wrapS (i := i) (by omega)]
      refine .mk (.inl ⟨rfl, ?_, (hx.trans x5 hx.next).trans x6 (Nat.le_trans hx.next x5.next), ?_, plusL s x 0, plusL x x 0, ?_, ?_, by rw [plusL_length _ _ _ (by rw [hls, hlx]), hls], by rw [plusL_length _ _ _ rfl, hlx], ?_, ?_⟩)
      · simp -implicitDefEqProofs only [go_sem, Nat.reduceEqDiff, Nat.reduceBEq, reduceCtorEq]
      · simp -implicitDefEqProofs only [go_sem, Nat.reduceEqDiff, Nat.reduceBEq, reduceCtorEq]
        exact (hy.ext x5).ext x6
      · simp -implicitDefEqProofs only [go_sem, Nat.reduceEqDiff, Nat.reduceBEq, reduceCtorEq]
        exact A5.ext x6
      · simp -implicitDefEqProofs only [go_sem, Nat.reduceEqDiff, Nat.reduceBEq, reduceCtorEq]
        exact A6
      · rw [val_plus _ _ _ (by rw [hls, hlx]), hls, two64, vs, vx, hmod, hb, Nat.mul_one, Nat.mul_add]
        omega
      · rw [val_plus _ _ _ rfl, hlx, two64, Nat.add_zero]
        exact vx2
    · have h1 : decide (((ofI b / 2 ^ i % 2 : Nat) : Int) = 1) = false := decide_eq_false (by omega)
      have hb0 : ofI b / 2 ^ i % 2 = 0 := by omega
      obtain ⟨⟨v6, H6⟩, h6, A6, x6⟩ := rplus d hx.wf hxx hxx hlx hlx
      simp only at A6 x6
      simp -implicitDefEqProofs only [go_sem, Nat.reduceAdd, Nat.reduceMul, Nat.reduceLT, Nat.reduceLeDiff, Nat.reduceEqDiff, Nat.reduceBEq, reduceCtorEq, Int.reduceLT, Int.reduceLE, Int.reduceEq, Int.reduceGT, Int.reduceGE, Int.reduceToNat, Int.reduceNeg, t8, hcmp, hidx, hBy, hget, h1, F132_J0, h6, wrapS (i := i) (by omega)]
      refine .mk (.inl ⟨rfl, ?_, hx.trans x6 hx.next, ?_, s, plusL x x 0, ?_, ?_, hls, by rw [plusL_length _ _ _ rfl, hlx], ?_, ?_⟩)
      · simp -implicitDefEqProofs only [go_sem, Nat.reduceEqDiff, Nat.reduceBEq, reduceCtorEq]
      · simp -implicitDefEqProofs only [go_sem, Nat.reduceEqDiff, Nat.reduceBEq, reduceCtorEq]
        exact hy.ext x6
      · simp -implicitDefEqProofs only [go_sem, Nat.reduceEqDiff, Nat.reduceBEq, reduceCtorEq]
        exact hs.ext x6
      · simp -implicitDefEqProofs only [go_sem, Nat.reduceEqDiff, Nat.reduceBEq, reduceCtorEq]
        exact A6
      · rw [vs, hmod, hb0, Nat.mul_zero, Nat.add_zero]
      · rw [val_plus _ _ _ rfl, hlx, two64, Nat.add_zero]
        exact vx2
  · rintro ⟨T, H4⟩ ⟨t8, hx, hy, s, x, hs, hxx, hls, hlx, vs, vx⟩
    simp only at t8 hx hy hs hxx
    have hcmp : decide (((64 : Nat) : Int) < 64) = false := by decide
    unfold F132_L1
    simp -implicitDefEqProofs only [go_sem, Nat.reduceAdd, Nat.reduceMul, Nat.reduceLT, Nat.reduceLeDiff, Nat.reduceEqDiff, Nat.reduceBEq, reduceCtorEq, Int.reduceLT, Int.reduceLE, Int.reduceEq, Int.reduceGT, Int.reduceGE, Int.reduceToNat, Int.reduceNeg, t8, hcmp]
    refine .mk ⟨by simp, rfl, hx, s, ?_, ?_⟩
    · simp -implicitDefEqProofs only [go_sem, Nat.reduceEqDiff, Nat.reduceBEq, reduceCtorEq]
      exact hs
    · rw [vs, two64, Nat.mod_eq_of_lt (ofI_lt b)]
  · rintro ⟨e, T, H4⟩ ⟨rfl, hx, s, hs, vs⟩
    simp only at hx hs
    obtain ⟨⟨v5, H5⟩, h5, hv5, hH5⟩ := rnumber d hx.wf hs
    simp only at hv5 hH5
    subst hv5 hH5
    simp -implicitDefEqProofs only [go_sem, Nat.reduceAdd, Nat.reduceMul, Nat.reduceLT, Nat.reduceLeDiff, Nat.reduceEqDiff, Nat.reduceBEq, reduceCtorEq, Int.reduceLT, Int.reduceLE, Int.reduceEq, Int.reduceGT, Int.reduceGE, Int.reduceToNat, Int.reduceNeg, h5]
    rw [vs]
    exact .mk ⟨congrArg (AV.int .i64) (mul_val a b), hx⟩

theorem shr_nat {x i : Nat} (hi : i < 64) : aBin Tryd.prog .shr 131 (.int .u64 (x : Nat)) (.int .u64 (i : Nat)) = some (.int .u64 ((x / 2 ^ i : Nat) : Int)) := by
  show aShift .shr .u64 _ _ = _
  unfold aShift
  rw [if_neg (by omega)]
  simp only [IntKind.bits, Int.toNat_natCast, show min i 64 = i by omega]
  congr 2
  rw [Int.fdiv_eq_ediv_of_nonneg _ (Int.pow_nonneg (by omega))]
  norm_cast
theorem shift_step {a b i q r : Nat} (h : a / 2 ^ (i + 1) = q * b + r) (hr : r < b) :
    (¬ b ≤ 2 * r + a / 2 ^ i % 2 → a / 2 ^ i = 2 * q * b + (2 * r + a / 2 ^ i % 2)) ∧ (b ≤ 2 * r + a / 2 ^ i % 2 → a / 2 ^ i = (2 * q + 1) * b + (2 * r + a / 2 ^ i % 2 - b) ∧ 2 * r + a / 2 ^ i % 2 - b < b) := by
  have h1 : a / 2 ^ i = 2 * (a / 2 ^ (i + 1)) + a / 2 ^ i % 2 := by
    rw [Nat.pow_succ, ← Nat.div_div_eq_div_mul]
    omega
  have h2 : 2 * q * b = 2 * (q * b) := by rw [Nat.mul_assoc]
  have h3 : (2 * q + 1) * b = 2 * (q * b) + b := by rw [Nat.add_mul, Nat.one_mul, h2]
  have h4 : a / 2 ^ i % 2 < 2 := Nat.mod_lt _ (by omega)
  constructor
  · intro _
    omega
  · intro _
    omega
structure IPa (H : AH) (a b : Nat) (j : Nat) (t : St) : Prop where
  t0 : t.1 0 = .int .u64 (a : Nat)
  t1 : t.1 1 = .int .u64 (b : Nat)
  t8 : t.1 8 = .int .i64 (63 - (j : Int))
  heap : t.2 = H
  rest : ∃ q r : Nat, t.1 6 = .int .u64 (q : Nat) ∧ t.1 7 = .int .u64 (r : Nat) ∧ a / 2 ^ (64 - j) = q * b + r ∧ r < b
theorem rparted_spec (d : Nat) {a b : Nat} (ha : a ≤ 9223372036854775808) (hb0 : 0 < b) (hb : b ≤ 9223372036854775808) (H : AH) : Ret (RT (d + 1) 141 [.int .u64 (a : Nat), .int .u64 (b : Nat)] H) fun r => r.1 = .tuple [.int .u64 ((a / b : Nat) : Int), .int .u64 ((a % b : Nat) : Int)] ∧ r.2 = H := by
  rw [R141]
  unfold F141
  refine Ret.then (Q' := fun r => r.1 = .exit 0 ∧ r.2.1 6 = .int .u64 ((a / b : Nat) : Int) ∧ r.2.1 7 = .int .u64 ((a % b : Nat) : Int) ∧ r.2.2 = H) (Ret.upTo (n := 64) (IPa H a b) (by unfold big; omega) ⟨?_, ?_, ?_, rfl, 0, 0, ?_, ?_, ?_, hb0⟩ ?_ ?_) ?_
  · simp -implicitDefEqProofs only [go_sem, Nat.reduceEqDiff, Nat.reduceBEq, reduceCtorEq]
  · simp -implicitDefEqProofs only [go_sem, Nat.reduceEqDiff, Nat.reduceBEq, reduceCtorEq]
  · simp -implicitDefEqProofs only [go_sem, Nat.reduceEqDiff, Nat.reduceBEq, reduceCtorEq]
    rfl
  · simp -implicitDefEqProofs only [go_sem, Nat.reduceEqDiff, Nat.reduceBEq, reduceCtorEq]
    rfl
  · simp -implicitDefEqProofs only [go_sem, Nat.reduceEqDiff, Nat.reduceBEq, reduceCtorEq]
    rfl
  · simp
    omega
  · rintro j ⟨T, H1⟩ hj ⟨t0, t1, t8, hH, q, r, t6, t7, hq, hr⟩
    simp only at t0 t1 t8 hH t6 t7
    subst hH
    have hcmp : decide ((63 - (j : Int)) ≥ 0) = true := decide_eq_true (by omega)
    have hij : 64 - j = (63 - j) + 1 := by omega
    rw [hij] at hq
    have st := shift_step hq hr
    have hbit : a / 2 ^ (63 - j) % 2 < 2 := Nat.mod_lt _ (by omega)
    have hcv : IntKind.u64.wrap (63 - (j : Int)) = ((63 - j : Nat) : Int) := by rw [wrap_u (by omega) (by omega)]; omega
    have hsh := shr_nat (x := a) (i := 63 - j) (by omega)
    have hrem := fun t => aBin_rem Tryd.prog t .u64 ((a / 2 ^ (63 - j) : Nat) : Int) 2 (by decide)
    have htm := tmod2 (a / 2 ^ (63 - j))
    have hov : decide (((r : Nat) : Int) ≥ 9223372036854775808) = false := decide_eq_false (by omega)
    have h2r : IntKind.u64.wrap (((r : Nat) : Int) * 2) = ((r : Nat) : Int) * 2 := wrap_u (by omega) (by omega)
    have hr2 : IntKind.u64.wrap (((r : Nat) : Int) * 2 + ((a / 2 ^ (63 - j) % 2 : Nat) : Int)) = ((2 * r + a / 2 ^ (63 - j) % 2 : Nat) : Int) := by rw [wrap_u (by omega) (by omega)]; omega
    have hqb : q ≤ 4611686018427387904 := by
      have h1 : q * b ≤ a / 2 ^ (63 - j + 1) := by omega
      have h2 : a / 2 ^ (63 - j + 1) ≤ a / 2 := by
        rw [Nat.pow_succ, Nat.mul_comm, ← Nat.div_div_eq_div_mul]
        exact Nat.div_le_self _ _
      have h3 : q ≤ q * b := Nat.le_mul_of_pos_right q hb0
      omega
    have hq2 : IntKind.u64.wrap (((q : Nat) : Int) * 2) = ((2 * q : Nat) : Int) := by rw [wrap_u (by omega) (by omega)]; omega
    have h8 : IntKind.i64.wrap (63 - (j : Int) - 1) = 63 - ((j + 1 : Nat) : Int) := by rw [wrap_id (by unfold InI; omega)]; omega
    have h63 : 64 - (j + 1) = 63 - j := by omega
    unfold F141_L1
    by_cases hge : b ≤ 2 * r + a / 2 ^ (63 - j) % 2
    · have hgd : decide (((2 * r + a / 2 ^ (63 - j) % 2 : Nat) : Int) ≥ ((b : Nat) : Int)) = true := decide_eq_true (by omega)
      have hsb : IntKind.u64.wrap (((2 * r + a / 2 ^ (63 - j) % 2 : Nat) : Int) - ((b : Nat) : Int)) = ((2 * r + a / 2 ^ (63 - j) % 2 - b : Nat) : Int) := by rw [wrap_u (by omega) (by omega)]; omega
      have hq1 : IntKind.u64.wrap (((2 * q : Nat) : Int) + 1) = ((2 * q + 1 : Nat) : Int) := by rw [wrap_u (by omega) (by omega)]; omega
      simp -implicitDefEqProofs only [go_sem, Nat.reduceAdd, Nat.reduceMul, Nat.reduceLT, Nat.reduceLeDiff, Nat.reduceEqDiff, Nat.reduceBEq, reduceCtorEq, Int.reduceLT, Int.reduceLE, Int.reduceEq, Int.reduceGT, Int.reduceGE, Int.reduceToNat, Int.reduceNeg, t0, t1, t6, t7, t8, hcmp, hov, h2r, hcv, hsh, hrem, htm, hr2, hq2, hgd, hsb, hq1, F141_J0, h8]
      refine .mk (.inl ⟨rfl, ?_, ?_, ?_, rfl, 2 * q + 1, 2 * r + a / 2 ^ (63 - j) % 2 - b, ?_, ?_, ?_, (st.2 hge).2⟩)
      · simp -implicitDefEqProofs only [go_sem, Nat.reduceEqDiff, Nat.reduceBEq, reduceCtorEq, t0]
      · simp -implicitDefEqProofs only [go_sem, Nat.reduceEqDiff, Nat.reduceBEq, reduceCtorEq, t1]
      · simp -implicitDefEqProofs only [go_sem, Nat.reduceEqDiff, Nat.reduceBEq, reduceCtorEq]
      · simp -implicitDefEqProofs only [go_sem, Nat.reduceEqDiff, Nat.reduceBEq, reduceCtorEq]
      · simp -implicitDefEqProofs only [go_sem, Nat.reduceEqDiff, Nat.reduceBEq, reduceCtorEq]
      · rw [h63]; exact (st.2 hge).1
    · have hgd : decide (((2 * r + a / 2 ^ (63 - j) % 2 : Nat) : Int) ≥ ((b : Nat) : Int)) = false := decide_eq_false (by omega)
      simp -implicitDefEqProofs only [go_sem, Nat.reduceAdd, Nat.reduceMul, Nat.reduceLT, Nat.reduceLeDiff, Nat.reduceEqDiff, Nat.reduceBEq, reduceCtorEq, Int.reduceLT, Int.reduceLE, Int.reduceEq, Int.reduceGT, Int.reduceGE, Int.reduceToNat, Int.reduceNeg, t0, t1, t6, t7, t8, hcmp, hov, h2r, hcv, hsh, hrem, htm, hr2, hq2, hgd, F141_J0, h8]
      refine .mk (.inl ⟨rfl, ?_, ?_, ?_, rfl, 2 * q, 2 * r + a / 2 ^ (63 - j) % 2, ?_, ?_, ?_, by omega⟩)
      · simp -implicitDefEqProofs only [go_sem, Nat.reduceEqDiff, Nat.reduceBEq, reduceCtorEq, t0]
      · simp -implicitDefEqProofs only [go_sem, Nat.reduceEqDiff, Nat.reduceBEq, reduceCtorEq, t1]
      · simp -implicitDefEqProofs only [go_sem, Nat.reduceEqDiff, Nat.reduceBEq, reduceCtorEq]
      · simp -implicitDefEqProofs only [go_sem, Nat.reduceEqDiff, Nat.reduceBEq, reduceCtorEq]
      · simp -implicitDefEqProofs only [go_sem, Nat.reduceEqDiff, Nat.reduceBEq, reduceCtorEq]
      · rw [h63]; exact st.1 hge
  · rintro ⟨T, H1⟩ ⟨t0, t1, t8, hH, q, r, t6, t7, hq, hr⟩
    simp only at t0 t1 t8 hH t6 t7
    subst hH
    have hcmp : decide ((63 - ((64 : Nat) : Int)) ≥ 0) = false := by decide
    have hdm : a / b = q ∧ a % b = r := by
      simp only [Nat.sub_self, Nat.pow_zero, Nat.div_one] at hq
      have e : a = r + b * q := by rw [hq, Nat.mul_comm]; omega
      constructor
      · rw [e, Nat.add_mul_div_left _ _ hb0, Nat.div_eq_of_lt hr, Nat.zero_add]
      · rw [e, Nat.add_mul_mod_self_left, Nat.mod_eq_of_lt hr]
    unfold F141_L1
    simp -implicitDefEqProofs only [go_sem, Nat.reduceAdd, Nat.reduceMul, Nat.reduceLT, Nat.reduceLeDiff, Nat.reduceEqDiff, Nat.reduceBEq, reduceCtorEq, Int.reduceLT, Int.reduceLE, Int.reduceEq, Int.reduceGT, Int.reduceGE, Int.reduceToNat, Int.reduceNeg, t8, hcmp]
    refine .mk ⟨by simp, rfl, ?_, ?_, rfl⟩
    · simp -implicitDefEqProofs only [go_sem, Nat.reduceAdd, Nat.reduceMul, Nat.reduceLT, Nat.reduceLeDiff, Nat.reduceEqDiff, Nat.reduceBEq, reduceCtorEq, Int.reduceLT, Int.reduceLE, Int.reduceEq, Int.reduceGT, Int.reduceGE, Int.reduceToNat, Int.reduceNeg, t6, hdm.1]
    · simp -implicitDefEqProofs only [go_sem, Nat.reduceAdd, Nat.reduceMul, Nat.reduceLT, Nat.reduceLeDiff, Nat.reduceEqDiff, Nat.reduceBEq, reduceCtorEq, Int.reduceLT, Int.reduceLE, Int.reduceEq, Int.reduceGT, Int.reduceGE, Int.reduceToNat, Int.reduceNeg, t7, hdm.2]
  · rintro ⟨e, T, H1⟩ ⟨rfl, t6, t7, hH⟩
    simp only at t6 t7 hH
    simp -implicitDefEqProofs only [go_sem, Nat.reduceAdd, Nat.reduceMul, Nat.reduceLT, Nat.reduceLeDiff, Nat.reduceEqDiff, Nat.reduceBEq, reduceCtorEq, Int.reduceLT, Int.reduceLE, Int.reduceEq, Int.reduceGT, Int.reduceGE, Int.reduceToNat, Int.reduceNeg, t6, t7]
    exact .mk ⟨rfl, hH⟩
theorem rdiv_spec (d : Nat) {a b : Int} (ha : InI a) (hb : InI b) (H : AH) : Ret (RT (d + 2) 133 [.int .i64 a, .int .i64 b] H) fun r => r.2 = H ∧ r.1 = if b = 0 then .tuple [.int .i64 0, .int .i64 11] else .tuple [.int .i64 (IntKind.i64.wrap (a.tdiv b)), .int .i64 0] := by
  rw [R133]
  unfold F133
  by_cases h0 : b = 0
  · simp -implicitDefEqProofs only [go_sem, Nat.reduceAdd, Nat.reduceMul, Nat.reduceLT, Nat.reduceLeDiff, Nat.reduceEqDiff, Nat.reduceBEq, reduceCtorEq, Int.reduceLT, Int.reduceLE, Int.reduceEq, Int.reduceGT, Int.reduceGE, Int.reduceToNat, Int.reduceNeg, decide_eq_true h0]
    exact .mk ⟨rfl, (if_pos h0).symm⟩
  · have hA : a.natAbs ≤ 9223372036854775808 := by unfold InI at ha; omega
    have hB : b.natAbs ≤ 9223372036854775808 := by unfold InI at hb; omega
    obtain ⟨⟨v, H1⟩, h141, hv, hH1⟩ := rparted_spec d hA (show 0 < b.natAbs by omega) hB H
    simp only at hv hH1
    subst hv hH1
    have habs : (a.tdiv b).natAbs = a.natAbs / b.natAbs := Int.natAbs_tdiv a b
    generalize hq : a.natAbs / b.natAbs = q at *
    have hq9 : q ≤ 9223372036854775808 := by rw [← hq]; exact Nat.le_trans (Nat.div_le_self _ _) hA
    have fin : ∀ x : Int, (x = IntKind.i64.wrap (a.tdiv b)) → Ret (some ((AV.tuple [.int .i64 x, .int .i64 0]), H1)) fun r => r.2 = H1 ∧ r.1 = if b = 0 then .tuple [.int .i64 0, .int .i64 11] else .tuple [.int .i64 (IntKind.i64.wrap (a.tdiv b)), .int .i64 0] := by
      rintro x rfl
      exact .mk ⟨rfl, (if_neg h0).symm⟩
    by_cases hsa : a < 0
    · by_cases hsb : b < 0
      · have hp : a.tdiv b = q := by
          have : 0 ≤ a.tdiv b := Int.tdiv_nonneg_of_nonpos_of_nonpos (by omega) (by omega)
          omega
        simp -implicitDefEqProofs only [go_sem, Nat.reduceAdd, Nat.reduceMul, Nat.reduceLT, Nat.reduceLeDiff, Nat.reduceEqDiff, Nat.reduceBEq, reduceCtorEq, Int.reduceLT, Int.reduceLE, Int.reduceEq, Int.reduceGT, Int.reduceGE, Int.reduceToNat, Int.reduceNeg, decide_eq_false h0, rsize_eq d ha, rsize_eq d hb, rsize_eq (d + 1) ha, rsize_eq (d + 1) hb, h141, decide_eq_true hsa, decide_eq_true hsb, bool_neq, beq_same]
        exact fin _ (by rw [hp])
      · have hp : a.tdiv b = -(q : Int) := by
          have : 0 ≤ (-a).tdiv b := Int.tdiv_nonneg (by omega) (by omega)
          rw [Int.neg_tdiv] at this
          omega
        have hne : (!(true == false)) = true := rfl
        simp -implicitDefEqProofs only [go_sem, Nat.reduceAdd, Nat.reduceMul, Nat.reduceLT, Nat.reduceLeDiff, Nat.reduceEqDiff, Nat.reduceBEq, reduceCtorEq, Int.reduceLT, Int.reduceLE, Int.reduceEq, Int.reduceGT, Int.reduceGE, Int.reduceToNat, Int.reduceNeg, decide_eq_false h0, rsize_eq d ha, rsize_eq d hb, rsize_eq (d + 1) ha, rsize_eq (d + 1) hb, h141, decide_eq_true hsa, decide_eq_false hsb, bool_neq, hne, rneg_eq]
        exact fin _ (by rw [hp, wrap_neg])
    · by_cases hsb : b < 0
      · have hp : a.tdiv b = -(q : Int) := by
          have : 0 ≤ a.tdiv (-b) := Int.tdiv_nonneg (by omega) (by omega)
          rw [Int.tdiv_neg] at this
          omega
        have hne : (!(false == true)) = true := rfl
        simp -implicitDefEqProofs only [go_sem, Nat.reduceAdd, Nat.reduceMul, Nat.reduceLT, Nat.reduceLeDiff, Nat.reduceEqDiff, Nat.reduceBEq, reduceCtorEq, Int.reduceLT, Int.reduceLE, Int.reduceEq, Int.reduceGT, Int.reduceGE, Int.reduceToNat, Int.reduceNeg, decide_eq_false h0, rsize_eq d ha, rsize_eq d hb, rsize_eq (d + 1) ha, rsize_eq (d + 1) hb, h141, decide_eq_false hsa, decide_eq_true hsb, bool_neq, hne, rneg_eq]
        exact fin _ (by rw [hp, wrap_neg])
      · have hp : a.tdiv b = q := by
          have : 0 ≤ a.tdiv b := Int.tdiv_nonneg (by omega) (by omega)
          omega
        simp -implicitDefEqProofs only [go_sem, Nat.reduceAdd, Nat.reduceMul, Nat.reduceLT, Nat.reduceLeDiff, Nat.reduceEqDiff, Nat.reduceBEq, reduceCtorEq, Int.reduceLT, Int.reduceLE, Int.reduceEq, Int.reduceGT, Int.reduceGE, Int.reduceToNat, Int.reduceNeg, decide_eq_false h0, rsize_eq d ha, rsize_eq d hb, rsize_eq (d + 1) ha, rsize_eq (d + 1) hb, h141, decide_eq_false hsa, decide_eq_false hsb, bool_neq, beq_same]
        exact fin _ (by rw [hp])
theorem rmod_spec (d : Nat) {a b : Int} (ha : InI a) (hb : InI b) {H : AH} (hw : H.wf) : Ret (RT (d + 3) 134 [.int .i64 a, .int .i64 b] H) fun r => Ext H.next H r.2 ∧ r.1 = if b = 0 then .tuple [.int .i64 0, .int .i64 11] else .tuple [.int .i64 (a.tmod b), .int .i64 0] := by
  rw [R134]
  unfold F134
  obtain ⟨⟨v, H1⟩, h133, hH1, hv⟩ := rdiv_spec d ha hb H
  simp only at hH1 hv
  subst hH1 hv
  by_cases h0 : b = 0
  · rw [if_pos h0] at h133 ⊢
    simp -implicitDefEqProofs only [go_sem, Nat.reduceAdd, Nat.reduceMul, Nat.reduceLT, Nat.reduceLeDiff, Nat.reduceEqDiff, Nat.reduceBEq, reduceCtorEq, Int.reduceLT, Int.reduceLE, Int.reduceEq, Int.reduceGT, Int.reduceGE, Int.reduceToNat, Int.reduceNeg, h133]
    exact .mk ⟨.refl hw, rfl⟩
  · rw [if_neg h0] at h133 ⊢
    obtain ⟨⟨v2, H2⟩, h132, hv2, hx⟩ := rmul_spec d (IntKind.i64.wrap (a.tdiv b)) b hw
    simp only at hv2 hx
    subst hv2
    simp -implicitDefEqProofs only [go_sem, Nat.reduceAdd, Nat.reduceMul, Nat.reduceLT, Nat.reduceLeDiff, Nat.reduceEqDiff, Nat.reduceBEq, reduceCtorEq, Int.reduceLT, Int.reduceLE, Int.reduceEq, Int.reduceGT, Int.reduceGE, Int.reduceToNat, Int.reduceNeg, h133, h132, rsub_eq]
    have h2 := (leftP_ok (op := 11) ha hb (show leftP 11 a b = some (a.tmod b) by simp [leftP, h0]))
    have h3 : IntKind.i64.wrap (a - IntKind.i64.wrap (IntKind.i64.wrap (a.tdiv b) * b)) = a.tmod b := by
      rw [wrap_sub_mul, Int.mul_comm, ← Int.tmod_def, wrap_id h2]
    rw [h3]
    exact .mk ⟨hx, rfl⟩
end Go.Proofs.YthiflgncldmkjaaDoor
set_option linter.unusedVariables false
set_option linter.unusedSimpArgs false
set_option maxRecDepth 100000
namespace Go.Proofs.YthiflgncldmkjaaDoor
open Go.Ri
attribute [local congr] bind_lazy jn_lazy

theorem rtruth_spec (d : Nat) (b : Bool) (H : AH) : RT (d + 1) 122 [.bool b] H = some (.int .i64 (truthI b), H) := by
  rw [R122]
  unfold F122
  cases b
  · simp -implicitDefEqProofs only [go_sem, Nat.reduceEqDiff, Nat.reduceBEq, reduceCtorEq]
    rfl
  · simp -implicitDefEqProofs only [go_sem, Nat.reduceEqDiff, Nat.reduceBEq, reduceCtorEq]
    rfl
theorem rpush_spec (d : Nat) (n : Int) (H : AH) : RT (d + 1) 121 [.int .i64 n] H = some (.slice (some (H.next, 0)) 1 (.kn 1), H.new (insC (pushI n)) 29) := by
  rw [R121]
  unfold F121
  simp -implicitDefEqProofs only [go_sem, Nat.reduceAdd, Nat.reduceMul, Nat.reduceLT, Nat.reduceLeDiff, Nat.reduceEqDiff, Nat.reduceBEq, reduceCtorEq, Int.reduceLT, Int.reduceLE, Int.reduceEq, Int.reduceGT, Int.reduceGE, Int.reduceToNat, Int.reduceNeg, bs22i]
  rfl
theorem moved_spec (d : Nat) {q : Int} {p n m : Nat} (hq : -70000 ≤ q ∧ q ≤ 200000) (hp : p + n ≤ 70000) (hm : m ≤ 70000) (H : AH) : RT (d + 1) 100 [.int .i64 q, .int .i64 (p : Nat), .int .i64 (n : Nat), .int .i64 (m : Nat)] H = some (.int .i64 (mvP p n m q), H) := by
  rw [R100]
  unfold F100
  have h1 : IntKind.i64.wrap (((p : Nat) : Int) + ((n : Nat) : Int)) = ((p + n : Nat) : Int) := by rw [wrap_id (by unfold InI; omega)]; omega
  have h2 : IntKind.i64.wrap (q - ((n : Nat) : Int)) = q - ((n : Nat) : Int) := wrap_id (by unfold InI; omega)
  have h3 : IntKind.i64.wrap (q - ((n : Nat) : Int) + ((m : Nat) : Int)) = q - ((n : Nat) : Int) + ((m : Nat) : Int) := wrap_id (by unfold InI; omega)
  unfold mvP
  by_cases c1 : q ≤ ((p : Nat) : Int)
  · simp -implicitDefEqProofs only [go_sem, Nat.reduceAdd, Nat.reduceMul, Nat.reduceLT, Nat.reduceLeDiff, Nat.reduceEqDiff, Nat.reduceBEq, reduceCtorEq, Int.reduceLT, Int.reduceLE, Int.reduceEq, Int.reduceGT, Int.reduceGE, Int.reduceToNat, Int.reduceNeg, decide_eq_true c1, if_pos c1]
  · by_cases c2 : q < ((p + n : Nat) : Int)
    · simp -implicitDefEqProofs only [go_sem, Nat.reduceAdd, Nat.reduceMul, Nat.reduceLT, Nat.reduceLeDiff, Nat.reduceEqDiff, Nat.reduceBEq, reduceCtorEq, Int.reduceLT, Int.reduceLE, Int.reduceEq, Int.reduceGT, Int.reduceGE, Int.reduceToNat, Int.reduceNeg, decide_eq_false c1, h1, decide_eq_true c2, if_neg c1, if_pos c2]
    · simp -implicitDefEqProofs only [go_sem, Nat.reduceAdd, Nat.reduceMul, Nat.reduceLT, Nat.reduceLeDiff, Nat.reduceEqDiff, Nat.reduceBEq, reduceCtorEq, Int.reduceLT, Int.reduceLE, Int.reduceEq, Int.reduceGT, Int.reduceGE, Int.reduceToNat, Int.reduceNeg, decide_eq_false c1, h1, decide_eq_false c2, h2, h3, if_neg c1, if_neg c2]
theorem left_spec (d : Nat) {op a b : Int} (ha : InI a) (hb : InI b) {H : AH} (hw : H.wf) : Ret (RT (d + 4) 123 [.int .i64 op, .int .i64 a, .int .i64 b] H) fun r => Ext H.next H r.2 ∧ ((∃ x, leftP op a b = some x ∧ r.1 = .tuple [.int .i64 x, .bool true]) ∨ (leftP op a b = none ∧ ∃ y, r.1 = .tuple [.int .i64 y, .bool false])) := by
  rw [R123]
  unfold F123
  by_cases h7 : op = 7
  · subst h7
    obtain ⟨⟨v, H1⟩, h, hv, hx⟩ := radd_spec (d + 1) a b hw
    simp only at hv hx
    subst hv
    simp -implicitDefEqProofs only [go_sem, Nat.reduceAdd, Nat.reduceMul, Nat.reduceLT, Nat.reduceLeDiff, Nat.reduceEqDiff, Nat.reduceBEq, reduceCtorEq, Int.reduceLT, Int.reduceLE, Int.reduceEq, Int.reduceGT, Int.reduceGE, Int.reduceToNat, Int.reduceNeg, h]
    exact .mk ⟨hx, .inl ⟨_, rfl, rfl⟩⟩
  by_cases h8 : op = 8
  · subst h8
    simp -implicitDefEqProofs only [go_sem, Nat.reduceAdd, Nat.reduceMul, Nat.reduceLT, Nat.reduceLeDiff, Nat.reduceEqDiff, Nat.reduceBEq, reduceCtorEq, Int.reduceLT, Int.reduceLE, Int.reduceEq, Int.reduceGT, Int.reduceGE, Int.reduceToNat, Int.reduceNeg, rsub_eq]
    exact .mk ⟨.refl hw, .inl ⟨_, rfl, rfl⟩⟩
  by_cases h9 : op = 9
  · subst h9
    obtain ⟨⟨v, H1⟩, h, hv, hx⟩ := rmul_spec (d + 1) a b hw
    simp only at hv hx
    subst hv
    simp -implicitDefEqProofs only [go_sem, Nat.reduceAdd, Nat.reduceMul, Nat.reduceLT, Nat.reduceLeDiff, Nat.reduceEqDiff, Nat.reduceBEq, reduceCtorEq, Int.reduceLT, Int.reduceLE, Int.reduceEq, Int.reduceGT, Int.reduceGE, Int.reduceToNat, Int.reduceNeg, h]
    exact .mk ⟨hx, .inl ⟨_, rfl, rfl⟩⟩
  by_cases h12 : op = 12
  · subst h12
    simp -implicitDefEqProofs only [go_sem, Nat.reduceAdd, Nat.reduceMul, Nat.reduceLT, Nat.reduceLeDiff, Nat.reduceEqDiff, Nat.reduceBEq, reduceCtorEq, Int.reduceLT, Int.reduceLE, Int.reduceEq, Int.reduceGT, Int.reduceGE, Int.reduceToNat, Int.reduceNeg, rtruth_spec]
    exact .mk ⟨.refl hw, .inl ⟨_, rfl, rfl⟩⟩
  by_cases h13 : op = 13
  · subst h13
    by_cases hlt : a < b
    · have hle : truthI (decide (a ≤ b)) = truthI true := by rw [decide_eq_true (by omega)]
      simp -implicitDefEqProofs only [go_sem, Nat.reduceAdd, Nat.reduceMul, Nat.reduceLT, Nat.reduceLeDiff, Nat.reduceEqDiff, Nat.reduceBEq, reduceCtorEq, Int.reduceLT, Int.reduceLE, Int.reduceEq, Int.reduceGT, Int.reduceGE, Int.reduceToNat, Int.reduceNeg, decide_eq_true hlt, rtruth_spec]
      exact .mk ⟨.refl hw, .inl ⟨_, rfl, by rw [hle]⟩⟩
    · have hle : truthI (decide (a ≤ b)) = truthI (decide (a = b)) := by
        by_cases e : a = b
        · rw [decide_eq_true e, decide_eq_true (by omega)]
        · rw [decide_eq_false e, decide_eq_false (by omega)]
      simp -implicitDefEqProofs only [go_sem, Nat.reduceAdd, Nat.reduceMul, Nat.reduceLT, Nat.reduceLeDiff, Nat.reduceEqDiff, Nat.reduceBEq, reduceCtorEq, Int.reduceLT, Int.reduceLE, Int.reduceEq, Int.reduceGT, Int.reduceGE, Int.reduceToNat, Int.reduceNeg, decide_eq_false hlt, rtruth_spec]
      exact .mk ⟨.refl hw, .inl ⟨_, rfl, by rw [hle]⟩⟩
  by_cases h14 : op = 14
  · subst h14
    simp -implicitDefEqProofs only [go_sem, Nat.reduceAdd, Nat.reduceMul, Nat.reduceLT, Nat.reduceLeDiff, Nat.reduceEqDiff, Nat.reduceBEq, reduceCtorEq, Int.reduceLT, Int.reduceLE, Int.reduceEq, Int.reduceGT, Int.reduceGE, Int.reduceToNat, Int.reduceNeg, rtruth_spec]
    exact .mk ⟨.refl hw, .inl ⟨_, rfl, rfl⟩⟩
  by_cases hb0 : b = 0
  · simp -implicitDefEqProofs only [go_sem, Nat.reduceAdd, Nat.reduceMul, Nat.reduceLT, Nat.reduceLeDiff, Nat.reduceEqDiff, Nat.reduceBEq, reduceCtorEq, Int.reduceLT, Int.reduceLE, Int.reduceEq, Int.reduceGT, Int.reduceGE, Int.reduceToNat, Int.reduceNeg, decide_eq_false h7, decide_eq_false h8, decide_eq_false h9, decide_eq_false h12, decide_eq_false h13, decide_eq_false h14, decide_eq_true hb0]
    exact .mk ⟨.refl hw, .inr ⟨by simp [leftP, h7, h8, h9, h12, h13, h14, hb0], _, rfl⟩⟩
  by_cases h10 : op = 10
  · subst h10
    obtain ⟨⟨v, H1⟩, h, hH, hv⟩ := rdiv_spec (d + 1) ha hb H
    simp only at hH hv
    rw [if_neg hb0] at hv
    subst hH hv
    simp -implicitDefEqProofs only [go_sem, Nat.reduceAdd, Nat.reduceMul, Nat.reduceLT, Nat.reduceLeDiff, Nat.reduceEqDiff, Nat.reduceBEq, reduceCtorEq, Int.reduceLT, Int.reduceLE, Int.reduceEq, Int.reduceGT, Int.reduceGE, Int.reduceToNat, Int.reduceNeg, decide_eq_false hb0, h]
    exact .mk ⟨.refl hw, .inl ⟨_, by simp [leftP, hb0], rfl⟩⟩
  by_cases h11 : op = 11
  · subst h11
    obtain ⟨⟨v, H1⟩, h, hx, hv⟩ := rmod_spec d ha hb hw
    simp only at hx hv
    rw [if_neg hb0] at hv
    subst hv
    simp -implicitDefEqProofs only [go_sem, Nat.reduceAdd, Nat.reduceMul, Nat.reduceLT, Nat.reduceLeDiff, Nat.reduceEqDiff, Nat.reduceBEq, reduceCtorEq, Int.reduceLT, Int.reduceLE, Int.reduceEq, Int.reduceGT, Int.reduceGE, Int.reduceToNat, Int.reduceNeg, decide_eq_false hb0, h]
    exact .mk ⟨hx, .inl ⟨_, by simp [leftP, hb0], rfl⟩⟩
  simp -implicitDefEqProofs only [go_sem, Nat.reduceAdd, Nat.reduceMul, Nat.reduceLT, Nat.reduceLeDiff, Nat.reduceEqDiff, Nat.reduceBEq, reduceCtorEq, Int.reduceLT, Int.reduceLE, Int.reduceEq, Int.reduceGT, Int.reduceGE, Int.reduceToNat, Int.reduceNeg, decide_eq_false h7, decide_eq_false h8, decide_eq_false h9, decide_eq_false h10, decide_eq_false h11, decide_eq_false h12, decide_eq_false h13, decide_eq_false h14, decide_eq_false hb0]
  exact .mk ⟨.refl hw, .inr ⟨by simp [leftP, h7, h8, h9, h10, h11, h12, h13, h14, hb0], _, rfl⟩⟩

structure Vw (H : AH) (s hs tg : AV) (L : List Ins) (h : List Int) (T : List Bool) : Prop where
  row : Row H s 3 (L.map insC)
  hrow : Row H hs 1 (h.map fun x => [.int .i64 x])
  trow : BoolRow H tg T
  lenH : h.length = L.length
  lenT : T.length = L.length
theorem Vw.mono {H H' : AH} {s hs tg : AV} {L : List Ins} {h : List Int} {T : List Bool} (v : Vw H s hs tg L h T) (hsub : H.sub H') : Vw H' s hs tg L h T :=
  ⟨v.row.mono hsub, v.hrow.mono hsub, Row.mono v.trow hsub, v.lenH, v.lenT⟩
def vAt (T : List Bool) (L : List Ins) (p : Nat) (f : Bool) : Ins := if f = false ∧ bAt T p = true then I0 else insAt L p
theorem at_spec (d : Nat) {H : AH} (hw : H.wf) {s hs tg : AV} {L : List Ins} {h : List Int} {T : List Bool} (V : Vw H s hs tg L h T) (hL : L.length ≤ 70000) {p : Nat} (hp : p ≤ 80000) (f : Bool) :
    Ret (RT (d + 1) 120 [.agg [s, hs, tg], .int .i64 (p : Nat), .bool f] H) fun r => Ext H.next H r.2 ∧ r.1 = .agg (insC (vAt T L p f)) := by
  rw [R120]
  unfold F120
  have hx : Ext H.next H ((H.new [s, hs, tg] 141).new [.int .i64 0, .int .i64 0, .int .i64 0] 29) := ((Ext.refl hw).new _ _).new _ _
  have V2 := V.mono (hx.sub hw)
  have hal : aLen Tryd.prog 22 s = some (.int .i64 (L.length : Nat)) := by rw [V.row.alen ysl22.under, List.length_map]
  have n1 : ¬ H.next = H.next + 1 := by omega
  have hput := fun B => hx.put (b := H.next + 1) (by omega) (by simp) B
  by_cases hge : ((p : Nat) : Int) ≥ ((L.length : Nat) : Int)
  · simp -implicitDefEqProofs only [go_sem, Nat.reduceAdd, Nat.reduceMul, Nat.reduceLT, Nat.reduceLeDiff, Nat.reduceEqDiff, Nat.reduceBEq, reduceCtorEq, Int.reduceLT, Int.reduceLE, Int.reduceEq, Int.reduceGT, Int.reduceGE, Int.reduceToNat, Int.reduceNeg, n1, hal, decide_eq_true hge]
    refine .mk ⟨hput _, ?_⟩
    have e : vAt T L p f = I0 := by
      unfold vAt
      split
      · rfl
      · unfold insAt
        rw [List.getElem?_eq_none (by omega)]
        rfl
    rw [e]
    rfl
  · have hpl : p < L.length := by omega
    obtain ⟨b1, o1, e1, f1, _⟩ := V2.row.at (i := p) (by simpa using hpl)
    simp only [List.getElem_map] at f1
    obtain ⟨p1, hp1⟩ : ∃ q, q = (b1, o1) := ⟨_, rfl⟩
    rw [← hp1] at e1 f1
    have hin : insC L[p] = [.int .i64 L[p].op, .int .i64 L[p].n, .int .i64 L[p].m] := rfl
    cases f
    · obtain ⟨p2, e2, f2⟩ := V2.trow.at (i := p) (by rw [V.lenT]; exact hpl)
      have hT : bAt T p = T[p]'(by rw [V.lenT]; exact hpl) := bAt_eq (by rw [V.lenT]; exact hpl)
      cases hv : T[p]'(by rw [V.lenT]; exact hpl)
      · rw [hv] at f2
        rw [hin] at f1
        simp -implicitDefEqProofs only [go_sem, Nat.reduceAdd, Nat.reduceMul, Nat.reduceLT, Nat.reduceLeDiff, Nat.reduceEqDiff, Nat.reduceBEq, reduceCtorEq, Int.reduceLT, Int.reduceLE, Int.reduceEq, Int.reduceGT, Int.reduceGE, Int.reduceToNat, Int.reduceNeg, n1, hal, decide_eq_false hge, e2, f2, e1, f1]
        refine .mk ⟨hput _, ?_⟩
        have e : vAt T L p false = L[p] := by
          unfold vAt
          rw [if_neg (by rw [hT, hv]; simp), insAt_eq hpl]
        rw [e]
        rfl
      · rw [hv] at f2
        simp -implicitDefEqProofs only [go_sem, Nat.reduceAdd, Nat.reduceMul, Nat.reduceLT, Nat.reduceLeDiff, Nat.reduceEqDiff, Nat.reduceBEq, reduceCtorEq, Int.reduceLT, Int.reduceLE, Int.reduceEq, Int.reduceGT, Int.reduceGE, Int.reduceToNat, Int.reduceNeg, n1, hal, decide_eq_false hge, e2, f2]
        refine .mk ⟨hput _, ?_⟩
        have e : vAt T L p false = I0 := by
          unfold vAt
          rw [if_pos ⟨rfl, by rw [hT, hv]⟩]
        rw [e]
        rfl
    · rw [hin] at f1
      simp -implicitDefEqProofs only [go_sem, Nat.reduceAdd, Nat.reduceMul, Nat.reduceLT, Nat.reduceLeDiff, Nat.reduceEqDiff, Nat.reduceBEq, reduceCtorEq, Int.reduceLT, Int.reduceLE, Int.reduceEq, Int.reduceGT, Int.reduceGE, Int.reduceToNat, Int.reduceNeg, n1, hal, decide_eq_false hge, e1, f1]
      refine .mk ⟨hput _, ?_⟩
      have e : vAt T L p true = L[p] := by
        unfold vAt
        rw [if_neg (by simp), insAt_eq hpl]
      rw [e]
      rfl
end Go.Proofs.YthiflgncldmkjaaDoor
set_option linter.unusedVariables false
set_option linter.unusedSimpArgs false
set_option maxRecDepth 100000
namespace Go.Proofs.YthiflgncldmkjaaDoor
open Go.Ri
attribute [local congr] bind_lazy jn_lazy

theorem res_put (H : AH) (cs : List AV) (e : TypeId) : (H.res 1).put H.next ⟨cs, e, true⟩ = H.new cs e := AH.same (fun i => by simp only [put_m, new_m, res_m]) rfl
def RuleT (N : Nat) (H : AH) (v : AV) (c : Chg) : Prop := ∃ s, v = .tuple [.int .i64 (c.rule : Nat), .int .i64 (c.n : Nat), s] ∧ Row H s 3 (c.put.map insC) ∧ ∀ b o n d, s = .slice (some (b, o)) n d → N ≤ b
theorem RuleT.none (N : Nat) (H : AH) (a b : Nat) : RuleT N H (.tuple [.int .i64 (a : Nat), .int .i64 (b : Nat), .slice none 0 (.kn 0)]) ⟨a, b, []⟩ := ⟨_, rfl, Row.nil _ _, fun _ _ _ _ h => by cases h⟩
theorem RuleT.made {N : Nat} {H : AH} {cs : List AV} {e : TypeId} {i : Ins} (a n : Nat) (hN : N ≤ H.next) (hc : cs = insC i) {v : AV} (hv : v = .tuple [.int .i64 (a : Nat), .int .i64 (n : Nat), .slice (some (H.next, 0)) 1 (.kn 1)]) : RuleT N (H.new cs e) v ⟨a, n, [i]⟩ := by
  subst hv
  refine ⟨_, rfl, row_one (b := H.next) (B := ⟨cs, e, true⟩) ?_ hc, fun b o n d e => by cases e; exact hN⟩
  simp only [new_m, if_true]
theorem RuleT.low {N M : Nat} {H : AH} {v : AV} {c : Chg} (h : RuleT N H v c) (hM : M ≤ N) : RuleT M H v c := by
  obtain ⟨s, h1, h2, h3⟩ := h
  exact ⟨s, h1, h2, fun b o n d e => Nat.le_trans hM (h3 b o n d e)⟩
theorem rul_eq {N : Nat} {H : AH} {v : AV} {c c' : Chg} (e : c = c') (h : RuleT N H v c') : RuleT N H v c := e ▸ h
def RQ (G : AH) (c : Chg) (r : AV × AH) : Prop := Ext G.next G r.2 ∧ RuleT G.next r.2 r.1 c
def lastP (i j : Ins) : Chg := if idleP i j ≠ 0 then ⟨idleP i j, 2, []⟩ else restP i j
structure Two (i j : Ins) : Prop where
  si : i.op = 6 → 0 ≤ i.n ∧ i.n ≤ 65536 ∧ 0 ≤ i.m ∧ i.m ≤ 64
  sj : j.op = 6 → 0 ≤ j.n ∧ j.n ≤ 65536 ∧ 0 ≤ j.m ∧ j.m ≤ 64
theorem last_spec (call : CallF) (it : ItF) {G : AH} (hw : G.wf) {T : Tm} {b7 b8 : Nat} {i j : Ins} (P : Two i j) (t7 : T 7 = .ptr (some (b7, 0))) (t8 : T 8 = .ptr (some (b8, 0))) (t11 : T 11 = .bool (decide (i.op = 1)))
    (h7 : G.m b7 = some ⟨insC i, 29, true⟩) (h8 : G.m b8 = some ⟨insC j, 29, true⟩) : Ret (F99_J0 call it T G) (RQ G (lastP i j)) := by
  obtain ⟨io, inn, im⟩ := i
  obtain ⟨jo, jn, jm⟩ := j
  obtain ⟨hsi, hsj⟩ := P
  simp only at hsi hsj t11
  have hi : ∀ a b c, insC ⟨a, b, c⟩ = [.int .i64 a, .int .i64 b, .int .i64 c] := fun _ _ _ => rfl
  rw [hi] at h7 h8
  have hx := Ext.refl hw
  have none : ∀ a n : Nat, lastP ⟨io, inn, im⟩ ⟨jo, jn, jm⟩ = ⟨a, n, []⟩ → Ret (some (AV.tuple [.int .i64 (a : Nat), .int .i64 (n : Nat), .slice none 0 (.kn 0)], G)) (RQ G (lastP ⟨io, inn, im⟩ ⟨jo, jn, jm⟩)) := fun a n e => .mk ⟨hx, rul_eq e (RuleT.none _ _ a n)⟩
  have made : ∀ (a n : Nat) (x : Ins), lastP ⟨io, inn, im⟩ ⟨jo, jn, jm⟩ = ⟨a, n, [x]⟩ → Ret (some (AV.tuple [.int .i64 (a : Nat), .int .i64 (n : Nat), .slice (some (G.next, 0)) 1 (.kn 1)], G.new (insC x) 29)) (RQ G (lastP ⟨io, inn, im⟩ ⟨jo, jn, jm⟩)) := fun a n x e => .mk ⟨hx.new _ _, rul_eq e (RuleT.made a n (Nat.le_refl _) rfl rfl)⟩
  unfold F99_J0
  by_cases e1 : io = 1
  · subst e1
    rw [decide_eq_true rfl] at t11
    by_cases j25 : jo = 25
    · subst j25
      simp -implicitDefEqProofs only [go_sem, Nat.reduceAdd, Nat.reduceMul, Nat.reduceLT, Nat.reduceLeDiff, Nat.reduceEqDiff, Nat.reduceBEq, reduceCtorEq, Int.reduceLT, Int.reduceLE, Int.reduceEq, Int.reduceGT, Int.reduceGE, Int.reduceToNat, Int.reduceNeg, t7, t8, t11, h7, h8]
      exact none 7 2 (by simp [lastP, idleP])
    by_cases n0 : inn = 0
    · subst n0
      by_cases j7 : jo = 7
      · subst j7
        simp -implicitDefEqProofs only [go_sem, Nat.reduceAdd, Nat.reduceMul, Nat.reduceLT, Nat.reduceLeDiff, Nat.reduceEqDiff, Nat.reduceBEq, reduceCtorEq, Int.reduceLT, Int.reduceLE, Int.reduceEq, Int.reduceGT, Int.reduceGE, Int.reduceToNat, Int.reduceNeg, t7, t8, t11, h7, h8]
        exact none 8 2 (by simp [lastP, idleP])
      by_cases j8 : jo = 8
      · subst j8
        simp -implicitDefEqProofs only [go_sem, Nat.reduceAdd, Nat.reduceMul, Nat.reduceLT, Nat.reduceLeDiff, Nat.reduceEqDiff, Nat.reduceBEq, reduceCtorEq, Int.reduceLT, Int.reduceLE, Int.reduceEq, Int.reduceGT, Int.reduceGE, Int.reduceToNat, Int.reduceNeg, t7, t8, t11, h7, h8]
        exact none 8 2 (by simp [lastP, idleP])
      by_cases j18 : jo = 18
      · subst j18
        simp -implicitDefEqProofs only [go_sem, Nat.reduceAdd, Nat.reduceMul, Nat.reduceLT, Nat.reduceLeDiff, Nat.reduceEqDiff, Nat.reduceBEq, reduceCtorEq, Int.reduceLT, Int.reduceLE, Int.reduceEq, Int.reduceGT, Int.reduceGE, Int.reduceToNat, Int.reduceNeg, t7, t8, t11, h7, h8, bs22i, res_put]
        exact made 10 2 ⟨17, jn, 0⟩ (by simp [lastP, idleP, restP])
      simp -implicitDefEqProofs only [go_sem, Nat.reduceAdd, Nat.reduceMul, Nat.reduceLT, Nat.reduceLeDiff, Nat.reduceEqDiff, Nat.reduceBEq, reduceCtorEq, Int.reduceLT, Int.reduceLE, Int.reduceEq, Int.reduceGT, Int.reduceGE, Int.reduceToNat, Int.reduceNeg, t7, t8, t11, h7, h8, decide_eq_false j25, decide_eq_false j7, decide_eq_false j8, decide_eq_false j18]
      exact none 0 0 (by simp [lastP, idleP, restP, j25, j7, j8, j18])
    by_cases n1 : inn = 1
    · subst n1
      by_cases j9 : jo = 9
      · subst j9
        simp -implicitDefEqProofs only [go_sem, Nat.reduceAdd, Nat.reduceMul, Nat.reduceLT, Nat.reduceLeDiff, Nat.reduceEqDiff, Nat.reduceBEq, reduceCtorEq, Int.reduceLT, Int.reduceLE, Int.reduceEq, Int.reduceGT, Int.reduceGE, Int.reduceToNat, Int.reduceNeg, t7, t8, t11, h7, h8]
        exact none 8 2 (by simp [lastP, idleP])
      by_cases j10 : jo = 10
      · subst j10
        simp -implicitDefEqProofs only [go_sem, Nat.reduceAdd, Nat.reduceMul, Nat.reduceLT, Nat.reduceLeDiff, Nat.reduceEqDiff, Nat.reduceBEq, reduceCtorEq, Int.reduceLT, Int.reduceLE, Int.reduceEq, Int.reduceGT, Int.reduceGE, Int.reduceToNat, Int.reduceNeg, t7, t8, t11, h7, h8]
        exact none 8 2 (by simp [lastP, idleP])
      by_cases j18 : jo = 18
      · subst j18
        simp -implicitDefEqProofs only [go_sem, Nat.reduceAdd, Nat.reduceMul, Nat.reduceLT, Nat.reduceLeDiff, Nat.reduceEqDiff, Nat.reduceBEq, reduceCtorEq, Int.reduceLT, Int.reduceLE, Int.reduceEq, Int.reduceGT, Int.reduceGE, Int.reduceToNat, Int.reduceNeg, t7, t8, t11, h7, h8]
        exact none 10 2 (by simp [lastP, idleP, restP])
      by_cases j23 : jo = 23
      · subst j23
        simp -implicitDefEqProofs only [go_sem, Nat.reduceAdd, Nat.reduceMul, Nat.reduceLT, Nat.reduceLeDiff, Nat.reduceEqDiff, Nat.reduceBEq, reduceCtorEq, Int.reduceLT, Int.reduceLE, Int.reduceEq, Int.reduceGT, Int.reduceGE, Int.reduceToNat, Int.reduceNeg, t7, t8, t11, h7, h8]
        exact none 11 2 (by simp [lastP, idleP, restP])
      simp -implicitDefEqProofs only [go_sem, Nat.reduceAdd, Nat.reduceMul, Nat.reduceLT, Nat.reduceLeDiff, Nat.reduceEqDiff, Nat.reduceBEq, reduceCtorEq, Int.reduceLT, Int.reduceLE, Int.reduceEq, Int.reduceGT, Int.reduceGE, Int.reduceToNat, Int.reduceNeg, t7, t8, t11, h7, h8, decide_eq_false j25, decide_eq_false j9, decide_eq_false j10, decide_eq_false j18, decide_eq_false j23]
      exact none 0 0 (by simp [lastP, idleP, restP, j25, j9, j10, j18, j23])
    by_cases j18 : jo = 18
    · subst j18
      simp -implicitDefEqProofs only [go_sem, Nat.reduceAdd, Nat.reduceMul, Nat.reduceLT, Nat.reduceLeDiff, Nat.reduceEqDiff, Nat.reduceBEq, reduceCtorEq, Int.reduceLT, Int.reduceLE, Int.reduceEq, Int.reduceGT, Int.reduceGE, Int.reduceToNat, Int.reduceNeg, t7, t8, t11, h7, h8, decide_eq_false n0, decide_eq_false n1]
      exact none 10 2 (by simp [lastP, idleP, restP, n0, n1])
    by_cases j23 : jo = 23
    · subst j23
      simp -implicitDefEqProofs only [go_sem, Nat.reduceAdd, Nat.reduceMul, Nat.reduceLT, Nat.reduceLeDiff, Nat.reduceEqDiff, Nat.reduceBEq, reduceCtorEq, Int.reduceLT, Int.reduceLE, Int.reduceEq, Int.reduceGT, Int.reduceGE, Int.reduceToNat, Int.reduceNeg, t7, t8, t11, h7, h8, decide_eq_false n0, decide_eq_false n1]
      exact none 11 2 (by simp [lastP, idleP, restP, n0, n1])
    simp -implicitDefEqProofs only [go_sem, Nat.reduceAdd, Nat.reduceMul, Nat.reduceLT, Nat.reduceLeDiff, Nat.reduceEqDiff, Nat.reduceBEq, reduceCtorEq, Int.reduceLT, Int.reduceLE, Int.reduceEq, Int.reduceGT, Int.reduceGE, Int.reduceToNat, Int.reduceNeg, t7, t8, t11, h7, h8, decide_eq_false n0, decide_eq_false n1, decide_eq_false j25, decide_eq_false j18, decide_eq_false j23]
    exact none 0 0 (by simp [lastP, idleP, restP, n0, n1, j25, j18, j23])
  · rw [decide_eq_false e1] at t11
    by_cases e2 : io = 2
    · subst e2
      by_cases j25 : jo = 25
      · subst j25
        simp -implicitDefEqProofs only [go_sem, Nat.reduceAdd, Nat.reduceMul, Nat.reduceLT, Nat.reduceLeDiff, Nat.reduceEqDiff, Nat.reduceBEq, reduceCtorEq, Int.reduceLT, Int.reduceLE, Int.reduceEq, Int.reduceGT, Int.reduceGE, Int.reduceToNat, Int.reduceNeg, t7, t8, t11, h7, h8]
        exact none 7 2 (by simp [lastP, idleP])
      by_cases j3 : jo = 3
      · subst j3
        by_cases e : inn = jn
        · simp -implicitDefEqProofs only [go_sem, Nat.reduceAdd, Nat.reduceMul, Nat.reduceLT, Nat.reduceLeDiff, Nat.reduceEqDiff, Nat.reduceBEq, reduceCtorEq, Int.reduceLT, Int.reduceLE, Int.reduceEq, Int.reduceGT, Int.reduceGE, Int.reduceToNat, Int.reduceNeg, t7, t8, t11, h7, h8, decide_eq_true e]
          exact none 9 2 (by simp [lastP, idleP, e])
        · simp -implicitDefEqProofs only [go_sem, Nat.reduceAdd, Nat.reduceMul, Nat.reduceLT, Nat.reduceLeDiff, Nat.reduceEqDiff, Nat.reduceBEq, reduceCtorEq, Int.reduceLT, Int.reduceLE, Int.reduceEq, Int.reduceGT, Int.reduceGE, Int.reduceToNat, Int.reduceNeg, t7, t8, t11, h7, h8, decide_eq_false e]
          exact none 0 0 (by simp [lastP, idleP, restP, e])
      simp -implicitDefEqProofs only [go_sem, Nat.reduceAdd, Nat.reduceMul, Nat.reduceLT, Nat.reduceLeDiff, Nat.reduceEqDiff, Nat.reduceBEq, reduceCtorEq, Int.reduceLT, Int.reduceLE, Int.reduceEq, Int.reduceGT, Int.reduceGE, Int.reduceToNat, Int.reduceNeg, t7, t8, t11, h7, h8, decide_eq_false j25, decide_eq_false j3]
      exact none 0 0 (by simp [lastP, idleP, restP, j25, j3])
    by_cases e6 : io = 6
    · subst e6
      by_cases j6 : jo = 6
      · subst j6
        have si := hsi rfl
        have sj := hsj rfl
        have w1 : IntKind.i64.wrap (jn - inn) = jn - inn := wrap_id (by unfold InI; omega)
        have w2 : IntKind.i64.wrap (im + jm) = im + jm := wrap_id (by unfold InI; omega)
        by_cases e : jn - inn = im
        · have e' : jn = inn + im := by omega
          by_cases h64 : im + jm ≤ 64
          · simp -implicitDefEqProofs only [go_sem, Nat.reduceAdd, Nat.reduceMul, Nat.reduceLT, Nat.reduceLeDiff, Nat.reduceEqDiff, Nat.reduceBEq, reduceCtorEq, Int.reduceLT, Int.reduceLE, Int.reduceEq, Int.reduceGT, Int.reduceGE, Int.reduceToNat, Int.reduceNeg, t7, t8, t11, h7, h8, w1, w2, decide_eq_true e, decide_eq_true h64, bs22i, res_put]
            refine made 12 2 ⟨6, inn, im + jm⟩ ?_
            have e0 : idleP ⟨6, inn, im⟩ ⟨6, jn, jm⟩ = 0 := by simp [idleP]
            unfold lastP
            rw [e0, if_neg (by simp)]
            unfold restP
            rw [if_neg (fun h => absurd h.1 (by simp)), if_neg (fun h => absurd h.1 (by simp)), if_neg (fun h => absurd h.1 (by simp)), if_pos ⟨rfl, rfl, e', h64⟩]
          · simp -implicitDefEqProofs only [go_sem, Nat.reduceAdd, Nat.reduceMul, Nat.reduceLT, Nat.reduceLeDiff, Nat.reduceEqDiff, Nat.reduceBEq, reduceCtorEq, Int.reduceLT, Int.reduceLE, Int.reduceEq, Int.reduceGT, Int.reduceGE, Int.reduceToNat, Int.reduceNeg, t7, t8, t11, h7, h8, w1, w2, decide_eq_true e, decide_eq_false h64]
            exact none 0 0 (by simp [lastP, idleP, restP, h64])
        · have e' : ¬ jn = inn + im := by omega
          simp -implicitDefEqProofs only [go_sem, Nat.reduceAdd, Nat.reduceMul, Nat.reduceLT, Nat.reduceLeDiff, Nat.reduceEqDiff, Nat.reduceBEq, reduceCtorEq, Int.reduceLT, Int.reduceLE, Int.reduceEq, Int.reduceGT, Int.reduceGE, Int.reduceToNat, Int.reduceNeg, t7, t8, t11, h7, h8, w1, decide_eq_false e]
          exact none 0 0 (by simp [lastP, idleP, restP, e'])
      simp -implicitDefEqProofs only [go_sem, Nat.reduceAdd, Nat.reduceMul, Nat.reduceLT, Nat.reduceLeDiff, Nat.reduceEqDiff, Nat.reduceBEq, reduceCtorEq, Int.reduceLT, Int.reduceLE, Int.reduceEq, Int.reduceGT, Int.reduceGE, Int.reduceToNat, Int.reduceNeg, t7, t8, t11, h7, h8, decide_eq_false j6]
      exact none 0 0 (by simp [lastP, idleP, restP, j6])
    simp -implicitDefEqProofs only [go_sem, Nat.reduceAdd, Nat.reduceMul, Nat.reduceLT, Nat.reduceLeDiff, Nat.reduceEqDiff, Nat.reduceBEq, reduceCtorEq, Int.reduceLT, Int.reduceLE, Int.reduceEq, Int.reduceGT, Int.reduceGE, Int.reduceToNat, Int.reduceNeg, t7, t8, t11, h7, h8, decide_eq_false e2, decide_eq_false e6]
    exact none 0 0 (by simp [lastP, idleP, restP, e1, e2, e6])
theorem pairP_last (i j k : Ins) : pairP i j k = if (unaryP i j).rule ≠ 0 then unaryP i j else if (tripleP i j k).rule ≠ 0 then tripleP i j k else lastP i j := pairP_eq i j k
theorem RuleT.mono {N : Nat} {H H' : AH} {v : AV} {c : Chg} (h : RuleT N H v c) (hs : H.sub H') : RuleT N H' v c := by
  obtain ⟨s, h1, h2, h3⟩ := h
  exact ⟨s, h1, h2.mono hs, h3⟩
theorem mid_spec (d : Nat) {G : AH} (hw : G.wf) {T : Tm} {b7 b8 b9 : Nat} {i j k : Ins} (P : Two i j) (hi : i.Ok) (hj : j.Ok) (hk : k.Ok) (t7 : T 7 = .ptr (some (b7, 0))) (t8 : T 8 = .ptr (some (b8, 0))) (t9 : T 9 = .ptr (some (b9, 0)))
    (h7 : G.m b7 = some ⟨insC i, 29, true⟩) (h8 : G.m b8 = some ⟨insC j, 29, true⟩) (h9 : G.m b9 = some ⟨insC k, 29, true⟩) : Ret (F99_J1 (RT (d + 4)) (iter big) T G) (RQ G (pairP i j k)) := by
  have hx := Ext.refl hw
  have l7 : b7 < G.next := hw _ _ h7
  have l8 : b8 < G.next := hw _ _ h8
  have last := fun (G' : AH) (T' : Tm) (hx' : Ext G.next G G') (u7 : T' 7 = .ptr (some (b7, 0))) (u8 : T' 8 = .ptr (some (b8, 0))) (u11 : T' 11 = .bool (decide (i.op = 1))) =>
    (last_spec (RT (d + 4)) (iter big) hx'.wf P u7 u8 u11 (by rw [hx'.low _ l7]; exact h7) (by rw [hx'.low _ l8]; exact h8)).mono fun r (h : RQ G' (lastP i j) r) => (show RQ G (lastP i j) r from ⟨hx'.trans h.1 hx'.next, h.2.low hx'.next⟩)
  rw [pairP_last]
  obtain ⟨io, inn, im⟩ := i
  obtain ⟨jo, jn, jm⟩ := j
  obtain ⟨ko, kn, km⟩ := k
  have hin : ∀ a b c, insC ⟨a, b, c⟩ = [.int .i64 a, .int .i64 b, .int .i64 c] := fun _ _ _ => rfl
  rw [hin] at h7 h8 h9
  simp only at last
  unfold F99_J1
  by_cases e1 : io = 1
  · subst e1
    by_cases j16 : jo = 16
    · subst j16
      simp -implicitDefEqProofs only [go_sem, Nat.reduceAdd, Nat.reduceMul, Nat.reduceLT, Nat.reduceLeDiff, Nat.reduceEqDiff, Nat.reduceBEq, reduceCtorEq, Int.reduceLT, Int.reduceLE, Int.reduceEq, Int.reduceGT, Int.reduceGE, Int.reduceToNat, Int.reduceNeg, t7, t8, h7, h8, rneg_eq, rpush_spec]
      refine .mk ⟨hx.new _ _, ?_⟩
      exact rul_eq (by simp [unaryP]) (RuleT.made 5 2 (Nat.le_refl _) rfl rfl)
    by_cases j15 : jo = 15
    · subst j15
      simp -implicitDefEqProofs only [go_sem, Nat.reduceAdd, Nat.reduceMul, Nat.reduceLT, Nat.reduceLeDiff, Nat.reduceEqDiff, Nat.reduceBEq, reduceCtorEq, Int.reduceLT, Int.reduceLE, Int.reduceEq, Int.reduceGT, Int.reduceGE, Int.reduceToNat, Int.reduceNeg, t7, t8, h7, h8, rtruth_spec, rpush_spec]
      refine .mk ⟨hx.new _ _, ?_⟩
      exact rul_eq (by simp [unaryP]) (RuleT.made 5 2 (Nat.le_refl _) rfl rfl)
    have hu : unaryP ⟨1, inn, im⟩ ⟨jo, jn, jm⟩ = ⟨0, 0, []⟩ := by simp [unaryP, j16, j15]
    rw [hu, if_neg (by simp)]
    by_cases j1 : jo = 1
    · subst j1
      obtain ⟨⟨v, G2⟩, h123, hx2, hr⟩ := left_spec d (op := ko) hi.n hj.n hw
      simp only at h123 hx2 hr
      rcases hr with ⟨x, hl, rfl⟩ | ⟨hl, y, rfl⟩
      · have ht : tripleP ⟨1, inn, im⟩ ⟨1, jn, jm⟩ ⟨ko, kn, km⟩ = ⟨6, 3, [pushI x]⟩ := by simp [tripleP, hl]
        rw [ht, if_pos (by simp)]
        simp -implicitDefEqProofs only [go_sem, Nat.reduceAdd, Nat.reduceMul, Nat.reduceLT, Nat.reduceLeDiff, Nat.reduceEqDiff, Nat.reduceBEq, reduceCtorEq, Int.reduceLT, Int.reduceLE, Int.reduceEq, Int.reduceGT, Int.reduceGE, Int.reduceToNat, Int.reduceNeg, t7, t8, t9, h7, h8, h9, h123, rpush_spec]
        exact .mk ⟨hx2.new _ _, RuleT.made 6 3 hx2.next rfl rfl⟩
      · have ht : tripleP ⟨1, inn, im⟩ ⟨1, jn, jm⟩ ⟨ko, kn, km⟩ = ⟨0, 0, []⟩ := by simp [tripleP, hl]
        rw [ht, if_neg (by simp)]
        simp -implicitDefEqProofs only [go_sem, Nat.reduceAdd, Nat.reduceMul, Nat.reduceLT, Nat.reduceLeDiff, Nat.reduceEqDiff, Nat.reduceBEq, reduceCtorEq, Int.reduceLT, Int.reduceLE, Int.reduceEq, Int.reduceGT, Int.reduceGE, Int.reduceToNat, Int.reduceNeg, t7, t8, t9, h7, h8, h9, h123]
        refine last G2 _ hx2 ?_ ?_ ?_
        · simp -implicitDefEqProofs only [go_sem, Nat.reduceEqDiff, Nat.reduceBEq, reduceCtorEq, t7]
        · simp -implicitDefEqProofs only [go_sem, Nat.reduceEqDiff, Nat.reduceBEq, reduceCtorEq, t8]
        · simp -implicitDefEqProofs only [go_sem, Nat.reduceEqDiff, Nat.reduceBEq, reduceCtorEq]
    have ht : tripleP ⟨1, inn, im⟩ ⟨jo, jn, jm⟩ ⟨ko, kn, km⟩ = ⟨0, 0, []⟩ := by simp [tripleP, j1]
    rw [ht, if_neg (by simp)]
    simp -implicitDefEqProofs only [go_sem, Nat.reduceAdd, Nat.reduceMul, Nat.reduceLT, Nat.reduceLeDiff, Nat.reduceEqDiff, Nat.reduceBEq, reduceCtorEq, Int.reduceLT, Int.reduceLE, Int.reduceEq, Int.reduceGT, Int.reduceGE, Int.reduceToNat, Int.reduceNeg, t7, t8, h7, h8, decide_eq_false j16, decide_eq_false j15, decide_eq_false j1]
    refine last G _ hx ?_ ?_ ?_
    · simp -implicitDefEqProofs only [go_sem, Nat.reduceEqDiff, Nat.reduceBEq, reduceCtorEq, t7]
    · simp -implicitDefEqProofs only [go_sem, Nat.reduceEqDiff, Nat.reduceBEq, reduceCtorEq, t8]
    · simp -implicitDefEqProofs only [go_sem, Nat.reduceEqDiff, Nat.reduceBEq, reduceCtorEq]
  · have hu : unaryP ⟨io, inn, im⟩ ⟨jo, jn, jm⟩ = ⟨0, 0, []⟩ := by simp [unaryP, e1]
    have ht : tripleP ⟨io, inn, im⟩ ⟨jo, jn, jm⟩ ⟨ko, kn, km⟩ = ⟨0, 0, []⟩ := by simp [tripleP, e1]
    rw [hu, if_neg (by simp), ht, if_neg (by simp)]
    simp -implicitDefEqProofs only [go_sem, Nat.reduceAdd, Nat.reduceMul, Nat.reduceLT, Nat.reduceLeDiff, Nat.reduceEqDiff, Nat.reduceBEq, reduceCtorEq, Int.reduceLT, Int.reduceLE, Int.reduceEq, Int.reduceGT, Int.reduceGE, Int.reduceToNat, Int.reduceNeg, t7, t8, h7, h8, decide_eq_false e1]
    refine last G _ hx ?_ ?_ ?_
    · simp -implicitDefEqProofs only [go_sem, Nat.reduceEqDiff, Nat.reduceBEq, reduceCtorEq, t7]
    · simp -implicitDefEqProofs only [go_sem, Nat.reduceEqDiff, Nat.reduceBEq, reduceCtorEq, t8]
    · simp -implicitDefEqProofs only [go_sem, Nat.reduceAdd, Nat.reduceMul, Nat.reduceLT, Nat.reduceLeDiff, Nat.reduceEqDiff, Nat.reduceBEq, reduceCtorEq, Int.reduceLT, Int.reduceLE, Int.reduceEq, Int.reduceGT, Int.reduceGE, Int.reduceToNat, Int.reduceNeg, decide_eq_false e1]
end Go.Proofs.YthiflgncldmkjaaDoor
set_option linter.unusedVariables false
set_option linter.unusedSimpArgs false
set_option maxRecDepth 100000
namespace Go.Proofs.YthiflgncldmkjaaDoor
open Go.Ri
attribute [local congr] bind_lazy jn_lazy

def hAt (h : List Int) (a : Nat) : Bool := decide (0 ≤ (h[a]?).getD (-1))
set_option maxHeartbeats 2000000 in
theorem top_spec (d : Nat) {G : AH} (hw : G.wf) {T : Tm} {bv b7 b8 b9 : Nat} {s hs tg : AV} {L : List Ins} {h : List Int} {Tt : List Bool} (V : Vw G s hs tg L h Tt) (P : Plain L) {p : Nat} (hp : p < L.length) {j k : Ins} (P2 : Two L[p] j) (hj : j.Ok) (hk : k.Ok)
    (t1 : T 1 = .int .i64 (p : Nat)) (t2 : T 2 = .ptr (some (bv, 0))) (t7 : T 7 = .ptr (some (b7, 0))) (t8 : T 8 = .ptr (some (b8, 0))) (t9 : T 9 = .ptr (some (b9, 0)))
    (hv : G.m bv = some ⟨[s, hs, tg], 141, true⟩) (h7 : G.m b7 = some ⟨insC L[p], 29, true⟩) (h8 : G.m b8 = some ⟨insC j, 29, true⟩) (h9 : G.m b9 = some ⟨insC k, 29, true⟩) :
    Ret (F99_J2 (RT (d + 4)) (iter big) T G) (RQ G (if (singleP (hAt h) L p L[p]).rule ≠ 0 then singleP (hAt h) L p L[p] else pairP L[p] j k)) := by
  have hx := Ext.refl hw
  have l7 : b7 < G.next := hw _ _ h7
  have l8 : b8 < G.next := hw _ _ h8
  have l9 : b9 < G.next := hw _ _ h9
  have hok := P.ok L[p] (List.getElem_mem _)
  have mid := fun (G' : AH) (T' : Tm) (hx' : Ext G.next G G') (u7 : T' 7 = .ptr (some (b7, 0))) (u8 : T' 8 = .ptr (some (b8, 0))) (u9 : T' 9 = .ptr (some (b9, 0))) =>
    (mid_spec d hx'.wf P2 hok hj hk u7 u8 u9 (by rw [hx'.low _ l7]; exact h7) (by rw [hx'.low _ l8]; exact h8) (by rw [hx'.low _ l9]; exact h9)).mono fun r (hh : RQ G' (pairP L[p] j k) r) => (show RQ G (pairP L[p] j k) r from ⟨hx'.trans hh.1 hx'.next, hh.2.low hx'.next⟩)
  have hlen := P.few
  have hph : p < h.length := by rw [V.lenH]; exact hp
  obtain ⟨bh, oh, e1, _, f1⟩ := V.hrow.at (i := p) (by simpa using hph)
  have f1 := f1 0 (by omega)
  simp only [List.getElem_map, Nat.add_zero, List.getElem?_cons_zero] at f1
  have hwp := wrapS (i := p) (by omega)
  have hR : hAt h p = decide (0 ≤ h[p]) := by unfold hAt; rw [List.getElem?_eq_getElem hph]; rfl
  have hin : insC L[p] = [.int .i64 L[p].op, .int .i64 L[p].n, .int .i64 L[p].m] := rfl
  rw [hin] at h7
  unfold F99_J2
  by_cases hneg : h[p] < 0
  · have e : singleP (hAt h) L p L[p] = ⟨1, 1, []⟩ := by
      have : hAt h p = false := by rw [hR]; exact decide_eq_false (by omega)
      simp [singleP, this]
    rw [e, if_pos (by simp)]
    simp -implicitDefEqProofs only [go_sem, Nat.reduceAdd, Nat.reduceMul, Nat.reduceLT, Nat.reduceLeDiff, Nat.reduceEqDiff, Nat.reduceBEq, reduceCtorEq, Int.reduceLT, Int.reduceLE, Int.reduceEq, Int.reduceGT, Int.reduceGE, Int.reduceToNat, Int.reduceNeg, t1, t2, hv, e1, f1, decide_eq_true hneg]
    exact .mk ⟨hx, RuleT.none _ _ 1 1⟩
  have hRt : ¬ hAt h p = false := by rw [hR, decide_eq_true (by omega)]; simp
  have rest : ∀ (hno2 : ¬ (L[p].op = 17 ∧ L[p].n = ((p + 1 : Nat) : Int))) (hno3 : ¬ (L[p].op = 18 ∧ L[p].n = ((p + 1 : Nat) : Int))), singleP (hAt h) L p L[p] = if isJ L[p] ∧ ((L[L[p].n.toNat]?).getD I0).op = 17 ∧ ((L[L[p].n.toNat]?).getD I0).n > L[p].n then ⟨4, 1, [⟨L[p].op, ((L[L[p].n.toNat]?).getD I0).n, 0⟩]⟩ else ⟨0, 0, []⟩ := by
    intro h2 h3
    unfold singleP
    rw [if_neg hRt, if_neg h2, if_neg h3]
  have jump : ∀ (facts17 : L[p].op = 17 ∨ L[p].op = 18), 0 ≤ L[p].n ∧ L[p].n < (L.length : Nat) ∧ L[p].m = 0 := fun hh => P.jump _ (List.getElem_mem _) hh
  by_cases h17 : L[p].op = 17
  · have h18 : ¬ L[p].op = 18 := by omega
    by_cases hn : L[p].n = ((p + 1 : Nat) : Int)
    · have e : singleP (hAt h) L p L[p] = ⟨2, 1, []⟩ := by
        unfold singleP
        rw [if_neg hRt, if_pos ⟨h17, hn⟩]
      rw [e, if_pos (by simp)]
      simp -implicitDefEqProofs only [go_sem, Nat.reduceAdd, Nat.reduceMul, Nat.reduceLT, Nat.reduceLeDiff, Nat.reduceEqDiff, Nat.reduceBEq, reduceCtorEq, Int.reduceLT, Int.reduceLE, Int.reduceEq, Int.reduceGT, Int.reduceGE, Int.reduceToNat, Int.reduceNeg, t1, t2, t7, hv, e1, f1, decide_eq_false hneg, h7, decide_eq_true h17, hwp, decide_eq_true hn]
      exact .mk ⟨hx, RuleT.none _ _ 2 1⟩
    · have hrg := jump (.inl h17)
      have hti : L[p].n.toNat < L.length := by omega
      have htn : ((L[p].n.toNat : Nat) : Int) = L[p].n := Int.toNat_of_nonneg hrg.1
      rw [rest (fun h => hn h.2) (fun h => h18 h.1)]
      have htg : (L[L[p].n.toNat]?).getD I0 = L[L[p].n.toNat] := by rw [List.getElem?_eq_getElem hti]; rfl
      rw [htg]
      obtain ⟨b4, o4, e4, f4, _⟩ := V.row.at (i := L[p].n.toNat) (by simpa using hti)
      have e4 := e4 .i64
      rw [htn] at e4
      simp only [List.getElem_map] at f4
      have hit : insC L[L[p].n.toNat] = [.int .i64 L[L[p].n.toNat].op, .int .i64 L[L[p].n.toNat].n, .int .i64 L[L[p].n.toNat].m] := rfl
      rw [hit] at f4
      generalize L[L[p].n.toNat] = tt at *
      have hx2 : Ext G.next G (G.new [.int .i64 tt.op, .int .i64 tt.n, .int .i64 tt.m] 29) := hx.new _ _
      have n7 : ¬ b7 = G.next := by omega
      have hres : ∀ (cs : List AV) (e : TypeId), ((G.new [.int .i64 tt.op, .int .i64 tt.n, .int .i64 tt.m] 29).res 1).put (G.next + 1) ⟨cs, e, true⟩ = (G.new [.int .i64 tt.op, .int .i64 tt.n, .int .i64 tt.m] 29).new cs e := fun cs e => res_put _ cs e
      by_cases t17 : tt.op = 17
      · by_cases tn : tt.n > L[p].n
        · rw [if_pos (show (isJ L[p] ∧ tt.op = 17 ∧ tt.n > L[p].n) from ⟨.inl h17, t17, tn⟩), if_pos (by simp)]
          simp -implicitDefEqProofs only [go_sem, Nat.reduceAdd, Nat.reduceMul, Nat.reduceLT, Nat.reduceLeDiff, Nat.reduceEqDiff, Nat.reduceBEq, reduceCtorEq, Int.reduceLT, Int.reduceLE, Int.reduceEq, Int.reduceGT, Int.reduceGE, Int.reduceToNat, Int.reduceNeg, t1, t2, t7, hv, e1, f1, decide_eq_false hneg, h7, decide_eq_true h17, decide_eq_false h18, hwp, decide_eq_false hn, e4, f4, new_put, n7, decide_eq_true t17, decide_eq_true tn, bs22i, hres]
          exact .mk ⟨hx2.new _ _, RuleT.made 4 1 hx2.next rfl rfl⟩
        · rw [if_neg (show ¬ (isJ L[p] ∧ tt.op = 17 ∧ tt.n > L[p].n) from fun hh => tn hh.2.2), if_neg (by simp)]
          simp -implicitDefEqProofs only [go_sem, Nat.reduceAdd, Nat.reduceMul, Nat.reduceLT, Nat.reduceLeDiff, Nat.reduceEqDiff, Nat.reduceBEq, reduceCtorEq, Int.reduceLT, Int.reduceLE, Int.reduceEq, Int.reduceGT, Int.reduceGE, Int.reduceToNat, Int.reduceNeg, t1, t2, t7, hv, e1, f1, decide_eq_false hneg, h7, decide_eq_true h17, decide_eq_false h18, hwp, decide_eq_false hn, e4, f4, new_put, n7, decide_eq_true t17, decide_eq_false tn]
          refine mid _ _ hx2 ?_ ?_ ?_
          · simp -implicitDefEqProofs only [go_sem, Nat.reduceEqDiff, Nat.reduceBEq, reduceCtorEq, t7]
          · simp -implicitDefEqProofs only [go_sem, Nat.reduceEqDiff, Nat.reduceBEq, reduceCtorEq, t8]
          · simp -implicitDefEqProofs only [go_sem, Nat.reduceEqDiff, Nat.reduceBEq, reduceCtorEq, t9]
      · rw [if_neg (show ¬ (isJ L[p] ∧ tt.op = 17 ∧ tt.n > L[p].n) from fun hh => t17 hh.2.1), if_neg (by simp)]
        simp -implicitDefEqProofs only [go_sem, Nat.reduceAdd, Nat.reduceMul, Nat.reduceLT, Nat.reduceLeDiff, Nat.reduceEqDiff, Nat.reduceBEq, reduceCtorEq, Int.reduceLT, Int.reduceLE, Int.reduceEq, Int.reduceGT, Int.reduceGE, Int.reduceToNat, Int.reduceNeg, t1, t2, t7, hv, e1, f1, decide_eq_false hneg, h7, decide_eq_true h17, decide_eq_false h18, hwp, decide_eq_false hn, e4, f4, new_put, n7, decide_eq_false t17]
        refine mid _ _ hx2 ?_ ?_ ?_
        · simp -implicitDefEqProofs only [go_sem, Nat.reduceEqDiff, Nat.reduceBEq, reduceCtorEq, t7]
        · simp -implicitDefEqProofs only [go_sem, Nat.reduceEqDiff, Nat.reduceBEq, reduceCtorEq, t8]
        · simp -implicitDefEqProofs only [go_sem, Nat.reduceEqDiff, Nat.reduceBEq, reduceCtorEq, t9]
  · by_cases h18 : L[p].op = 18
    · by_cases hn : L[p].n = ((p + 1 : Nat) : Int)
      · have e : singleP (hAt h) L p L[p] = ⟨3, 1, [⟨25, 0, 0⟩]⟩ := by
          unfold singleP
          rw [if_neg hRt, if_neg (fun hh => h17 hh.1), if_pos ⟨h18, hn⟩]
        rw [e, if_pos (by simp)]
        simp -implicitDefEqProofs only [go_sem, Nat.reduceAdd, Nat.reduceMul, Nat.reduceLT, Nat.reduceLeDiff, Nat.reduceEqDiff, Nat.reduceBEq, reduceCtorEq, Int.reduceLT, Int.reduceLE, Int.reduceEq, Int.reduceGT, Int.reduceGE, Int.reduceToNat, Int.reduceNeg, t1, t2, t7, hv, e1, f1, decide_eq_false hneg, h7, decide_eq_false h17, decide_eq_true h18, hwp, decide_eq_true hn, bs22i]
        exact .mk ⟨hx.new _ _, RuleT.made 3 1 (Nat.le_refl _) rfl rfl⟩
      · have hrg := jump (.inr h18)
        have hti : L[p].n.toNat < L.length := by omega
        have htn : ((L[p].n.toNat : Nat) : Int) = L[p].n := Int.toNat_of_nonneg hrg.1
        rw [rest (fun h => h17 h.1) (fun h => hn h.2)]
        have htg : (L[L[p].n.toNat]?).getD I0 = L[L[p].n.toNat] := by rw [List.getElem?_eq_getElem hti]; rfl
        rw [htg]
        obtain ⟨b4, o4, e4, f4, _⟩ := V.row.at (i := L[p].n.toNat) (by simpa using hti)
        have e4 := e4 .i64
        rw [htn] at e4
        simp only [List.getElem_map] at f4
        have hit : insC L[L[p].n.toNat] = [.int .i64 L[L[p].n.toNat].op, .int .i64 L[L[p].n.toNat].n, .int .i64 L[L[p].n.toNat].m] := rfl
        rw [hit] at f4
        generalize L[L[p].n.toNat] = tt at *
        have hx2 : Ext G.next G (G.new [.int .i64 tt.op, .int .i64 tt.n, .int .i64 tt.m] 29) := hx.new _ _
        have n7 : ¬ b7 = G.next := by omega
        have hres : ∀ (cs : List AV) (e : TypeId), ((G.new [.int .i64 tt.op, .int .i64 tt.n, .int .i64 tt.m] 29).res 1).put (G.next + 1) ⟨cs, e, true⟩ = (G.new [.int .i64 tt.op, .int .i64 tt.n, .int .i64 tt.m] 29).new cs e := fun cs e => res_put _ cs e
        by_cases t17 : tt.op = 17
        · by_cases tn : tt.n > L[p].n
          · rw [if_pos (show (isJ L[p] ∧ tt.op = 17 ∧ tt.n > L[p].n) from ⟨.inr h18, t17, tn⟩), if_pos (by simp)]
            simp -implicitDefEqProofs only [go_sem, Nat.reduceAdd, Nat.reduceMul, Nat.reduceLT, Nat.reduceLeDiff, Nat.reduceEqDiff, Nat.reduceBEq, reduceCtorEq, Int.reduceLT, Int.reduceLE, Int.reduceEq, Int.reduceGT, Int.reduceGE, Int.reduceToNat, Int.reduceNeg, t1, t2, t7, hv, e1, f1, decide_eq_false hneg, h7, decide_eq_false h17, decide_eq_true h18, hwp, decide_eq_false hn, e4, f4, new_put, n7, decide_eq_true t17, decide_eq_true tn, bs22i, hres]
            exact .mk ⟨hx2.new _ _, RuleT.made 4 1 hx2.next rfl rfl⟩
          · rw [if_neg (show ¬ (isJ L[p] ∧ tt.op = 17 ∧ tt.n > L[p].n) from fun hh => tn hh.2.2), if_neg (by simp)]
            simp -implicitDefEqProofs only [go_sem, Nat.reduceAdd, Nat.reduceMul, Nat.reduceLT, Nat.reduceLeDiff, Nat.reduceEqDiff, Nat.reduceBEq, reduceCtorEq, Int.reduceLT, Int.reduceLE, Int.reduceEq, Int.reduceGT, Int.reduceGE, Int.reduceToNat, Int.reduceNeg, t1, t2, t7, hv, e1, f1, decide_eq_false hneg, h7, decide_eq_false h17, decide_eq_true h18, hwp, decide_eq_false hn, e4, f4, new_put, n7, decide_eq_true t17, decide_eq_false tn]
            refine mid _ _ hx2 ?_ ?_ ?_
            · simp -implicitDefEqProofs only [go_sem, Nat.reduceEqDiff, Nat.reduceBEq, reduceCtorEq, t7]
            · simp -implicitDefEqProofs only [go_sem, Nat.reduceEqDiff, Nat.reduceBEq, reduceCtorEq, t8]
            · simp -implicitDefEqProofs only [go_sem, Nat.reduceEqDiff, Nat.reduceBEq, reduceCtorEq, t9]
        · rw [if_neg (show ¬ (isJ L[p] ∧ tt.op = 17 ∧ tt.n > L[p].n) from fun hh => t17 hh.2.1), if_neg (by simp)]
          simp -implicitDefEqProofs only [go_sem, Nat.reduceAdd, Nat.reduceMul, Nat.reduceLT, Nat.reduceLeDiff, Nat.reduceEqDiff, Nat.reduceBEq, reduceCtorEq, Int.reduceLT, Int.reduceLE, Int.reduceEq, Int.reduceGT, Int.reduceGE, Int.reduceToNat, Int.reduceNeg, t1, t2, t7, hv, e1, f1, decide_eq_false hneg, h7, decide_eq_false h17, decide_eq_true h18, hwp, decide_eq_false hn, e4, f4, new_put, n7, decide_eq_false t17]
          refine mid _ _ hx2 ?_ ?_ ?_
          · simp -implicitDefEqProofs only [go_sem, Nat.reduceEqDiff, Nat.reduceBEq, reduceCtorEq, t7]
          · simp -implicitDefEqProofs only [go_sem, Nat.reduceEqDiff, Nat.reduceBEq, reduceCtorEq, t8]
          · simp -implicitDefEqProofs only [go_sem, Nat.reduceEqDiff, Nat.reduceBEq, reduceCtorEq, t9]
    · have hnj : ¬ isJ L[p] := fun hh => hh.elim h17 h18
      rw [rest (fun h => h17 h.1) (fun h => h18 h.1)]
      generalize (L[L[p].n.toNat]?).getD I0 = tt
      rw [if_neg (show ¬ (isJ L[p] ∧ tt.op = 17 ∧ tt.n > L[p].n) from fun hh => hnj hh.1), if_neg (by simp)]
      simp -implicitDefEqProofs only [go_sem, Nat.reduceAdd, Nat.reduceMul, Nat.reduceLT, Nat.reduceLeDiff, Nat.reduceEqDiff, Nat.reduceBEq, reduceCtorEq, Int.reduceLT, Int.reduceLE, Int.reduceEq, Int.reduceGT, Int.reduceGE, Int.reduceToNat, Int.reduceNeg, t1, t2, t7, hv, e1, f1, decide_eq_false hneg, h7, decide_eq_false h17, decide_eq_false h18]
      refine mid _ _ hx ?_ ?_ ?_
      · simp -implicitDefEqProofs only [go_sem, Nat.reduceEqDiff, Nat.reduceBEq, reduceCtorEq, t7]
      · simp -implicitDefEqProofs only [go_sem, Nat.reduceEqDiff, Nat.reduceBEq, reduceCtorEq, t8]
      · simp -implicitDefEqProofs only [go_sem, Nat.reduceEqDiff, Nat.reduceBEq, reduceCtorEq, t9]
end Go.Proofs.YthiflgncldmkjaaDoor
set_option linter.unusedVariables false
set_option linter.unusedSimpArgs false
set_option maxRecDepth 100000
namespace Go.Proofs.YthiflgncldmkjaaDoor
open Go.Ri
attribute [local congr] bind_lazy jn_lazy

theorem Plain.two {L : List Ins} (P : Plain L) {p : Nat} (hp : p < L.length) (T : Nat → Bool) : Two L[p] (Go.Proofs.YthiflgncldmkjaaDoor.jAt T L p) := by
  refine ⟨P.clear _ (List.getElem_mem _), fun h => ?_⟩
  exact P.clear _ (List.mem_of_getElem? (jAt_some (T := T) (L := L) (p := p) (by rw [h]; omega)).2) h
theorem Plain.vAt {L : List Ins} (P : Plain L) (T : List Bool) (p : Nat) (f : Bool) : (Go.Proofs.YthiflgncldmkjaaDoor.vAt T L p f).Ok := by
  unfold Go.Proofs.YthiflgncldmkjaaDoor.vAt
  split
  · exact ok_I0
  · exact P.at _
set_option maxHeartbeats 2000000 in
theorem rrule_spec (d : Nat) {H : AH} (hw : H.wf) {s hs tg : AV} {L : List Ins} {h : List Int} {T : List Bool} (V : Vw H s hs tg L h T) (P : Plain L) {p : Nat} (hp : p < L.length) :
    Ret (RT (d + 5) 99 [.agg [s, hs, tg], .int .i64 (p : Nat)] H) fun r => Ext H.next H r.2 ∧ RuleT H.next r.2 r.1 (ruleP (hAt h) (bAt T) L p) := by
  rw [R99]
  unfold F99
  have hL := P.few
  have x1 : Ext H.next H ((H.new [s, hs, tg] 141).res 2) := Ext.res ((Ext.refl hw).new _ _) 2
  obtain ⟨⟨v3, H3⟩, h3, x3, hv3⟩ := at_spec (d + 3) x1.wf (V.mono (x1.sub hw)) (by omega) (p := p) (by omega) true
  simp only at x3 hv3
  subst hv3
  have x13 : Ext H.next H H3 := x1.trans x3 (by simp only [res_next, new_next]; omega)
  have hn3 : H.next + 3 ≤ H3.next := x3.next
  have hb3 : H3.m H.next = some ⟨[s, hs, tg], 141, true⟩ := by
    rw [x3.low _ (by simp only [res_next, new_next]; omega)]
    simp
  obtain ⟨⟨v6, H6⟩, h6, x6, hv6⟩ := at_spec (d + 3) x13.wf (V.mono (x13.sub hw)) (by omega) (p := p + 1) (by omega) false
  simp only at x6 hv6
  subst hv6
  have x16 : Ext H.next H H6 := x13.trans x6 x13.next
  have hn6 : H.next + 3 ≤ H6.next := Nat.le_trans hn3 x6.next
  have hb6 : H6.m H.next = some ⟨[s, hs, tg], 141, true⟩ := by rw [x6.low _ (by omega)]; exact hb3
  have hi : vAt T L p true = L[p] := by
    unfold vAt
    rw [if_neg (by simp), insAt_eq hp]
  have hj : vAt T L (p + 1) false = jAt (bAt T) L p := by
    unfold vAt jAt
    by_cases ht : bAt T (p + 1) = true
    · rw [if_pos ⟨rfl, ht⟩, if_pos ht]
    · rw [if_neg (fun hh => ht hh.2), if_neg ht]
  have hrl : ruleP (hAt h) (bAt T) L p = if (singleP (hAt h) L p L[p]).rule ≠ 0 then singleP (hAt h) L p L[p] else pairP L[p] (jAt (bAt T) L p) (kAt (bAt T) L p) := by
    unfold ruleP
    rw [insAt_eq hp]
  rw [hi] at h3
  rw [hj] at h6
  have P2 := P.two hp (bAt T)
  have hjok := P.jAt (bAt T) p
  have hin : ∀ x : Ins, insC x = [.int .i64 x.op, .int .i64 x.n, .int .i64 x.m] := fun _ => rfl
  have xa : ∀ (B1 B2 B3 B4 : Blk), Ext H.next H ((((H6.put (H.next + 1) B1).put (H.next + 2) B2).put (H.next + 1) B3).put (H.next + 2) B4) := fun B1 B2 B3 B4 =>
    (((x16.put (by omega) (by omega) B1).put (by omega) (by simp only [put_next]; omega) B2).put (by omega) (by simp only [put_next]; omega) B3).put (by omega) (by simp only [put_next]; omega) B4
  have hn2 : H.next + 1 + 1 = H.next + 2 := rfl
  have n1 : ¬ H.next = H6.next := by omega
  have n2 : ¬ H.next + 1 = H6.next := by omega
  have n3 : ¬ H.next + 2 = H6.next := by omega
  have n4 : ¬ H.next + 1 = H.next := by omega
  have n5 : ¬ H.next + 2 = H.next := by omega
  have n6 : ¬ H.next = H.next + 1 := by omega
  have n7 : ¬ H.next = H.next + 2 := by omega
  have hw1 := wrapS (i := p) (by omega)
  have hw2 : IntKind.i64.wrap (((p : Nat) : Int) + 2) = ((p + 2 : Nat) : Int) := by rw [wrap_id (by unfold InI; omega)]; omega
  rw [hrl]
  rw [hin] at h3 h6
  generalize hjj : jAt (bAt T) L p = j at *
  -- the heap behind the two
  have xG := ((xa ⟨[.int .i64 0, .int .i64 0, .int .i64 0], 29, true⟩ ⟨[.int .i64 0, .int .i64 0, .int .i64 0], 29, true⟩ ⟨[.int .i64 L[p].op, .int .i64 L[p].n, .int .i64 L[p].m], 29, true⟩ ⟨[.int .i64 j.op, .int .i64 j.n, .int .i64 j.m], 29, true⟩).new [.int .i64 0, .int .i64 0, .int .i64 0] 29).put (b := H6.next) (by omega) (by simp only [new_next, put_next]; omega) ⟨[.int .i64 0, .int .i64 0, .int .i64 0], 29, true⟩
  have top := fun (G : AH) (T' : Tm) (k : Ins) (hk : k.Ok) (hx : Ext H.next H G) (u1 : T' 1 = .int .i64 (p : Nat)) (u2 : T' 2 = .ptr (some (H.next, 0))) (u7 : T' 7 = .ptr (some (H.next + 1, 0))) (u8 : T' 8 = .ptr (some (H.next + 2, 0))) (u9 : T' 9 = .ptr (some (H6.next, 0)))
      (gv : G.m H.next = some ⟨[s, hs, tg], 141, true⟩) (g7 : G.m (H.next + 1) = some ⟨insC L[p], 29, true⟩) (g8 : G.m (H.next + 2) = some ⟨insC j, 29, true⟩) (g9 : G.m H6.next = some ⟨insC k, 29, true⟩) =>
    (top_spec d hx.wf (V.mono (hx.sub hw)) P hp P2 hjok hk u1 u2 u7 u8 u9 gv g7 g8 g9).mono fun r (hh : RQ G _ r) => (show Ext H.next H r.2 ∧ RuleT H.next r.2 r.1 _ from ⟨hx.trans hh.1 hx.next, hh.2.low hx.next⟩)
  by_cases j0 : j.op = 0
  · have hk : kAt (bAt T) L p = I0 := by
      unfold kAt
      rw [hjj, if_pos (.inl j0)]
    rw [hk]
    simp -implicitDefEqProofs only [go_sem, Nat.reduceAdd, Nat.reduceMul, Nat.reduceLT, Nat.reduceLeDiff, Nat.reduceEqDiff, Nat.reduceBEq, reduceCtorEq, Int.reduceLT, Int.reduceLE, Int.reduceEq, Int.reduceGT, Int.reduceGE, Int.reduceToNat, Int.reduceNeg, hn2, h3, hb3, hw1, h6, n1, n2, n3, n4, n5, n6, n7, hb6, decide_eq_true j0, new_put]
    refine top _ _ I0 ok_I0 xG ?_ ?_ ?_ ?_ ?_ ?_ ?_ ?_ ?_
    · simp -implicitDefEqProofs only [go_sem, Nat.reduceEqDiff, Nat.reduceBEq, reduceCtorEq, hn2]
    · simp -implicitDefEqProofs only [go_sem, Nat.reduceEqDiff, Nat.reduceBEq, reduceCtorEq, hn2]
    · simp -implicitDefEqProofs only [go_sem, Nat.reduceEqDiff, Nat.reduceBEq, reduceCtorEq, hn2]
    · simp -implicitDefEqProofs only [go_sem, Nat.reduceEqDiff, Nat.reduceBEq, reduceCtorEq, hn2]
    · simp -implicitDefEqProofs only [go_sem, Nat.reduceEqDiff, Nat.reduceBEq, reduceCtorEq, hn2]
    · simp [n1, n6, n7, hb6]
    · simp [n2, n4, hin]
    · simp [n3, n5, hin]
    · simp [hin, I0]
  · have hk : kAt (bAt T) L p = vAt T L (p + 2) false := by
      unfold kAt vAt
      rw [hjj]
      by_cases ht : bAt T (p + 2) = true
      · rw [if_pos (.inr ht), if_pos ⟨rfl, ht⟩]
      · rw [if_neg (fun hh => hh.elim j0 ht), if_neg (fun hh => ht hh.2)]
    rw [hk]
    obtain ⟨⟨v20, H20⟩, h20, x20, hv20⟩ := at_spec (d + 3) xG.wf (V.mono (xG.sub hw)) (by omega) (p := p + 2) (by omega) false
    simp only at x20 hv20
    subst hv20
    simp only [new_next, put_next] at x20
    have low : ∀ b, b < H6.next + 1 → H20.m b = _ := fun b hb => x20.low b hb
    have g1 : H20.m H.next = some ⟨[s, hs, tg], 141, true⟩ := by rw [low _ (by omega)]; simp [n1, n6, n7, hb6]
    have g2 : H20.m (H.next + 1) = some ⟨insC L[p], 29, true⟩ := by rw [low _ (by omega)]; simp [n2, n4, hin]
    have g3 : H20.m (H.next + 2) = some ⟨insC j, 29, true⟩ := by rw [low _ (by omega)]; simp [n3, n5, hin]
    have g4 : H20.m H6.next = some ⟨[.int .i64 0, .int .i64 0, .int .i64 0], 29, true⟩ := by rw [low _ (by omega)]; simp
    have xH : Ext H.next H H20 := xG.trans x20 (by omega)
    have hlt20 : H6.next < H20.next := x20.next
    have xF := fun B => xH.put (b := H6.next) (by omega) hlt20 B
    rw [hin] at h20
    simp -implicitDefEqProofs only [go_sem, Nat.reduceAdd, Nat.reduceMul, Nat.reduceLT, Nat.reduceLeDiff, Nat.reduceEqDiff, Nat.reduceBEq, reduceCtorEq, Int.reduceLT, Int.reduceLE, Int.reduceEq, Int.reduceGT, Int.reduceGE, Int.reduceToNat, Int.reduceNeg, hn2, h3, hb3, hw1, h6, n1, n2, n3, n4, n5, n6, n7, hb6, decide_eq_false j0, new_put, hw2, h20, g4]
    refine top _ _ (vAt T L (p + 2) false) (P.vAt T _ _) (xF _) ?_ ?_ ?_ ?_ ?_ ?_ ?_ ?_ ?_
    · simp -implicitDefEqProofs only [go_sem, Nat.reduceEqDiff, Nat.reduceBEq, reduceCtorEq, hn2]
    · simp -implicitDefEqProofs only [go_sem, Nat.reduceEqDiff, Nat.reduceBEq, reduceCtorEq, hn2]
    · simp -implicitDefEqProofs only [go_sem, Nat.reduceEqDiff, Nat.reduceBEq, reduceCtorEq, hn2]
    · simp -implicitDefEqProofs only [go_sem, Nat.reduceEqDiff, Nat.reduceBEq, reduceCtorEq, hn2]
    · simp -implicitDefEqProofs only [go_sem, Nat.reduceEqDiff, Nat.reduceBEq, reduceCtorEq, hn2]
    · simp only [put_m]
      rw [if_neg n1]
      exact g1
    · simp only [put_m]
      rw [if_neg n2]
      exact g2
    · simp only [put_m]
      rw [if_neg n3]
      exact g3
    · simp [hin]
end Go.Proofs.YthiflgncldmkjaaDoor
set_option linter.unusedVariables false
set_option linter.unusedSimpArgs false
set_option maxRecDepth 100000
namespace Go.Proofs.YthiflgncldmkjaaDoor
open Go.Ri
attribute [local congr] bind_lazy jn_lazy

theorem hAt_reach {l : List Code} {c : Code} {h : List Int} (g : Good l c h) : hAt h = reachL c.ins := by
  have eq : ∀ {x y : Bool}, (x = true ↔ y = true) → x = y := fun {x y} h => by cases x <;> cases y <;> simp_all
  funext a
  refine eq ?_
  rw [reachL_iff (c := c) rfl]
  unfold hAt
  rw [decide_eq_true_iff]
  constructor
  · intro h0
    cases hx : h[a]? with
    | none => rw [hx] at h0; simp at h0
    | some x =>
      rw [hx] at h0
      simp only [Option.getD_some] at h0
      rcases g.reach a x hx with h1 | h1
      · omega
      · exact h1.2
  · intro hr
    obtain ⟨x, hx, h0⟩ := g.at_reach hr
    rw [hx]
    exact h0
def Tgt (L : List Ins) (h : List Int) (i : Nat) (T : List Bool) : Prop := ∀ t : Nat, bAt T t = true ↔ ∃ a, a < i ∧ hAt h a = true ∧ isJ (insAt L a) ∧ (insAt L a).n = (t : Nat)
theorem Tgt.all {l : List Code} {c : Code} {h : List Int} (g : Good l c h) {T : List Bool} (ht : Tgt c.ins h c.ins.length T) : bAt T = targL c.ins := by
  have eq : ∀ {x y : Bool}, (x = true ↔ y = true) → x = y := fun {x y} h => by cases x <;> cases y <;> simp_all
  funext t
  refine eq ?_
  rw [ht t, targL_iff]
  constructor
  · rintro ⟨a, ha, hr, hj, hn⟩
    rw [hAt_reach g, reachL_iff (c := c) rfl] at hr
    rw [insAt_eq ha] at hj hn
    exact ⟨a, c.ins[a], Reach.ins (c := c) (c' := bareC c.ins) rfl hr, List.getElem?_eq_getElem ha, hj, hn⟩
  · rintro ⟨a, i, hr, hi, hj, hn⟩
    have ha := (List.getElem?_eq_some_iff.1 hi).1
    rw [List.getElem?_eq_getElem ha] at hi
    cases hi
    refine ⟨a, ha, ?_, by rw [insAt_eq ha]; exact hj, by rw [insAt_eq ha]; exact hn⟩
    rw [hAt_reach g]
    exact (reachL_iff (c := c) rfl).2 (Reach.ins (c := bareC c.ins) (c' := c) rfl hr)
structure IV (H2 : AH) (q : Nat) (s hs : AV) (L : List Ins) (h : List Int) (i : Nat) (t : St) : Prop where
  t4 : t.1 4 = .ptr (some (q, 0))
  t6 : t.1 6 = hs
  t8 : t.1 8 = .ptr (some (H2.next + 1, 0))
  t9 : t.1 9 = .int .i64 (i : Nat)
  ext : Ext H2.next H2 t.2
  lt : H2.next + 1 < t.2.next
  vb : t.2.m (H2.next + 1) = some ⟨[s, hs, .slice (some (H2.next, 0)) L.length (.kn L.length)], 141, true⟩
  tb : ∃ T : List Bool, t.2.m H2.next = some ⟨T.map .bool, 4, true⟩ ∧ T.length = L.length ∧ Tgt L h i T
set_option maxHeartbeats 2000000 in
theorem of_loop (d : Nat) {H2 : AH} (hw : H2.wf) {q : Nat} {s hs : AV} {L : List Ins} {h : List Int} (hrow : Row H2 s 3 (L.map insC)) (hhr : Row H2 hs 1 (h.map fun x => [.int .i64 x])) (hl : h.length = L.length) (P : Plain L) {T : Tm} {H1 : AH} (h0 : IV H2 q s hs L h 0 (T, H1)) :
    Ret (Ri.iter big (F98_L1 (RT d) (Ri.iter big)) (T, H1)) fun r => r.1 = .exit 0 ∧ IV H2 q s hs L h L.length r.2 := by
  have hL := P.few
  refine Ret.upTo (n := L.length) (IV H2 q s hs L h) (by unfold big; omega) h0 ?_ ?_
  · rintro i ⟨T1, H3⟩ hi ⟨t4, t6, t8, t9, hx, hlt, hvb, Tg, htb, hTl, htg⟩
    simp only at t4 t6 t8 t9 hx hlt hvb htb
    have hcmp : decide (((i : Nat) : Int) < ((L.length : Nat) : Int)) = true := decide_eq_true (by omega)
    have hal : aLen Tryd.prog 40 hs = some (.int .i64 (L.length : Nat)) := by rw [hhr.alen ysl40.under, List.length_map, hl]
    have hsub := hx.sub hw
    obtain ⟨b1, o1, e1, f1, _⟩ := (hrow.mono hsub).at (i := i) (by simpa using hi)
    simp only [List.getElem_map] at f1
    obtain ⟨p1, hp1⟩ : ∃ q, q = (b1, o1) := ⟨_, rfl⟩
    rw [← hp1] at e1 f1
    have hx4 : Ext H2.next H2 (H3.new (insC L[i]) 29) := hx.new _ _
    obtain ⟨b2, o2, e2, _, f2⟩ := (hhr.mono (hx4.sub hw)).at (i := i) (by simp; omega)
    have f2 := f2 0 (by omega)
    simp only [List.getElem_map, Nat.add_zero, List.getElem?_cons_zero] at f2
    obtain ⟨p2, hp2⟩ : ∃ q, q = (b2, o2) := ⟨_, rfl⟩
    rw [← hp2] at e2 f2
    have hin : insC L[i] = [.int .i64 L[i].op, .int .i64 L[i].n, .int .i64 L[i].m] := rfl
    rw [hin] at f1 f2 hx4
    have n1 : ¬ H2.next + 1 = H3.next := by omega
    have n2 : ¬ H2.next = H3.next := by omega
    have hgi : insAt L i = L[i] := insAt_eq hi
    have hh : hAt h i = decide (0 ≤ h[i]) := by unfold hAt; rw [List.getElem?_eq_getElem (by omega)]; rfl
    have stay : (¬ (hAt h i = true ∧ isJ L[i])) → Tgt L h (i + 1) Tg := fun hno t => by
      rw [htg t]
      constructor
      · rintro ⟨a, h1, h2⟩
        exact ⟨a, by omega, h2⟩
      · rintro ⟨a, h1, h2, h3, h4⟩
        by_cases ea : a = i
        · subst ea
          rw [hgi] at h3
          exact absurd ⟨h2, h3⟩ hno
        · exact ⟨a, by omega, h2, h3, h4⟩
    have hwi := wrapS (i := i) (by omega)
    have keep : Tgt L h (i + 1) Tg → ∀ T' : Tm, T' 4 = .ptr (some (q, 0)) → T' 6 = hs → T' 8 = .ptr (some (H2.next + 1, 0)) → T' 9 = .int .i64 ((i + 1 : Nat) : Int) → IV H2 q s hs L h (i + 1) (T', H3.new [.int .i64 L[i].op, .int .i64 L[i].n, .int .i64 L[i].m] 29) := fun hT T' a4 a6 a8 a9 =>
      ⟨a4, a6, a8, a9, hx4, by simp only [new_next]; omega, by simp only [new_m]; rw [if_neg n1]; exact hvb, Tg, by simp only [new_m]; rw [if_neg n2]; exact htb, hTl, hT⟩
    unfold F98_L1
    by_cases hge : h[i] ≥ 0
    · by_cases hj : isJ L[i]
      · have hrg := P.jump _ (List.getElem_mem hi) hj
        have hjn : ((0 : Int) ≤ L[i].n ∧ L[i].n < ((L.length : Nat) : Int)) = True := eq_true ⟨hrg.1, hrg.2.1⟩
        have hTn : L[i].n.toNat < Tg.length := by rw [hTl]; omega
        have htl : (L[i].n.toNat < (Tg.map AV.bool).length) = True := eq_true (by simpa using hTn)
        have hnew : Tgt L h (i + 1) (Tg.set L[i].n.toNat true) := fun t => by
          rw [bAt_set hTn]
          by_cases et : t = L[i].n.toNat
          · rw [if_pos et]
            simp only [true_iff]
            exact ⟨i, by omega, by rw [hh]; exact decide_eq_true hge, by rw [hgi]; exact hj, by rw [hgi]; omega⟩
          · rw [if_neg et, htg t]
            constructor
            · rintro ⟨a, h1, h2⟩
              exact ⟨a, by omega, h2⟩
            · rintro ⟨a, h1, h2, h3, h4⟩
              by_cases ea : a = i
              · subst ea
                rw [hgi] at h4
                exact absurd (by omega) et
              · exact ⟨a, by omega, h2, h3, h4⟩
        have fin : ∀ T' : Tm, T' 4 = .ptr (some (q, 0)) → T' 6 = hs → T' 8 = .ptr (some (H2.next + 1, 0)) → T' 9 = .int .i64 ((i + 1 : Nat) : Int) → IV H2 q s hs L h (i + 1) (T', (H3.new [.int .i64 L[i].op, .int .i64 L[i].n, .int .i64 L[i].m] 29).put H2.next ⟨(Tg.map AV.bool).set L[i].n.toNat (.bool true), 4, true⟩) := fun T' a4 a6 a8 a9 => by
          refine ⟨a4, a6, a8, a9, hx4.put (Nat.le_refl _) (by simp only [new_next]; omega) _, by simp only [put_next, new_next]; omega, ?_, Tg.set L[i].n.toNat true, ?_, by simp [hTl], hnew⟩
          · simp only [put_m, new_m]
            rw [if_neg (by omega), if_neg n1]
            exact hvb
          · simp only [put_m, if_true, List.map_set]
        rcases hj with h17 | h18
        · simp -implicitDefEqProofs only [go_sem, Nat.reduceAdd, Nat.reduceMul, Nat.reduceLT, Nat.reduceLeDiff, Nat.reduceEqDiff, Nat.reduceBEq, reduceCtorEq, Int.reduceLT, Int.reduceLE, Int.reduceEq, Int.reduceGT, Int.reduceGE, Int.reduceToNat, Int.reduceNeg, t6, t8, t9, hal, hcmp, hvb, e1, f1, new_put, e2, f2, decide_eq_true hge, decide_eq_true h17, n1, n2, hjn, htb, htl, F98_J0, hwi]
          refine .mk (.inl ⟨rfl, fin _ ?_ ?_ ?_ ?_⟩)
          · simp -implicitDefEqProofs only [go_sem, Nat.reduceEqDiff, Nat.reduceBEq, reduceCtorEq, t4]
          · simp -implicitDefEqProofs only [go_sem, Nat.reduceEqDiff, Nat.reduceBEq, reduceCtorEq, t6]
          · simp -implicitDefEqProofs only [go_sem, Nat.reduceEqDiff, Nat.reduceBEq, reduceCtorEq, t8]
          · simp -implicitDefEqProofs only [go_sem, Nat.reduceEqDiff, Nat.reduceBEq, reduceCtorEq]
        · have h17 : ¬ L[i].op = 17 := by omega
          simp -implicitDefEqProofs only [go_sem, Nat.reduceAdd, Nat.reduceMul, Nat.reduceLT, Nat.reduceLeDiff, Nat.reduceEqDiff, Nat.reduceBEq, reduceCtorEq, Int.reduceLT, Int.reduceLE, Int.reduceEq, Int.reduceGT, Int.reduceGE, Int.reduceToNat, Int.reduceNeg, t6, t8, t9, hal, hcmp, hvb, e1, f1, new_put, e2, f2, decide_eq_true hge, decide_eq_false h17, decide_eq_true h18, n1, n2, hjn, htb, htl, F98_J0, hwi]
          refine .mk (.inl ⟨rfl, fin _ ?_ ?_ ?_ ?_⟩)
          · simp -implicitDefEqProofs only [go_sem, Nat.reduceEqDiff, Nat.reduceBEq, reduceCtorEq, t4]
          · simp -implicitDefEqProofs only [go_sem, Nat.reduceEqDiff, Nat.reduceBEq, reduceCtorEq, t6]
          · simp -implicitDefEqProofs only [go_sem, Nat.reduceEqDiff, Nat.reduceBEq, reduceCtorEq, t8]
          · simp -implicitDefEqProofs only [go_sem, Nat.reduceEqDiff, Nat.reduceBEq, reduceCtorEq]
      · have h17 : ¬ L[i].op = 17 := fun h => hj (.inl h)
        have h18 : ¬ L[i].op = 18 := fun h => hj (.inr h)
        simp -implicitDefEqProofs only [go_sem, Nat.reduceAdd, Nat.reduceMul, Nat.reduceLT, Nat.reduceLeDiff, Nat.reduceEqDiff, Nat.reduceBEq, reduceCtorEq, Int.reduceLT, Int.reduceLE, Int.reduceEq, Int.reduceGT, Int.reduceGE, Int.reduceToNat, Int.reduceNeg, t6, t8, t9, hal, hcmp, hvb, e1, f1, new_put, e2, f2, decide_eq_true hge, decide_eq_false h17, decide_eq_false h18, F98_J0, hwi]
        refine .mk (.inl ⟨rfl, keep (stay fun h => hj h.2) _ ?_ ?_ ?_ ?_⟩)
        · simp -implicitDefEqProofs only [go_sem, Nat.reduceEqDiff, Nat.reduceBEq, reduceCtorEq, t4]
        · simp -implicitDefEqProofs only [go_sem, Nat.reduceEqDiff, Nat.reduceBEq, reduceCtorEq, t6]
        · simp -implicitDefEqProofs only [go_sem, Nat.reduceEqDiff, Nat.reduceBEq, reduceCtorEq, t8]
        · simp -implicitDefEqProofs only [go_sem, Nat.reduceEqDiff, Nat.reduceBEq, reduceCtorEq]
    · simp -implicitDefEqProofs only [go_sem, Nat.reduceAdd, Nat.reduceMul, Nat.reduceLT, Nat.reduceLeDiff, Nat.reduceEqDiff, Nat.reduceBEq, reduceCtorEq, Int.reduceLT, Int.reduceLE, Int.reduceEq, Int.reduceGT, Int.reduceGE, Int.reduceToNat, Int.reduceNeg, t6, t8, t9, hal, hcmp, hvb, e1, f1, new_put, e2, f2, decide_eq_false hge, F98_J0, hwi]
      refine .mk (.inl ⟨rfl, keep (stay fun h => by rw [hh] at h; exact hge (of_decide_eq_true h.1)) _ ?_ ?_ ?_ ?_⟩)
      · simp -implicitDefEqProofs only [go_sem, Nat.reduceEqDiff, Nat.reduceBEq, reduceCtorEq, t4]
      · simp -implicitDefEqProofs only [go_sem, Nat.reduceEqDiff, Nat.reduceBEq, reduceCtorEq, t6]
      · simp -implicitDefEqProofs only [go_sem, Nat.reduceEqDiff, Nat.reduceBEq, reduceCtorEq, t8]
      · simp -implicitDefEqProofs only [go_sem, Nat.reduceEqDiff, Nat.reduceBEq, reduceCtorEq]
  · rintro ⟨T1, H3⟩ ⟨t4, t6, t8, t9, hx, hlt, hvb, htb⟩
    simp only at t4 t6 t8 t9 hx hlt hvb htb
    have hal : aLen Tryd.prog 40 hs = some (.int .i64 (L.length : Nat)) := by rw [hhr.alen ysl40.under, List.length_map, hl]
    have hcmp : decide (((L.length : Nat) : Int) < ((L.length : Nat) : Int)) = false := decide_eq_false (by omega)
    unfold F98_L1
    simp -implicitDefEqProofs only [go_sem, Nat.reduceAdd, Nat.reduceMul, Nat.reduceLT, Nat.reduceLeDiff, Nat.reduceEqDiff, Nat.reduceBEq, reduceCtorEq, Int.reduceLT, Int.reduceLE, Int.reduceEq, Int.reduceGT, Int.reduceGE, Int.reduceToNat, Int.reduceNeg, t6, t9, hal, hcmp]
    refine .mk ⟨by simp, rfl, ?_, ?_, ?_, ?_, hx, hlt, hvb, htb⟩
    · simp -implicitDefEqProofs only [go_sem, Nat.reduceEqDiff, Nat.reduceBEq, reduceCtorEq, t4]
    · simp -implicitDefEqProofs only [go_sem, Nat.reduceEqDiff, Nat.reduceBEq, reduceCtorEq, t6]
    · simp -implicitDefEqProofs only [go_sem, Nat.reduceEqDiff, Nat.reduceBEq, reduceCtorEq, t8]
    · simp -implicitDefEqProofs only [go_sem, Nat.reduceEqDiff, Nat.reduceBEq, reduceCtorEq, t9]
theorem Own.intsRow {N : Nat} {H : AH} {s : AV} {l : List Int} (h : OwnI N H s l) : Row H s 1 (l.map fun x => [.int .i64 x]) := by
  refine Own.row (by omega) (N := N) (e := 3) ?_ (fun x hx => by simp only [List.mem_map] at hx; obtain ⟨_, _, rfl⟩ := hx; rfl)
  rw [ints_flat]
  exact h
set_option maxHeartbeats 2000000 in
theorem of_spec (d : Nat) {H : AH} (hw : H.wf) (hT : Tabs H) {ls : AV} {l : List Code} (hl : CodesRow H ls l) {k : Nat} (hk : k < l.length) (hs : Snd l l[k]) (hok : ∀ i ∈ l[k].ins, i.Ok) :
    Ret (RT (d + 5) 98 [ls, .int .i64 (k : Nat)] H) fun r => Ext H.next H r.2 ∧ ∃ b o s hv tg h T, (∀ kd, idxSl ls (.int kd (k : Nat)) 4 = some (.ptr (some (b, o)))) ∧ ldAgg (.ptr (some (b, o))) 4 H = some (.agg [s, .int .i64 l[k].cells, .int .i64 l[k].params, .bool l[k].answers]) ∧
      r.1 = .tuple [.agg [s, hv, tg], .bool true] ∧ Vw r.2 s hv tg l[k].ins h T ∧ hAt h = reachL l[k].ins ∧ bAt T = targL l[k].ins := by
  rw [R98]
  unfold F98
  have P := hs.1.plain hok
  have hL := P.few
  have hfew := hl.few
  have x1 : Ext H.next H (H.new [.slice none 0 (.kn 0), .slice none 0 (.kn 0), .slice none 0 (.kn 0)] 141) := (Ext.refl hw).new _ _
  obtain ⟨⟨v, H2⟩, h29, x2, hr⟩ := Heights_ref d x1.wf (hT.ext x1 hT.two) (hl.mono (x1.sub hw)) (k := ((k : Nat) : Int)) (by unfold InI; omega)
  simp only at x2 hr
  rcases hr with ⟨hv, h, rfl, hown, hh⟩ | ⟨_, hno⟩
  · have x12 : Ext H.next H H2 := x1.trans x2 (Nat.le_succ _)
    have hlt2 : H.next < H2.next := x2.next
    obtain ⟨b, o, s, f1, f2, f3, fi, f5, _⟩ := codes_ins (hl.mono (x12.sub hw)) hk
    obtain ⟨b', o', s', g1, _, _, gi, g5, _⟩ := codes_ins hl hk
    obtain ⟨rfl, rfl⟩ : b' = b ∧ o' = o := by
      have h1 := g1 .i64
      rw [f1 .i64] at h1
      cases h1
      exact ⟨rfl, rfl⟩
    have g5' : ldAgg (.ptr (some (b', o'))) 4 H2 = some (.agg [s', .int .i64 l[k].cells, .int .i64 l[k].params, .bool l[k].answers]) := ldAgg_sub (x12.sub hw) g5
    obtain rfl : s' = s := by
      rw [g5'] at f5
      simp only [Option.some.injEq, AV.agg.injEq, List.cons.injEq] at f5
      exact f5.1
    obtain ⟨_, ⟨o0, h0, g0⟩⟩ : True ∧ Snd l l[k] := ⟨trivial, hs⟩
    have hlen : h.length = l[k].ins.length := by
      obtain ⟨c, _, hc, _, hg⟩ := hh
      rw [Int.toNat_natCast, List.getElem?_eq_getElem hk] at hc
      obtain rfl : l[k] = c := Option.some.inj hc
      exact hg.len
    have hgood : Good l l[k] h := by
      obtain ⟨c, _, hc, _, hg⟩ := hh
      rw [Int.toNat_natCast, List.getElem?_eq_getElem hk] at hc
      obtain rfl : l[k] = c := Option.some.inj hc
      exact hg
    have hal : aLen Tryd.prog 40 hv = some (.int .i64 (l[k].ins.length : Nat)) := by rw [hown.alen ysl40.under, intsC_len, hlen]
    have hmk := mk139 l[k].ins.length (by omega)
    obtain ⟨pv, nv, cv, rfl⟩ := hown.shape
    obtain ⟨ps, ns, cs, rfl⟩ : ∃ p n c, s' = .slice p n c := by
      rcases fi.1.is with ⟨_, e⟩ | ⟨a, c, e, _⟩
      · have := hs.1.some_
        have h2 := congrArg List.length e
        rw [List.length_map, List.length_nil] at h2
        omega
      · exact ⟨_, _, _, e⟩
    have f2r : ldOne (.ptr (some (b', o'))) (H2.res 2) = some (.slice ps ns cs) := f2
    have hbH : H2.m H.next = some ⟨[.slice none 0 (.kn 0), .slice none 0 (.kn 0), .slice none 0 (.kn 0)], 141, true⟩ := by rw [x2.low _ (Nat.lt_succ_self _)]; simp
    have xr : Ext H2.next H2 (H2.res 2) := Ext.res (Ext.refl x2.wf) 2
    have xg : ∀ B1 B2, Ext H2.next H2 (((H2.res 2).put H2.next B1).put (H2.next + 1) B2) := fun B1 B2 => (xr.put (Nat.le_refl _) (by simp) B1).put (by omega) (by simp) B2
    have hmap : List.replicate l[k].ins.length (AV.bool false) = (List.replicate l[k].ins.length false).map AV.bool := by rw [List.map_replicate]
    simp -implicitDefEqProofs only [go_sem, Nat.reduceAdd, Nat.reduceMul, Nat.reduceLT, Nat.reduceLeDiff, Nat.reduceEqDiff, Nat.reduceBEq, reduceCtorEq, Int.reduceLT, Int.reduceLE, Int.reduceEq, Int.reduceGT, Int.reduceGE, Int.reduceToNat, Int.reduceNeg, h29, f1, f2r, hal, hmk, put_put]
    refine Ret.then (of_loop (d + 4) x2.wf (q := H.next) fi.1 (Own.intsRow hown) hlen P ⟨?_, ?_, ?_, ?_, xg _ _, by simp, ?_, List.replicate l[k].ins.length false, ?_, by simp, fun t => ?_⟩) ?_
    · simp -implicitDefEqProofs only [go_sem, Nat.reduceEqDiff, Nat.reduceBEq, reduceCtorEq]
    · simp -implicitDefEqProofs only [go_sem, Nat.reduceEqDiff, Nat.reduceBEq, reduceCtorEq]
    · simp -implicitDefEqProofs only [go_sem, Nat.reduceEqDiff, Nat.reduceBEq, reduceCtorEq]
    · simp -implicitDefEqProofs only [go_sem, Nat.reduceEqDiff, Nat.reduceBEq, reduceCtorEq]
      rfl
    · simp
    · rw [← hmap]
      simp
    · rw [bAt_rep]
      constructor
      · intro h; cases h
      · rintro ⟨a, ha, _⟩
        omega
    · rintro ⟨e, T, H3⟩ ⟨rfl, t4, t6, t8, t9, hx, hlt, hvb, Tg, htb, hTl, htg⟩
      simp only at t4 t6 t8 t9 hx hlt hvb htb
      have hb3 : H3.m H.next = some ⟨[.slice none 0 (.kn 0), .slice none 0 (.kn 0), .slice none 0 (.kn 0)], 141, true⟩ := by rw [hx.low _ hlt2]; exact hbH
      have x13 : Ext H.next H H3 := x12.trans hx x12.next
      have xF := fun B => x13.put (b := H.next) (Nat.le_refl _) (by omega) B
      have V3 : Vw H3 (.slice ps ns cs) (.slice pv nv cv) (.slice (some (H2.next, 0)) l[k].ins.length (.kn l[k].ins.length)) l[k].ins h Tg :=
        ⟨fi.1.mono (hx.sub x2.wf), (Own.intsRow hown).mono (hx.sub x2.wf), boolRow_of htb hTl, hlen, hTl⟩
      simp -implicitDefEqProofs only [go_sem, Nat.reduceAdd, Nat.reduceMul, Nat.reduceLT, Nat.reduceLeDiff, Nat.reduceEqDiff, Nat.reduceBEq, reduceCtorEq, Int.reduceLT, Int.reduceLE, Int.reduceEq, Int.reduceGT, Int.reduceGE, Int.reduceToNat, Int.reduceNeg, t4, t8, hvb, hb3]
      refine .mk ⟨xF _, b', o', .slice ps ns cs, .slice pv nv cv, _, h, Tg, fun _ => rfl, g5, rfl, ?_, hAt_reach hgood, htg.all hgood⟩
      refine ⟨gi.1.mono ((xF _).sub hw), Own.intsRow (hown.mono fun b n c hbn => ?_), boolRow_of (b := H2.next) (e := 4) (w := true) ?_ hTl, hlen, hTl⟩
      · rcases hown with ⟨e, _⟩ | ⟨b2, n2, c2, B2, e, _, _, hB, _, _, _, _, hN⟩
        · rw [hbn] at e; cases e
        · rw [hbn] at e
          cases e
          have hbl := x2.wf _ _ hB
          simp only [new_next] at hN
          simp only [put_m]
          rw [if_neg (by omega), hx.low _ hbl]
      · simp only [put_m]
        rw [if_neg (by omega)]
        exact htb
  · obtain ⟨o, h, g⟩ := hs
    exact absurd ⟨h, l[k], by omega, by rw [Int.toNat_natCast]; exact List.getElem?_eq_getElem hk, o, g⟩ hno
end Go.Proofs.YthiflgncldmkjaaDoor
set_option linter.unusedVariables false
set_option linter.unusedSimpArgs false
set_option maxRecDepth 100000
namespace Go.Proofs.YthiflgncldmkjaaDoor
open Go.Ri
attribute [local congr] bind_lazy jn_lazy

theorem Row.to_cut {H : AH} {s : AV} {k : Nat} {l : List (List AV)} (h : Row H s k l) (hc : ∃ p n c, s = .slice (some p) n c ∧ (c = .op k ∨ ∃ m, c = .kn m ∧ n ≤ m)) {a : Nat} (ha : a ≤ l.length) :
    ∃ v, slSl s k none (some (.int .i64 (a : Nat))) none = some v ∧ Row H v k (l.take a) := by
  obtain ⟨p, m, c, rfl, hcap⟩ := hc
  have hlen : ∀ x ∈ l.take a, x.length = k := fun x hx => h.len x (List.mem_of_mem_take hx)
  have hll : (l.take a).length = a := by simp; omega
  rcases h.is with ⟨e, _⟩ | ⟨q, c', e, hr⟩
  · cases e
  · cases e
    have hca : a ≤ c.known.getD l.length := by
      rcases hcap with rfl | ⟨m, rfl, hm⟩
      · exact ha
      · exact Nat.le_trans ha hm
    have hb : bnds l.length c.known none (some (.int .i64 (a : Nat))) none = some (0, a, c.known) := by
      unfold bnds
      simp only
      rw [bnd_nat .i64 hca]
      rfl
    rw [slSl_ptr _ _ _ _ _ _ _ (by rcases hcap with rfl | ⟨m, rfl, _⟩; exact .inl rfl; exact .inr rfl), hb]
    obtain ⟨b, o⟩ := p
    simp only [Option.bind_some, Option.some.injEq]
    refine ⟨_, rfl, ?_⟩
    have ec : cutAt (b, o) k 0 a c.known = .slice (some (b, o)) a (capOf c.known k) := by unfold cutAt; rw [if_pos rfl]
    rw [ec]
    refine ⟨hlen, .inr ⟨_, _, by rw [hll], ?_⟩⟩
    rcases hr with rfl | ⟨b', o', B, e, hB, hle, hat⟩
    · exact .inl (by simp)
    · cases e
      have hak : a * k ≤ l.length * k := Nat.mul_le_mul_right _ ha
      refine .inr ⟨b, o, B, rfl, hB, by rw [hll]; omega, fun i hi => ?_⟩
      have := hat i (by rw [hll] at hi; omega)
      rw [this]
      simp
structure IWr (H3 : AH) (v pv : AV) (A : List Ins) (q4 q8 p n m : Nat) (i : Nat) (t : St) : Prop where
  t4 : t.1 4 = .ptr (some (q4, 0))
  t8 : t.1 8 = .ptr (some (q8, 0))
  t9 : t.1 9 = .int .i64 (p : Nat)
  t11 : t.1 11 = .int .i64 (n : Nat)
  t12 : t.1 12 = pv
  t13 : t.1 13 = v
  t15 : t.1 15 = .int .i64 (i : Nat)
  ext : Ext H3.next H3 t.2
  own : Own H3.next 3 29 t.2 (t.1 14) (insF ((A.take i).map (mvI p n m)))
theorem mv_loop (d : Nat) {H3 : AH} (hw : H3.wf) {v pv : AV} {A : List Ins} {q4 q8 p n m : Nat} (hrow : Row H3 v 3 (A.map insC)) (hpv : aLen Tryd.prog 22 pv = some (.int .i64 (m : Nat))) (hA : A.length ≤ 70000) (hp : p + n ≤ 70000) (hm : m ≤ 70000)
    (hj : ∀ i ∈ A, isJ i → -70000 ≤ i.n ∧ i.n ≤ 200000) {T : Tm} {H1 : AH} (h0 : IWr H3 v pv A q4 q8 p n m 0 (T, H1)) :
    Ret (Ri.iter big (F74_L1 (RT (d + 1)) (Ri.iter big)) (T, H1)) fun r => r.1 = .exit 2 ∧ IWr H3 v pv A q4 q8 p n m A.length r.2 := by
  have hal : aLen Tryd.prog 22 v = some (.int .i64 (A.length : Nat)) := by rw [hrow.alen ysl22.under, List.length_map]
  refine Ret.upTo (n := A.length) (IWr H3 v pv A q4 q8 p n m) (by unfold big; omega) h0 ?_ ?_
  · rintro i ⟨T1, H2⟩ hi ⟨t4, t8, t9, t11, t12, t13, t15, hx, hown⟩
    simp only at t4 t8 t9 t11 t12 t13 t15 hx hown
    have hcmp : decide (((i : Nat) : Int) < ((A.length : Nat) : Int)) = true := decide_eq_true (by omega)
    obtain ⟨b1, o1, e1, f1, _⟩ := (hrow.mono (hx.sub hw)).at (i := i) (by simpa using hi)
    simp only [List.getElem_map] at f1
    obtain ⟨p1, hp1⟩ : ∃ q, q = (b1, o1) := ⟨_, rfl⟩
    rw [← hp1] at e1 f1
    have hin : insC A[i] = [.int .i64 A[i].op, .int .i64 A[i].n, .int .i64 A[i].m] := rfl
    rw [hin] at f1
    have hwi := wrapS (i := i) (by omega)
    have hto : ∀ x : Ins, mvI p n m A[i] = x → insF ((A.take i).map (mvI p n m)) ++ insC x = insF ((A.take (i + 1)).map (mvI p n m)) := by
      rintro x rfl
      rw [List.take_succ_eq_append_getElem hi, List.map_append, insF_append]
      simp [insF]
    have hlim : ((insF ((A.take i).map (mvI p n m))).length + 3) * 24 ≤ 140737488355328 * 3 := by
      rw [insF_len]
      simp only [List.length_map, List.length_take]
      omega
    -- one more
    have more : ∀ (x : Ins), mvI p n m A[i] = x → Ret (aAppend Tryd.prog 22 22 (T1 14) (.slice (some (H2.next + 1, 0)) 1 (.kn 1)) ((H2.new [.int .i64 x.op, .int .i64 x.n, .int .i64 x.m] 29).new [.int .i64 x.op, .int .i64 x.n, .int .i64 x.m] 29))
        fun r => Own H3.next 3 29 r.2 r.1 (insF ((A.take (i + 1)).map (mvI p n m))) ∧ Ext H3.next H3 r.2 := fun x hx' => by
      have hx2 : Ext H3.next H3 (H2.new [.int .i64 x.op, .int .i64 x.n, .int .i64 x.m] 29) := hx.new _ _
      refine (app_el (ds := insC x) ysl22 (hown.new hx.wf _ _) hx2 rfl hlim).mono ?_
      rintro ⟨v', H'⟩ ⟨k1, k2, _⟩
      simp only at k1 k2
      rw [hto x hx'] at k1
      exact ⟨k1, k2⟩
    unfold F74_L1
    by_cases hji : isJ A[i]
    · obtain ⟨ha, hb⟩ := hj A[i] (List.getElem_mem _) hji
      have h100 := moved_spec d ⟨ha, hb⟩ hp hm (H2.new [.int .i64 A[i].op, .int .i64 A[i].n, .int .i64 A[i].m] 29)
      have hmv : mvI p n m A[i] = ⟨A[i].op, mvP p n m A[i].n, A[i].m⟩ := by unfold mvI; rw [if_pos hji]
      have fin := more _ hmv
      rcases hji with h17 | h18
      · simp -implicitDefEqProofs only [go_sem, Nat.reduceAdd, Nat.reduceMul, Nat.reduceLT, Nat.reduceLeDiff, Nat.reduceEqDiff, Nat.reduceBEq, reduceCtorEq, Int.reduceLT, Int.reduceLE, Int.reduceEq, Int.reduceGT, Int.reduceGE, Int.reduceToNat, Int.reduceNeg, t9, t11, t12, t13, t15, hal, hpv, hcmp, e1, f1, new_put, decide_eq_true h17, h100, F74_J0, bs22i]
        refine ret_bind (fin.mono ?_)
        rintro ⟨v', H'⟩ ⟨k1, k2⟩
        simp only at k1 k2
        simp -implicitDefEqProofs only [go_sem, Nat.reduceAdd, Nat.reduceMul, Nat.reduceLT, Nat.reduceLeDiff, Nat.reduceEqDiff, Nat.reduceBEq, reduceCtorEq, Int.reduceLT, Int.reduceLE, Int.reduceEq, Int.reduceGT, Int.reduceGE, Int.reduceToNat, Int.reduceNeg, t15, hwi]
        refine .mk (.inl ⟨rfl, ?_, ?_, ?_, ?_, ?_, ?_, ?_, k2, ?_⟩)
        · simp -implicitDefEqProofs only [go_sem, Nat.reduceEqDiff, Nat.reduceBEq, reduceCtorEq, t4]
        · simp -implicitDefEqProofs only [go_sem, Nat.reduceEqDiff, Nat.reduceBEq, reduceCtorEq, t8]
        · simp -implicitDefEqProofs only [go_sem, Nat.reduceEqDiff, Nat.reduceBEq, reduceCtorEq, t9]
        · simp -implicitDefEqProofs only [go_sem, Nat.reduceEqDiff, Nat.reduceBEq, reduceCtorEq, t11]
        · simp -implicitDefEqProofs only [go_sem, Nat.reduceEqDiff, Nat.reduceBEq, reduceCtorEq, t12]
        · simp -implicitDefEqProofs only [go_sem, Nat.reduceEqDiff, Nat.reduceBEq, reduceCtorEq, t13]
        · simp -implicitDefEqProofs only [go_sem, Nat.reduceEqDiff, Nat.reduceBEq, reduceCtorEq]
        · simp -implicitDefEqProofs only [go_sem, Nat.reduceEqDiff, Nat.reduceBEq, reduceCtorEq]
          exact k1
      · have h17 : ¬ A[i].op = 17 := by omega
        simp -implicitDefEqProofs only [go_sem, Nat.reduceAdd, Nat.reduceMul, Nat.reduceLT, Nat.reduceLeDiff, Nat.reduceEqDiff, Nat.reduceBEq, reduceCtorEq, Int.reduceLT, Int.reduceLE, Int.reduceEq, Int.reduceGT, Int.reduceGE, Int.reduceToNat, Int.reduceNeg, t9, t11, t12, t13, t15, hal, hpv, hcmp, e1, f1, new_put, decide_eq_false h17, decide_eq_true h18, h100, F74_J0, bs22i]
        refine ret_bind (fin.mono ?_)
        rintro ⟨v', H'⟩ ⟨k1, k2⟩
        simp only at k1 k2
        simp -implicitDefEqProofs only [go_sem, Nat.reduceAdd, Nat.reduceMul, Nat.reduceLT, Nat.reduceLeDiff, Nat.reduceEqDiff, Nat.reduceBEq, reduceCtorEq, Int.reduceLT, Int.reduceLE, Int.reduceEq, Int.reduceGT, Int.reduceGE, Int.reduceToNat, Int.reduceNeg, t15, hwi]
        refine .mk (.inl ⟨rfl, ?_, ?_, ?_, ?_, ?_, ?_, ?_, k2, ?_⟩)
        · simp -implicitDefEqProofs only [go_sem, Nat.reduceEqDiff, Nat.reduceBEq, reduceCtorEq, t4]
        · simp -implicitDefEqProofs only [go_sem, Nat.reduceEqDiff, Nat.reduceBEq, reduceCtorEq, t8]
        · simp -implicitDefEqProofs only [go_sem, Nat.reduceEqDiff, Nat.reduceBEq, reduceCtorEq, t9]
        · simp -implicitDefEqProofs only [go_sem, Nat.reduceEqDiff, Nat.reduceBEq, reduceCtorEq, t11]
        · simp -implicitDefEqProofs only [go_sem, Nat.reduceEqDiff, Nat.reduceBEq, reduceCtorEq, t12]
        · simp -implicitDefEqProofs only [go_sem, Nat.reduceEqDiff, Nat.reduceBEq, reduceCtorEq, t13]
        · simp -implicitDefEqProofs only [go_sem, Nat.reduceEqDiff, Nat.reduceBEq, reduceCtorEq]
        · simp -implicitDefEqProofs only [go_sem, Nat.reduceEqDiff, Nat.reduceBEq, reduceCtorEq]
          exact k1
    · have h17 : ¬ A[i].op = 17 := fun h => hji (.inl h)
      have h18 : ¬ A[i].op = 18 := fun h => hji (.inr h)
      have hmv : mvI p n m A[i] = A[i] := by unfold mvI; rw [if_neg hji]
      have fin := more _ hmv
      simp -implicitDefEqProofs only [go_sem, Nat.reduceAdd, Nat.reduceMul, Nat.reduceLT, Nat.reduceLeDiff, Nat.reduceEqDiff, Nat.reduceBEq, reduceCtorEq, Int.reduceLT, Int.reduceLE, Int.reduceEq, Int.reduceGT, Int.reduceGE, Int.reduceToNat, Int.reduceNeg, t9, t11, t12, t13, t15, hal, hpv, hcmp, e1, f1, new_put, decide_eq_false h17, decide_eq_false h18, F74_J0, bs22i]
      refine ret_bind (fin.mono ?_)
      rintro ⟨v', H'⟩ ⟨k1, k2⟩
      simp only at k1 k2
      simp -implicitDefEqProofs only [go_sem, Nat.reduceAdd, Nat.reduceMul, Nat.reduceLT, Nat.reduceLeDiff, Nat.reduceEqDiff, Nat.reduceBEq, reduceCtorEq, Int.reduceLT, Int.reduceLE, Int.reduceEq, Int.reduceGT, Int.reduceGE, Int.reduceToNat, Int.reduceNeg, t15, hwi]
      refine .mk (.inl ⟨rfl, ?_, ?_, ?_, ?_, ?_, ?_, ?_, k2, ?_⟩)
      · simp -implicitDefEqProofs only [go_sem, Nat.reduceEqDiff, Nat.reduceBEq, reduceCtorEq, t4]
      · simp -implicitDefEqProofs only [go_sem, Nat.reduceEqDiff, Nat.reduceBEq, reduceCtorEq, t8]
      · simp -implicitDefEqProofs only [go_sem, Nat.reduceEqDiff, Nat.reduceBEq, reduceCtorEq, t9]
      · simp -implicitDefEqProofs only [go_sem, Nat.reduceEqDiff, Nat.reduceBEq, reduceCtorEq, t11]
      · simp -implicitDefEqProofs only [go_sem, Nat.reduceEqDiff, Nat.reduceBEq, reduceCtorEq, t12]
      · simp -implicitDefEqProofs only [go_sem, Nat.reduceEqDiff, Nat.reduceBEq, reduceCtorEq, t13]
      · simp -implicitDefEqProofs only [go_sem, Nat.reduceEqDiff, Nat.reduceBEq, reduceCtorEq]
      · simp -implicitDefEqProofs only [go_sem, Nat.reduceEqDiff, Nat.reduceBEq, reduceCtorEq]
        exact k1
  · rintro ⟨T1, H2⟩ ⟨t4, t8, t9, t11, t12, t13, t15, hx, hown⟩
    simp only at t4 t8 t9 t11 t12 t13 t15 hx hown
    have hcmp : decide (((A.length : Nat) : Int) < ((A.length : Nat) : Int)) = false := decide_eq_false (by omega)
    unfold F74_L1
    simp -implicitDefEqProofs only [go_sem, Nat.reduceAdd, Nat.reduceMul, Nat.reduceLT, Nat.reduceLeDiff, Nat.reduceEqDiff, Nat.reduceBEq, reduceCtorEq, Int.reduceLT, Int.reduceLE, Int.reduceEq, Int.reduceGT, Int.reduceGE, Int.reduceToNat, Int.reduceNeg, t13, t15, hal, hcmp]
    refine .mk ⟨by simp, rfl, ?_, ?_, ?_, ?_, ?_, ?_, ?_, hx, ?_⟩
    · simp -implicitDefEqProofs only [go_sem, Nat.reduceEqDiff, Nat.reduceBEq, reduceCtorEq, t4]
    · simp -implicitDefEqProofs only [go_sem, Nat.reduceEqDiff, Nat.reduceBEq, reduceCtorEq, t8]
    · simp -implicitDefEqProofs only [go_sem, Nat.reduceEqDiff, Nat.reduceBEq, reduceCtorEq, t9]
    · simp -implicitDefEqProofs only [go_sem, Nat.reduceEqDiff, Nat.reduceBEq, reduceCtorEq, t11]
    · simp -implicitDefEqProofs only [go_sem, Nat.reduceEqDiff, Nat.reduceBEq, reduceCtorEq, t12]
    · simp -implicitDefEqProofs only [go_sem, Nat.reduceEqDiff, Nat.reduceBEq, reduceCtorEq, t13]
    · simp -implicitDefEqProofs only [go_sem, Nat.reduceEqDiff, Nat.reduceBEq, reduceCtorEq, t15]
    · simp -implicitDefEqProofs only [go_sem, Nat.reduceEqDiff, Nat.reduceBEq, reduceCtorEq]
      exact hown
end Go.Proofs.YthiflgncldmkjaaDoor
