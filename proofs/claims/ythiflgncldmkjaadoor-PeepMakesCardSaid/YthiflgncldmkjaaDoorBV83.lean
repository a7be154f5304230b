/- Part 3 of the proof that: Any codes are made short, or refused, as the document says (PeepMakes): for every input the law returns true, and the input reads as it did. Condition: the two tables of package code start as the program's text lays them (the row's own). -/
import Derived.Test.YthiflgncldmkjaaDoorBV82
set_option linter.unusedVariables false
set_option linter.unusedSimpArgs false
set_option maxRecDepth 100000
namespace Go.Proofs.YthiflgncldmkjaaDoor
open Go.Ri

section
variable {Hb : AH} {ls s : AV} {l : List Code} {c : Code}
theorem okAt_range {i : Ins} {x : Int} (hm : mayI l c i = true) (ho : okAt l i x) : 0 ≤ x - tk l i ∧ x - tk l i ≤ 4096 ∧ 0 ≤ x - tk l i + lv l i ∧ x - tk l i + lv l i ≤ 4098 := by
  have h1 := tk_nonneg hm
  have h2 := lv_nonneg l i
  have h3 := lv_le l i
  obtain ⟨a, b, _⟩ := ho
  omega
theorem wrapR {x : Int} (h : -1000000 ≤ x ∧ x ≤ 1000000) : IntKind.i64.wrap x = x := wrap_id (by unfold InI; omega)

def E1 (Hb : AH) (ls s : AV) (l : List Code) (c : Code) (i : Ins) (a : Nat) (x : Int) (N1 N2 : Nat) (sv hs : AV) (bud : Nat) (r : Ex × St) : Prop :=
  (r.1 = .exit 4 ∧ I1 Hb ls s l c i a x N1 N2 sv hs bud (nextI i a).length r.2) ∨ (r.1 = .ret ∧ r.2.1 2 = .bool false ∧ Ext Hb.next Hb r.2.2 ∧ ¬ ∃ g, Good l c g)
theorem loop1 (d : Nat) (B : Base Hb ls s l c) {i : Ins} (hm : mayI l c i = true) {a : Nat} (hi : c.ins[a]? = some i) {x : Int} (h0x : 0 ≤ x) (ho : okAt l i x) {N1 N2 : Nat} {sv hs : AV} {bud : Nat}
    (hlen : c.ins.length ≤ 65536) (hbud : bud ≤ 200000) (hk1 : Hb.next < N1) (hsv : ∀ b, AtR sv b → N1 ≤ b ∧ b < N2) (hhs : ∀ b, At hs b → b < N1) {T : Tm} {H : AH} (h0 : I1 Hb ls s l c i a x N1 N2 sv hs bud 0 (T, H)) :
    Ret (Ri.iter big (F95_L1 (RT d) (Ri.iter big)) (T, H)) (E1 Hb ls s l c i a x N1 N2 sv hs bud) := by
  have hnl : (nextI i a).length ≤ 2 := by
    unfold nextI
    split
    · simp
    · split
      · simp
      · split <;> simp
  have hrg := okAt_range hm ho
  refine Ret.upTo (n := (nextI i a).length) (I1 Hb ls s l c i a x N1 N2 sv hs bud) (by unfold big; omega) h0 ?_ ?_
  · rintro j ⟨T1, H1⟩ hj ⟨t0, t6, t7, t8, t98, t99, t100, row, far, h, w, hck, hown, hwait, hdis, W, hax, hbd, hdone⟩
    simp only at t0 t6 t7 t8 t98 t99 t100 row far hck hown hwait hdis
    obtain ⟨pb, po, e1, _, e3⟩ := row.at (i := j) (by simpa using hj)
    have e3 := e3 0 (by omega)
    simp only [List.getElem_map, List.getElem?_cons_zero, Nat.add_zero] at e3
    have hpm : (nextI i a)[j] ∈ nextI i a := List.getElem_mem hj
    have hp0 := next_nat hm hpm
    obtain ⟨q, hq⟩ : ∃ q : Nat, (nextI i a)[j] = q := ⟨_, (Int.toNat_of_nonneg hp0).symm⟩
    have hjq : (nextI i a)[j]? = some ((q : Nat) : Int) := by rw [List.getElem?_eq_getElem hj, hq]
    rw [hq] at e3 hpm
    have hcmp : decide (((j : Nat) : Int) < (((nextI i a).length : Nat) : Int)) = true := decide_eq_true (by omega)
    have hal : aLen Tryd.prog 40 hs = some (.int .i64 (h.length : Nat)) := by rw [hown.alen ysl40.under, intsC_len]
    have hwl : w.length ≤ 200000 := by omega
    unfold F95_L1
    by_cases hge : ((q : Nat) : Int) ≥ ((h.length : Nat) : Int)
    · simp -implicitDefEqProofs only [go_sem, Nat.reduceAdd, Nat.reduceMul, Nat.reduceLT, Nat.reduceLeDiff, Nat.reduceEqDiff, Nat.reduceBEq, reduceCtorEq, Int.reduceLT, Int.reduceLE, Int.reduceEq, Int.reduceGT, Int.reduceGE, Int.reduceToNat, Int.reduceNeg, t0, t98, t99, t100, hcmp, e1, e3, hck.blk, hal, decide_eq_true hge]
      refine .mk (.inr ⟨by simp, .inr ⟨rfl, ?_, hck.ext, ?_⟩⟩)
      · simp -implicitDefEqProofs only [go_sem, Nat.reduceEqDiff, Nat.reduceBEq, reduceCtorEq]
      · refine W.none hi hax h0x (.inr ⟨_, hpm, fun q' e => ⟨0, .inr ?_⟩⟩)
        have := Int.ofNat_inj.1 e
        omega
    · have hql : q < h.length := by omega
      obtain ⟨bh, Bh, ha, hNb, hbn, hBm, hrw, hil, hget, hidx, hset⟩ := hown.cell hck.ext.wf (i := q) (by rw [intsC_len]; exact hql)
      rw [intsC_get, List.getElem?_eq_getElem hql] at hget
      simp only [Option.map_some] at hget
      have hgq : h[q]? = some h[q] := List.getElem?_eq_getElem hql
      have hpos : h[q] = -1 ∨ 0 ≤ h[q] := (W.known q _ hgq).imp id fun h => h.1
      by_cases hneg : h[q] < 0
      · have hq1 : h[q] = -1 := by omega
        rw [hq1] at hgq
        simp -implicitDefEqProofs only [go_sem, Nat.reduceAdd, Nat.reduceMul, Nat.reduceLT, Nat.reduceLeDiff, Nat.reduceEqDiff, Nat.reduceBEq, reduceCtorEq, Int.reduceLT, Int.reduceLE, Int.reduceEq, Int.reduceGT, Int.reduceGE, Int.reduceToNat, Int.reduceNeg, t0, t98, t99, t100, hcmp, e1, e3, hck.blk, hal, decide_eq_false hge, hidx, hBm, hget, decide_eq_true hneg, t6, t7, t8, wrapR (x := x - tk l i) (by omega), wrapR (x := x - tk l i + lv l i) (by omega), hrw, hil]
        -- the store
        have hcells : Bh.cells[q]? = some (.int .i64 h[q]) := hget
        have hown2 := hset (.int .i64 (x - tk l i + lv l i))
        rw [intsC_set] at hown2
        have hbk : Hb.next ≠ bh := by omega
        have hx2 : Ext Hb.next Hb (H1.put bh ⟨Bh.cells.set q (.int .i64 (x - tk l i + lv l i)), Bh.elem, Bh.rw_⟩) := hck.ext.put (by omega) hbn _
        have hnw : ¬ At (T1 3) bh := fun hh => (hdis bh hh).2 ha
        have hwait2 := hwait.put hnw ⟨Bh.cells.set q (.int .i64 (x - tk l i + lv l i)), Bh.elem, Bh.rw_⟩
        rw [hrw] at hown2 hx2 hwait2
        obtain ⟨⟨wv, H2⟩, hap, g1, g2, g3, g4, g5⟩ := OwnI.more (x := ((q : Nat) : Int)) hwait2 (Ext.self hx2.wf (Nat.le_trans hck.lt (Nat.le_refl _))) (by simp; omega)
        simp only at g1 g2 g3 g4 g5
        simp only [put_next] at hap
        have hb2 : H2.m Hb.next = some ⟨[ls, s, .int .i64 c.cells, .int .i64 c.params, .bool c.answers, hs], 100, true⟩ := by
          rw [g2.low _ (Nat.lt_succ_self _)]
          simp only [put_m, if_neg hbk]
          exact hck.blk
        have hx3 : Ext Hb.next Hb H2 := hx2.trans (g2.less (Nat.le_succ _)) (Nat.le_refl _)
        have hhs2 : OwnI (Hb.next + 1) H2 hs (h.set q (x - tk l i + lv l i)) := hown2.to fun b hb => g4 b (by rw [hb.one ha]; exact hbn) fun hh => (hdis b hh).2 hb
        have hW2 := W.put hi hax h0x ho hpm hgq
        have hng := negs_set hgq hrg.2.2.1
        have haq : a ≠ q := by
          rintro rfl
          rw [hax] at hgq
          cases hgq
          omega
        simp -implicitDefEqProofs only [go_sem, Nat.reduceAdd, Nat.reduceMul, Nat.reduceLT, Nat.reduceLeDiff, Nat.reduceEqDiff, Nat.reduceBEq, reduceCtorEq, Int.reduceLT, Int.reduceLE, Int.reduceEq, Int.reduceGT, Int.reduceGE, Int.reduceToNat, Int.reduceNeg, hap, F95_J0, t100, wrapS (i := j) (by omega)]
        refine .mk (.inl ⟨rfl, ⟨?_, ?_, ?_, ?_, ?_, ?_, ?_, ?_, ?_, h.set q (x - tk l i + lv l i), w ++ [q], ⟨hx3, hb2⟩, hhs2, ?_, ?_, hW2, ?_, ?_, ?_⟩⟩)
        · simp -implicitDefEqProofs only [go_sem, Nat.reduceEqDiff, Nat.reduceBEq, reduceCtorEq, t0]
        · simp -implicitDefEqProofs only [go_sem, Nat.reduceEqDiff, Nat.reduceBEq, reduceCtorEq, t6]
        · simp -implicitDefEqProofs only [go_sem, Nat.reduceEqDiff, Nat.reduceBEq, reduceCtorEq, t7]
        · simp -implicitDefEqProofs only [go_sem, Nat.reduceEqDiff, Nat.reduceBEq, reduceCtorEq, t8]
        · simp -implicitDefEqProofs only [go_sem, Nat.reduceEqDiff, Nat.reduceBEq, reduceCtorEq, t98]
        · simp -implicitDefEqProofs only [go_sem, Nat.reduceEqDiff, Nat.reduceBEq, reduceCtorEq, t99]
        · simp -implicitDefEqProofs only [go_sem, Nat.reduceEqDiff, Nat.reduceBEq, reduceCtorEq]
        · refine row.keep fun b hb => ?_
          obtain ⟨k1, k2⟩ := hsv b hb
          have hbb : b ≠ bh := by have := hhs bh ha; omega
          rw [g4 b (by simp only [put_next]; omega) fun hh => by have := (hdis b hh).1; omega]
          simp [hbb]
        · simp only [put_next] at g3
          exact Nat.le_trans far (Nat.le_of_lt g3)
        · simp -implicitDefEqProofs only [go_sem, Nat.reduceEqDiff, Nat.reduceBEq, reduceCtorEq]
          simpa using g1
        · simp -implicitDefEqProofs only [go_sem, Nat.reduceEqDiff, Nat.reduceBEq, reduceCtorEq]
          intro b hb
          rcases g5 b hb with hh | hh
          · exact hdis b hh
          · simp only [put_next] at hh
            refine ⟨.inr (by omega), fun hh' => ?_⟩
            have := hh'.one ha
            omega
        · rw [List.getElem?_set_ne (Ne.symm haq)]
          exact hax
        · simp
          omega
        · intro j' hj' p hp
          by_cases hjj : j' = j
          · subst hjj
            rw [hjq] at hp
            cases hp
            exact ⟨q, rfl, List.getElem?_set_self hql⟩
          · obtain ⟨r, e, hr⟩ := hdone j' (by omega) p hp
            refine ⟨r, e, ?_⟩
            have : q ≠ r := by
              rintro rfl
              rw [hgq] at hr
              have := Option.some.inj hr
              omega
            rw [List.getElem?_set_ne this]
            exact hr
      · have hnn : 0 ≤ h[q] := by omega
        by_cases heq : h[q] = x - tk l i + lv l i
        · simp -implicitDefEqProofs only [go_sem, Nat.reduceAdd, Nat.reduceMul, Nat.reduceLT, Nat.reduceLeDiff, Nat.reduceEqDiff, Nat.reduceBEq, reduceCtorEq, Int.reduceLT, Int.reduceLE, Int.reduceEq, Int.reduceGT, Int.reduceGE, Int.reduceToNat, Int.reduceNeg, t0, t98, t99, t100, hcmp, e1, e3, hck.blk, hal, decide_eq_false hge, hidx, hBm, hget, decide_eq_false hneg, t6, t7, t8, wrapR (x := x - tk l i) (by omega), wrapR (x := x - tk l i + lv l i) (by omega), decide_eq_true heq, F95_J0, wrapS (i := j) (by omega)]
          refine .mk (.inl ⟨rfl, ⟨?_, ?_, ?_, ?_, ?_, ?_, ?_, row, far, h, w, hck, hown, ?_, ?_, W, hax, hbd, ?_⟩⟩)
          · simp -implicitDefEqProofs only [go_sem, Nat.reduceEqDiff, Nat.reduceBEq, reduceCtorEq, t0]
          · simp -implicitDefEqProofs only [go_sem, Nat.reduceEqDiff, Nat.reduceBEq, reduceCtorEq, t6]
          · simp -implicitDefEqProofs only [go_sem, Nat.reduceEqDiff, Nat.reduceBEq, reduceCtorEq, t7]
          · simp -implicitDefEqProofs only [go_sem, Nat.reduceEqDiff, Nat.reduceBEq, reduceCtorEq, t8]
          · simp -implicitDefEqProofs only [go_sem, Nat.reduceEqDiff, Nat.reduceBEq, reduceCtorEq, t98]
          · simp -implicitDefEqProofs only [go_sem, Nat.reduceEqDiff, Nat.reduceBEq, reduceCtorEq, t99]
          · simp -implicitDefEqProofs only [go_sem, Nat.reduceEqDiff, Nat.reduceBEq, reduceCtorEq]
          · simp -implicitDefEqProofs only [go_sem, Nat.reduceEqDiff, Nat.reduceBEq, reduceCtorEq]
            exact hwait
          · simp -implicitDefEqProofs only [go_sem, Nat.reduceEqDiff, Nat.reduceBEq, reduceCtorEq]
            exact hdis
          · intro j' hj' p hp
            by_cases hjj : j' = j
            · subst hjj
              rw [hjq] at hp
              cases hp
              exact ⟨q, rfl, by rw [hgq, heq]⟩
            · exact hdone j' (by omega) p hp
        · simp -implicitDefEqProofs only [go_sem, Nat.reduceAdd, Nat.reduceMul, Nat.reduceLT, Nat.reduceLeDiff, Nat.reduceEqDiff, Nat.reduceBEq, reduceCtorEq, Int.reduceLT, Int.reduceLE, Int.reduceEq, Int.reduceGT, Int.reduceGE, Int.reduceToNat, Int.reduceNeg, t0, t98, t99, t100, hcmp, e1, e3, hck.blk, hal, decide_eq_false hge, hidx, hBm, hget, decide_eq_false hneg, t6, t7, t8, wrapR (x := x - tk l i) (by omega), wrapR (x := x - tk l i + lv l i) (by omega), decide_eq_false heq]
          refine .mk (.inr ⟨by simp, .inr ⟨rfl, ?_, hck.ext, ?_⟩⟩)
          · simp -implicitDefEqProofs only [go_sem, Nat.reduceEqDiff, Nat.reduceBEq, reduceCtorEq]
          · refine W.none hi hax h0x (.inr ⟨_, hpm, fun q' e => ⟨h[q], .inl ?_⟩⟩)
            have := Int.ofNat_inj.1 e
            subst this
            exact ⟨hgq, by omega, heq⟩
  · rintro ⟨T1, H1⟩ ⟨t0, t6, t7, t8, t98, t99, t100, row, far, h, w, hck, hown, hwait, hdis, W, hax, hbd, hdone⟩
    simp only at t0 t6 t7 t8 t98 t99 t100 row far hck hown hwait hdis
    have hcmp : decide ((((nextI i a).length : Nat) : Int) < (((nextI i a).length : Nat) : Int)) = false := decide_eq_false (by omega)
    unfold F95_L1
    simp -implicitDefEqProofs only [go_sem, Nat.reduceAdd, Nat.reduceMul, Nat.reduceLT, Nat.reduceLeDiff, Nat.reduceEqDiff, Nat.reduceBEq, reduceCtorEq, Int.reduceLT, Int.reduceLE, Int.reduceEq, Int.reduceGT, Int.reduceGE, Int.reduceToNat, Int.reduceNeg, t99, t100, hcmp]
    refine .mk ⟨by simp, .inl ⟨rfl, ⟨?_, ?_, ?_, ?_, ?_, ?_, ?_, row, far, h, w, hck, hown, ?_, ?_, W, hax, hbd, hdone⟩⟩⟩
    · simp -implicitDefEqProofs only [go_sem, Nat.reduceEqDiff, Nat.reduceBEq, reduceCtorEq, t0]
    · simp -implicitDefEqProofs only [go_sem, Nat.reduceEqDiff, Nat.reduceBEq, reduceCtorEq, t6]
    · simp -implicitDefEqProofs only [go_sem, Nat.reduceEqDiff, Nat.reduceBEq, reduceCtorEq, t7]
    · simp -implicitDefEqProofs only [go_sem, Nat.reduceEqDiff, Nat.reduceBEq, reduceCtorEq, t8]
    · simp -implicitDefEqProofs only [go_sem, Nat.reduceEqDiff, Nat.reduceBEq, reduceCtorEq, t98]
    · simp -implicitDefEqProofs only [go_sem, Nat.reduceEqDiff, Nat.reduceBEq, reduceCtorEq, t99]
    · simp -implicitDefEqProofs only [go_sem, Nat.reduceEqDiff, Nat.reduceBEq, reduceCtorEq, t100]
    · simp -implicitDefEqProofs only [go_sem, Nat.reduceEqDiff, Nat.reduceBEq, reduceCtorEq]
      exact hwait
    · simp -implicitDefEqProofs only [go_sem, Nat.reduceEqDiff, Nat.reduceBEq, reduceCtorEq]
      exact hdis

structure I2 (Hb : AH) (ls s : AV) (l : List Code) (c : Code) (f : Nat) (t : St) : Prop where
  t0 : t.1 0 = .ptr (some (Hb.next, 0))
  rest : ∃ (hs : AV) (h : List Int) (w : List Nat), Ck Hb ls s c t.2 hs ∧ OwnI (Hb.next + 1) t.2 hs h ∧ OwnI (Hb.next + 1) t.2 (t.1 3) (w.map fun n => ((n : Nat) : Int)) ∧ (∀ b, At (t.1 3) b → ¬ At hs b) ∧
    Way l c h w (fun _ => False) ∧ 2 * negs h + w.length < f ∧ f ≤ 200000
def E2 (Hb : AH) (ls s : AV) (l : List Code) (c : Code) (r : Ex × St) : Prop :=
  (r.1 = .exit 2 ∧ ∃ hs h, Ck Hb ls s c r.2.2 hs ∧ OwnI (Hb.next + 1) r.2.2 hs h ∧ Good l c h) ∨ (r.1 = .ret ∧ r.2.1 2 = .bool false ∧ Ext Hb.next Hb r.2.2 ∧ ¬ ∃ g, Good l c g)
set_option maxHeartbeats 4000000 in
theorem round2 (d : Nat) (B : Base Hb ls s l c) (hmay : ∀ i ∈ c.ins, mayI l c i = true) (hlen : c.ins.length ≤ 65536) (f : Nat) (t : St) (hI : I2 Hb ls s l c (f + 1) t) :
    Ret (F95_L2 (RT (d + 1)) (Ri.iter big) t) fun r => (r.1 = .normal ∧ I2 Hb ls s l c f r.2) ∨ (r.1 ≠ .normal ∧ E2 Hb ls s l c r) := by
  obtain ⟨T, H⟩ := t
  obtain ⟨t0, hs, h, w, hck, hown, hwait, hdis, W, hbd, hf⟩ := hI
  simp only at t0 hck hown hwait hdis
  have hwl : aLen Tryd.prog 40 (T 3) = some (.int .i64 (w.length : Nat)) := by rw [hwait.alen ysl40.under, intsC_len, List.length_map]
  unfold F95_L2
  rcases List.eq_nil_or_concat w with rfl | ⟨w', a, rfl⟩
  · simp -implicitDefEqProofs only [go_sem, Nat.reduceEqDiff, Nat.reduceBEq, reduceCtorEq, hwl]
    exact .mk (.inr ⟨by simp, .inl ⟨rfl, hs, h, hck, hown, W.good⟩⟩)
  · rw [List.concat_eq_append] at *
    have hwl' : aLen Tryd.prog 40 (T 3) = some (.int .i64 ((w'.length + 1 : Nat) : Int)) := by rw [hwl]; simp
    obtain ⟨x, hax, h0x⟩ := W.wait a (by simp)
    have halt : a < c.ins.length := by rw [← W.len]; exact (List.getElem?_eq_some_iff.1 hax).1
    obtain ⟨i, hi⟩ : ∃ i, c.ins[a]? = some i := ⟨_, List.getElem?_eq_getElem halt⟩
    have him : i ∈ c.ins := List.mem_of_getElem? hi
    have hm := hmay i him
    have hpos : decide (((w'.length + 1 : Nat) : Int) > 0) = true := decide_eq_true (by omega)
    have hsub1 : IntKind.i64.wrap (((w'.length + 1 : Nat) : Int) - 1) = ((w'.length : Nat) : Int) := by
      simp only [List.length_append, List.length_cons, List.length_nil] at hbd
      rw [wrapR (by omega)]
      omega
    obtain ⟨bw, Bw, haw, hNw, hbwn, hBwm, _, _, hgw, hidw, _⟩ := hwait.cell hck.ext.wf (i := w'.length) (by rw [intsC_len]; simp)
    have hwa : ((w' ++ [a]).map fun n => ((n : Nat) : Int))[w'.length]? = some ((a : Nat) : Int) := by simp
    rw [intsC_get, hwa] at hgw
    simp only [Option.map_some] at hgw
    obtain ⟨s', hcut, hwait', hat'⟩ := hwait.cut (n := w'.length + 1) (j := w'.length) (by rw [intsC_len]; simp) (by omega) (by omega) .i64
    have hwait2 : OwnI (Hb.next + 1) H s' (w'.map fun n => ((n : Nat) : Int)) := by
      have : (intsC ((w' ++ [a]).map fun n => ((n : Nat) : Int))).take (w'.length * 1) = intsC (w'.map fun n => ((n : Nat) : Int)) := by
        rw [Nat.mul_one, List.map_append]
        simp only [intsC, List.map_append]
        rw [List.take_append_of_le_length (by simp), List.take_of_length_le (by simp)]
      rw [this] at hwait'
      exact hwait'
    obtain ⟨bh, Bh, hah, hNh, hbhn, hBhm, hrwh, hilh, hgh, hidh, _⟩ := hown.cell hck.ext.wf (i := a) (by rw [intsC_len, W.len]; exact halt)
    rw [intsC_get, hax] at hgh
    simp only [Option.map_some] at hgh
    have hins := (hck.chk B).ins
    obtain ⟨pb, po, e1, e2, _⟩ := hins.1.at (i := a) (by simpa using halt)
    simp only [List.getElem_map] at e2
    have hig : c.ins[a] = i := by rw [List.getElem?_eq_getElem halt] at hi; exact Option.some.inj hi
    rw [hig] at e2
    have hin : insC i = [.int .i64 i.op, .int .i64 i.n, .int .i64 i.m] := rfl
    have hbh : ¬ bh = H.next := by omega
    have hkn : ¬ Hb.next = H.next := Nat.ne_of_lt hck.lt
    have e2r : ldAgg (.ptr (some (pb, po))) 3 (H.res 1) = some (.agg (insC i)) := e2
    -- the heaps
    have hx1 : Ext Hb.next Hb (H.new (insC i) 29) := hck.ext.new _ _
    have hck1 : Ck Hb ls s c (H.new (insC i) 29) hs := ⟨hx1, by simp [hkn, hck.blk]⟩
    have hmv := moves_spec d hx1.wf (hck1.tabs B) (hck1.chk B) hm
    have hx2 : Ext Hb.next Hb ((H.new (insC i) 29).new (insC i) 29) := hx1.new _ _
    have hkn2 : ¬ Hb.next = H.next + 1 := by have := hck.lt; omega
    have hck2 : Ck Hb ls s c ((H.new (insC i) 29).new (insC i) 29) hs := ⟨hx2, by simp [hkn, hkn2, hck.blk]⟩
    obtain ⟨⟨sv, H3⟩, h118, hrow3, hx3, hat3⟩ := next_spec d hx2.wf i (a := a) (by omega)
    simp only at hrow3 hx3 hat3
    have hal3 : aLen Tryd.prog 40 sv = some (.int .i64 ((nextI i a).length : Nat)) := by rw [hrow3.alen ysl40.under, List.length_map]
    have hck3 : Ck Hb ls s c H3 hs := ⟨hx2.trans hx3 (by simp only [new_next]; have := hck.lt; omega), by rw [hx3.low _ (by simp only [new_next]; have := hck.lt; omega)]; exact hck2.blk⟩
    have old : ∀ b, b < H.next → H3.m b = H.m b := fun b hb => by
      rw [hx3.low b (by simp only [new_next]; omega)]
      have h1 : ¬ b = H.next := by omega
      have h2 : ¬ b = H.next + 1 := by omega
      simp [h1, h2]
    have hlow : ∀ b, At hs b → b < H.next := fun b hb => by
      obtain ⟨B', h1, _⟩ := hown.at hb
      exact hck.ext.wf _ _ h1
    have hloww : ∀ b, At s' b → b < H.next := fun b hb => by
      obtain ⟨B', h1, _⟩ := hwait2.at hb
      exact hck.ext.wf _ _ h1
    have bad : ¬ okAt l i x → ¬ ∃ g, Good l c g := fun hb => W.none hi hax h0x (.inl hb)
    have hneg2 : 2 * negs h + w'.length < f := by
      simp only [List.length_append, List.length_cons, List.length_nil] at hbd
      omega
    have tail : okAt l i x → ∀ T' : Tm, T' 0 = .ptr (some (Hb.next, 0)) → T' 3 = s' → T' 6 = .int .i64 x → T' 7 = .int .i64 (tk l i) → T' 8 = .int .i64 (lv l i) → T' 98 = sv → T' 99 = .int .i64 ((nextI i a).length : Nat) → T' 100 = .int .i64 0 →
        Ret ((Ri.iter big (F95_L1 (RT (d + 1)) (Ri.iter big)) (T', H3)).bind fun r104 => match r104.1 with
          | .normal => none
          | .exit j105 => if j105 = 4 then
            (some (.normal, r104.2.1, r104.2.2))
            else
            (if j105 = 3 then
            (some (.normal, r104.2.1, r104.2.2))
            else
            (some (.exit j105, r104.2.1, r104.2.2)))
          | .ret => some (.ret, r104.2.1, r104.2.2)) fun r => (r.1 = .normal ∧ I2 Hb ls s l c f r.2) ∨ (r.1 ≠ .normal ∧ E2 Hb ls s l c r) := by
      intro ho T' a0 a3 a6 a7 a8 a98 a99 a100
      refine Ret.then (loop1 (d + 1) B hm hi h0x ho (N1 := H.next) (N2 := H3.next) (sv := sv) (hs := hs) (bud := 2 * negs h + w'.length) hlen (by omega) hck.lt (fun b ⟨o, n, cc, e⟩ => ?_) hlow
        ⟨a0, a6, a7, a8, a98, a99, a100, hrow3, Nat.le_refl _, h, w', hck3, hown.to fun b hb => old b (hlow b hb), ?_, fun b hb => ?_, W.take, hax, Nat.le_refl _, fun j' hj' => absurd hj' (Nat.not_lt_zero _)⟩) ?_
      · have := hat3 b o n cc e
        simp only [new_next] at this
        omega
      · simp only [a3]
        exact hwait2.to fun b hb => old b (hloww b hb)
      · simp only [a3] at hb
        exact ⟨.inl (hloww b hb), hdis b (hat' b hb)⟩
      · rintro ⟨e, T4, H4⟩ (⟨rfl, q⟩ | ⟨rfl, q1, q2, q3⟩)
        · obtain ⟨b0, _, _, _, _, _, _, _, _, h4, w4, k1, k2, k3, k4, k5, k6, k7, k8⟩ := q
          simp only at b0 k1 k2 k3 k4
          simp only [if_true]
          refine .mk (.inl ⟨rfl, b0, hs, h4, w4, k1, k2, k3, fun b hb => (k4 b hb).2, k5.close hi k6 ⟨ho, fun p hp => ?_⟩, by omega, by omega⟩)
          obtain ⟨j, hj⟩ := List.mem_iff_getElem?.1 hp
          exact k8 j (List.getElem?_eq_some_iff.1 hj).1 p hj
        · exact .mk (.inr ⟨by simp, .inr ⟨rfl, q1, q2, q3⟩⟩)
    rw [hin] at e2r hmv h118 hx2
    have done : ∀ T' : Tm, T' 2 = .bool false → ¬ okAt l i x → Ret (some (Ex.ret, T', (H.new [.int .i64 i.op, .int .i64 i.n, .int .i64 i.m] 29).new [.int .i64 i.op, .int .i64 i.n, .int .i64 i.m] 29)) fun r => (r.1 = .normal ∧ I2 Hb ls s l c f r.2) ∨ (r.1 ≠ .normal ∧ E2 Hb ls s l c r) :=
      fun T' h2 hb => .mk (.inr ⟨by simp, .inr ⟨rfl, h2, hx2, bad hb⟩⟩)
    have hn1 : ¬ H.next = H.next + 1 := by omega
    by_cases q1 : x < tk l i
    · simp -implicitDefEqProofs only [go_sem, Nat.reduceAdd, Nat.reduceMul, Nat.reduceLT, Nat.reduceLeDiff, Nat.reduceEqDiff, Nat.reduceBEq, reduceCtorEq, Int.reduceLT, Int.reduceLE, Int.reduceEq, Int.reduceGT, Int.reduceGE, Int.reduceToNat, Int.reduceNeg, t0, hwl', hpos, hsub1, hidw, hBwm, hgw, hcut, hck.blk, e1, e2r, hidh, hBhm, hgh, res_new, hbh, hkn, hmv, decide_eq_true q1]
      exact done _ (by simp -implicitDefEqProofs only [go_sem, Nat.reduceAdd, Nat.reduceMul, Nat.reduceLT, Nat.reduceLeDiff, Nat.reduceEqDiff, Nat.reduceBEq, reduceCtorEq, Int.reduceLT, Int.reduceLE, Int.reduceEq, Int.reduceGT, Int.reduceGE, Int.reduceToNat, Int.reduceNeg]) fun h => by have := h.1; omega
    by_cases q2 : x > 4096
    · simp -implicitDefEqProofs only [go_sem, Nat.reduceAdd, Nat.reduceMul, Nat.reduceLT, Nat.reduceLeDiff, Nat.reduceEqDiff, Nat.reduceBEq, reduceCtorEq, Int.reduceLT, Int.reduceLE, Int.reduceEq, Int.reduceGT, Int.reduceGE, Int.reduceToNat, Int.reduceNeg, t0, hwl', hpos, hsub1, hidw, hBwm, hgw, hcut, hck.blk, e1, e2r, hidh, hBhm, hgh, res_new, hbh, hkn, hmv, decide_eq_false q1, decide_eq_true q2]
      exact done _ (by simp -implicitDefEqProofs only [go_sem, Nat.reduceAdd, Nat.reduceMul, Nat.reduceLT, Nat.reduceLeDiff, Nat.reduceEqDiff, Nat.reduceBEq, reduceCtorEq, Int.reduceLT, Int.reduceLE, Int.reduceEq, Int.reduceGT, Int.reduceGE, Int.reduceToNat, Int.reduceNeg]) fun h => by have := h.2.1; omega
    by_cases q20 : i.op = 20
    · have q24 : ¬ i.op = 24 := by omega
      by_cases q3 : x = tk l i
      · simp -implicitDefEqProofs only [go_sem, Nat.reduceAdd, Nat.reduceMul, Nat.reduceLT, Nat.reduceLeDiff, Nat.reduceEqDiff, Nat.reduceBEq, reduceCtorEq, Int.reduceLT, Int.reduceLE, Int.reduceEq, Int.reduceGT, Int.reduceGE, Int.reduceToNat, Int.reduceNeg, t0, hwl', hpos, hsub1, hidw, hBwm, hgw, hcut, hck.blk, e1, e2r, hidh, hBhm, hgh, res_new, hbh, hkn, hmv, decide_eq_false q1, decide_eq_false q2, decide_eq_true q20, decide_eq_true q3, decide_eq_false q24, hn1, h118, hal3]
        refine tail ⟨by omega, by omega, fun _ => q3, fun h => absurd h q24⟩ _ ?_ ?_ ?_ ?_ ?_ ?_ ?_ ?_ <;> simp -implicitDefEqProofs only [go_sem, Nat.reduceAdd, Nat.reduceMul, Nat.reduceLT, Nat.reduceLeDiff, Nat.reduceEqDiff, Nat.reduceBEq, reduceCtorEq, Int.reduceLT, Int.reduceLE, Int.reduceEq, Int.reduceGT, Int.reduceGE, Int.reduceToNat, Int.reduceNeg, t0]
      · simp -implicitDefEqProofs only [go_sem, Nat.reduceAdd, Nat.reduceMul, Nat.reduceLT, Nat.reduceLeDiff, Nat.reduceEqDiff, Nat.reduceBEq, reduceCtorEq, Int.reduceLT, Int.reduceLE, Int.reduceEq, Int.reduceGT, Int.reduceGE, Int.reduceToNat, Int.reduceNeg, t0, hwl', hpos, hsub1, hidw, hBwm, hgw, hcut, hck.blk, e1, e2r, hidh, hBhm, hgh, res_new, hbh, hkn, hmv, decide_eq_false q1, decide_eq_false q2, decide_eq_true q20, decide_eq_false q3, hn1]
        exact done _ (by simp -implicitDefEqProofs only [go_sem, Nat.reduceAdd, Nat.reduceMul, Nat.reduceLT, Nat.reduceLeDiff, Nat.reduceEqDiff, Nat.reduceBEq, reduceCtorEq, Int.reduceLT, Int.reduceLE, Int.reduceEq, Int.reduceGT, Int.reduceGE, Int.reduceToNat, Int.reduceNeg]) fun h => q3 (h.2.2.1 q20)
    by_cases q24 : i.op = 24
    · by_cases q4 : x = 0
      · simp -implicitDefEqProofs only [go_sem, Nat.reduceAdd, Nat.reduceMul, Nat.reduceLT, Nat.reduceLeDiff, Nat.reduceEqDiff, Nat.reduceBEq, reduceCtorEq, Int.reduceLT, Int.reduceLE, Int.reduceEq, Int.reduceGT, Int.reduceGE, Int.reduceToNat, Int.reduceNeg, t0, hwl', hpos, hsub1, hidw, hBwm, hgw, hcut, hck.blk, e1, e2r, hidh, hBhm, hgh, res_new, hbh, hkn, hmv, decide_eq_false q1, decide_eq_false q2, decide_eq_false q20, decide_eq_true q24, decide_eq_true q4, hn1, h118, hal3]
        refine tail ⟨by omega, by omega, fun h => absurd h q20, fun _ => q4⟩ _ ?_ ?_ ?_ ?_ ?_ ?_ ?_ ?_ <;> simp -implicitDefEqProofs only [go_sem, Nat.reduceAdd, Nat.reduceMul, Nat.reduceLT, Nat.reduceLeDiff, Nat.reduceEqDiff, Nat.reduceBEq, reduceCtorEq, Int.reduceLT, Int.reduceLE, Int.reduceEq, Int.reduceGT, Int.reduceGE, Int.reduceToNat, Int.reduceNeg, t0]
      · simp -implicitDefEqProofs only [go_sem, Nat.reduceAdd, Nat.reduceMul, Nat.reduceLT, Nat.reduceLeDiff, Nat.reduceEqDiff, Nat.reduceBEq, reduceCtorEq, Int.reduceLT, Int.reduceLE, Int.reduceEq, Int.reduceGT, Int.reduceGE, Int.reduceToNat, Int.reduceNeg, t0, hwl', hpos, hsub1, hidw, hBwm, hgw, hcut, hck.blk, e1, e2r, hidh, hBhm, hgh, res_new, hbh, hkn, hmv, decide_eq_false q1, decide_eq_false q2, decide_eq_false q20, decide_eq_true q24, decide_eq_false q4, hn1]
        exact done _ (by simp -implicitDefEqProofs only [go_sem, Nat.reduceAdd, Nat.reduceMul, Nat.reduceLT, Nat.reduceLeDiff, Nat.reduceEqDiff, Nat.reduceBEq, reduceCtorEq, Int.reduceLT, Int.reduceLE, Int.reduceEq, Int.reduceGT, Int.reduceGE, Int.reduceToNat, Int.reduceNeg]) fun h => q4 (h.2.2.2 q24)
    · simp -implicitDefEqProofs only [go_sem, Nat.reduceAdd, Nat.reduceMul, Nat.reduceLT, Nat.reduceLeDiff, Nat.reduceEqDiff, Nat.reduceBEq, reduceCtorEq, Int.reduceLT, Int.reduceLE, Int.reduceEq, Int.reduceGT, Int.reduceGE, Int.reduceToNat, Int.reduceNeg, t0, hwl', hpos, hsub1, hidw, hBwm, hgw, hcut, hck.blk, e1, e2r, hidh, hBhm, hgh, res_new, hbh, hkn, hmv, decide_eq_false q1, decide_eq_false q2, decide_eq_false q20, decide_eq_false q24, hn1, h118, hal3]
      refine tail ⟨by omega, by omega, fun h => absurd h q20, fun h => absurd h q24⟩ _ ?_ ?_ ?_ ?_ ?_ ?_ ?_ ?_ <;> simp -implicitDefEqProofs only [go_sem, Nat.reduceAdd, Nat.reduceMul, Nat.reduceLT, Nat.reduceLeDiff, Nat.reduceEqDiff, Nat.reduceBEq, reduceCtorEq, Int.reduceLT, Int.reduceLE, Int.reduceEq, Int.reduceGT, Int.reduceGE, Int.reduceToNat, Int.reduceNeg, t0]
end
end Go.Proofs.YthiflgncldmkjaaDoor
set_option linter.unusedVariables false
set_option linter.unusedSimpArgs false
set_option maxRecDepth 100000
namespace Go.Proofs.YthiflgncldmkjaaDoor
open Go.Ri

section
variable {Hb : AH} {ls s : AV} {l : List Code} {c : Code}
theorem heights_spec (d : Nat) (B : Base Hb ls s l c) (hmay : ∀ i ∈ c.ins, mayI l c i = true) (h1 : 1 ≤ c.ins.length) (hlen : c.ins.length ≤ 65536) {H : AH} (hck : Ck Hb ls s c H (.slice none 0 (.kn 0))) :
    Ret (RT (d + 2) 95 [.ptr (some (Hb.next, 0))] H) fun r => Ext Hb.next Hb r.2 ∧ ((r.1 = .bool true ∧ ∃ hs h, Ck Hb ls s c r.2 hs ∧ OwnI (Hb.next + 1) r.2 hs h ∧ Good l c h) ∨ (r.1 = .bool false ∧ ¬ ∃ g, Good l c g)) := by
  rw [R95]
  unfold F95
  have hal := (hck.chk B).ins.alen
  simp -implicitDefEqProofs only [go_sem, Nat.reduceAdd, Nat.reduceMul, Nat.reduceLT, Nat.reduceLeDiff, Nat.reduceEqDiff, Nat.reduceBEq, reduceCtorEq, Int.reduceLT, Int.reduceLE, Int.reduceEq, Int.reduceGT, Int.reduceGE, Int.reduceToNat, Int.reduceNeg, hck.blk, hal]
  refine Ret.then (loop3 (d + 1) B hlen ⟨?_, ?_, ?_, _, hck, Own.nil _ _ _ _⟩) ?_
  · simp -implicitDefEqProofs only [go_sem, Nat.reduceEqDiff, Nat.reduceBEq, reduceCtorEq]
  · simp -implicitDefEqProofs only [go_sem, Nat.reduceEqDiff, Nat.reduceBEq, reduceCtorEq]
  · simp -implicitDefEqProofs only [go_sem, Nat.reduceEqDiff, Nat.reduceBEq, reduceCtorEq]
    rfl
  · rintro ⟨e, T, H1⟩ ⟨rfl, t0, _, _, hs, hck1, hown⟩
    simp only at t0 hck1 hown
    obtain ⟨bh, Bh, hah, hNh, hbhn, hBhm, hrwh, hilh, _, hidh, hset⟩ := hown.cell hck1.ext.wf (i := 0) (by rw [intsC_len]; simp; omega)
    have hid0 : ∀ k, idxSl hs (.int k 0) 1 = some (.ptr (some (bh, 0))) := fun k => hidh k
    have hkb : ¬ Hb.next = bh := by omega
    have hset2 := hset (.int .i64 0)
    rw [intsC_set, hrwh] at hset2
    have hx2 : Ext Hb.next Hb (H1.put bh ⟨Bh.cells.set 0 (.int .i64 0), Bh.elem, true⟩) := hck1.ext.put (by omega) hbhn _
    have hkn : ¬ Hb.next = H1.next := Nat.ne_of_lt hck1.lt
    have hx3 := hx2.new [.int .i64 0] 3
    have hck3 : Ck Hb ls s c ((H1.put bh ⟨Bh.cells.set 0 (.int .i64 0), Bh.elem, true⟩).new [.int .i64 0] 3) hs := ⟨hx3, by simp [hkn, hkb, hck1.blk]⟩
    simp -implicitDefEqProofs only [go_sem, Nat.reduceAdd, Nat.reduceMul, Nat.reduceLT, Nat.reduceLeDiff, Nat.reduceEqDiff, Nat.reduceBEq, reduceCtorEq, Int.reduceLT, Int.reduceLE, Int.reduceEq, Int.reduceGT, Int.reduceGE, Int.reduceToNat, Int.reduceNeg, t0, hck1.blk, hid0, hBhm, hrwh, hilh]
    refine Ret.then (Q' := E2 Hb ls s l c) (Ret.iter (I2 Hb ls s l c) _ (fun f t hI => round2 d B hmay hlen f t hI) (fun t ht => by obtain ⟨_, _, _, _, _, _, _, _, _, h, _⟩ := ht; exact absurd h (Nat.not_lt_zero _)) 200000 big _ (by unfold big; omega)
      ⟨?_, hs, (List.replicate c.ins.length (-1)).set 0 0, [0], hck3, hset2.new hx2.wf _ _, ?_, ?_, Way.start h1, ?_, Nat.le_refl _⟩) ?_
    · simp -implicitDefEqProofs only [go_sem, Nat.reduceEqDiff, Nat.reduceBEq, reduceCtorEq, t0]
    · simp -implicitDefEqProofs only [go_sem, Nat.reduceEqDiff, Nat.reduceBEq, reduceCtorEq]
      exact Own.made (N := Hb.next + 1) (n := 1) (by simp only [put_next]; have := hck1.lt; omega) rfl
    · simp -implicitDefEqProofs only [go_sem, Nat.reduceEqDiff, Nat.reduceBEq, reduceCtorEq]
      rintro b ⟨n, cc, h⟩ hb
      cases h
      have := hb.one hah
      omega
    · have := negs_le ((List.replicate c.ins.length (-1 : Int)).set 0 0)
      simp at this ⊢
      omega
    · rintro ⟨e, T4, H4⟩ (⟨rfl, hs4, h4, k1, k2, k3⟩ | ⟨rfl, k1, k2, k3⟩)
      · simp only at k1 k2
        simp -implicitDefEqProofs only [go_sem, Nat.reduceAdd, Nat.reduceMul, Nat.reduceLT, Nat.reduceLeDiff, Nat.reduceEqDiff, Nat.reduceBEq, reduceCtorEq, Int.reduceLT, Int.reduceLE, Int.reduceEq, Int.reduceGT, Int.reduceGE, Int.reduceToNat, Int.reduceNeg]
        exact .mk ⟨k1.ext, .inl ⟨rfl, hs4, h4, k1, k2, k3⟩⟩
      · simp only at k1 k2
        simp -implicitDefEqProofs only [go_sem, Nat.reduceAdd, Nat.reduceMul, Nat.reduceLT, Nat.reduceLeDiff, Nat.reduceEqDiff, Nat.reduceBEq, reduceCtorEq, Int.reduceLT, Int.reduceLE, Int.reduceEq, Int.reduceGT, Int.reduceGE, Int.reduceToNat, Int.reduceNeg, k1]
        exact .mk ⟨k2, .inr ⟨rfl, k3⟩⟩

def IO (Hb : AH) (ls s : AV) (l : List Code) (c : Code) (i : Nat) (t : St) : Prop :=
  t.1 0 = .ptr (some (Hb.next, 0)) ∧ t.1 48 = s ∧ t.1 49 = .int .i64 (c.ins.length : Nat) ∧ t.1 50 = .int .i64 (i : Nat) ∧ Ck Hb ls s c t.2 (.slice none 0 (.kn 0)) ∧ ∀ j, j < i → ∀ x, c.ins[j]? = some x → mayI l c x = true
theorem own_loop (d : Nat) (B : Base Hb ls s l c) (hlen : c.ins.length ≤ 65536) {T : Tm} {H : AH} (h0 : IO Hb ls s l c 0 (T, H)) :
    Ret (Ri.iter big (F69_L0 (RT (d + 2)) (Ri.iter big)) (T, H)) fun r => (r.1 = .exit 0 ∧ IO Hb ls s l c c.ins.length r.2) ∨ (r.1 = .ret ∧ r.2.1 2 = .bool false ∧ Ext Hb.next Hb r.2.2 ∧ ¬ ∀ i ∈ c.ins, mayI l c i = true) := by
  refine Ret.upTo (n := c.ins.length) (IO Hb ls s l c) (by unfold big; omega) h0 ?_ ?_
  · rintro i ⟨T1, H1⟩ hi ⟨t0, t48, t49, t50, hck, hdone⟩
    simp only at t0 t48 t49 t50 hck
    have hcmp : decide (((i : Nat) : Int) < ((c.ins.length : Nat) : Int)) = true := decide_eq_true (by omega)
    have hins := (hck.chk B).ins
    obtain ⟨pb, po, e1, e2, _⟩ := hins.1.at (i := i) (by simpa using hi)
    simp only [List.getElem_map] at e2
    have hin : insC c.ins[i] = [.int .i64 c.ins[i].op, .int .i64 c.ins[i].n, .int .i64 c.ins[i].m] := rfl
    have hx1 : Ext Hb.next Hb (H1.new (insC c.ins[i]) 29) := hck.ext.new _ _
    have hkn : ¬ Hb.next = H1.next := Nat.ne_of_lt hck.lt
    have hck1 : Ck Hb ls s c (H1.new (insC c.ins[i]) 29) (.slice none 0 (.kn 0)) := ⟨hx1, by simp [hkn, hck.blk]⟩
    obtain ⟨⟨v, H2⟩, h94, hv, hH2⟩ := may_spec d hx1.wf (hck1.tabs B) (hck1.chk B) (hins.2 c.ins[i] (List.getElem_mem _))
    simp only at hv hH2
    subst hv hH2
    have hx2 := hx1.new (insC c.ins[i]) 29
    have hkn2 : ¬ Hb.next = H1.next + 1 := by have := hck.lt; omega
    have hck2 : Ck Hb ls s c ((H1.new (insC c.ins[i]) 29).new (insC c.ins[i]) 29) (.slice none 0 (.kn 0)) := ⟨hx2, by simp [hkn, hkn2, hck.blk]⟩
    rw [hin] at e2 h94 hck2 hx2
    unfold F69_L0
    cases hmv : mayI l c c.ins[i]
    · rw [hmv] at h94
      simp -implicitDefEqProofs only [go_sem, Nat.reduceAdd, Nat.reduceMul, Nat.reduceLT, Nat.reduceLeDiff, Nat.reduceEqDiff, Nat.reduceBEq, reduceCtorEq, Int.reduceLT, Int.reduceLE, Int.reduceEq, Int.reduceGT, Int.reduceGE, Int.reduceToNat, Int.reduceNeg, t0, t48, t49, t50, hcmp, e1, e2, new_put, h94]
      refine .mk (.inr ⟨by simp, .inr ⟨rfl, ?_, hx2, fun h => ?_⟩⟩)
      · simp -implicitDefEqProofs only [go_sem, Nat.reduceEqDiff, Nat.reduceBEq, reduceCtorEq]
      · rw [h _ (List.getElem_mem _)] at hmv
        cases hmv
    · rw [hmv] at h94
      simp -implicitDefEqProofs only [go_sem, Nat.reduceAdd, Nat.reduceMul, Nat.reduceLT, Nat.reduceLeDiff, Nat.reduceEqDiff, Nat.reduceBEq, reduceCtorEq, Int.reduceLT, Int.reduceLE, Int.reduceEq, Int.reduceGT, Int.reduceGE, Int.reduceToNat, Int.reduceNeg, t0, t48, t49, t50, hcmp, e1, e2, new_put, h94, wrapS (i := i) (by omega)]
      refine .mk (.inl ⟨rfl, ?_, ?_, ?_, ?_, hck2, fun j hj x hx => ?_⟩)
      · simp -implicitDefEqProofs only [go_sem, Nat.reduceEqDiff, Nat.reduceBEq, reduceCtorEq, t0]
      · simp -implicitDefEqProofs only [go_sem, Nat.reduceEqDiff, Nat.reduceBEq, reduceCtorEq, t48]
      · simp -implicitDefEqProofs only [go_sem, Nat.reduceEqDiff, Nat.reduceBEq, reduceCtorEq, t49]
      · simp -implicitDefEqProofs only [go_sem, Nat.reduceEqDiff, Nat.reduceBEq, reduceCtorEq]
      · by_cases hji : j = i
        · subst hji
          rw [List.getElem?_eq_getElem hi] at hx
          cases hx
          exact hmv
        · exact hdone j (by omega) x hx
  · rintro ⟨T1, H1⟩ ⟨t0, t48, t49, t50, h⟩
    simp only at t0 t48 t49 t50 h
    have hcmp : decide (((c.ins.length : Nat) : Int) < ((c.ins.length : Nat) : Int)) = false := decide_eq_false (by omega)
    unfold F69_L0
    simp -implicitDefEqProofs only [go_sem, Nat.reduceAdd, Nat.reduceMul, Nat.reduceLT, Nat.reduceLeDiff, Nat.reduceEqDiff, Nat.reduceBEq, reduceCtorEq, Int.reduceLT, Int.reduceLE, Int.reduceEq, Int.reduceGT, Int.reduceGE, Int.reduceToNat, Int.reduceNeg, t49, t50, hcmp]
    refine .mk ⟨by simp, .inl ⟨rfl, ?_, ?_, ?_, ?_, h⟩⟩
    · simp -implicitDefEqProofs only [go_sem, Nat.reduceEqDiff, Nat.reduceBEq, reduceCtorEq, t0]
    · simp -implicitDefEqProofs only [go_sem, Nat.reduceEqDiff, Nat.reduceBEq, reduceCtorEq, t48]
    · simp -implicitDefEqProofs only [go_sem, Nat.reduceEqDiff, Nat.reduceBEq, reduceCtorEq, t49]
    · simp -implicitDefEqProofs only [go_sem, Nat.reduceEqDiff, Nat.reduceBEq, reduceCtorEq, t50]

theorem own_spec (d : Nat) (B : Base Hb ls s l c) {H : AH} (hck : Ck Hb ls s c H (.slice none 0 (.kn 0))) :
    Ret (RT (d + 3) 69 [.ptr (some (Hb.next, 0))] H) fun r => Ext Hb.next Hb r.2 ∧ ((r.1 = .bool true ∧ OwnOk l c ∧ ∃ hs h, Ck Hb ls s c r.2 hs ∧ OwnI (Hb.next + 1) r.2 hs h ∧ Good l c h) ∨ (r.1 = .bool false ∧ ¬ (OwnOk l c ∧ ∃ g, Good l c g))) := by
  rw [R69]
  unfold F69
  have hal := (hck.chk B).ins.alen
  have hx1 : Ext Hb.next Hb (H.new [s, .int .i64 c.cells, .int .i64 c.params, .bool c.answers] 24) := hck.ext.new _ _
  have hkn : ¬ Hb.next = H.next := Nat.ne_of_lt hck.lt
  have hck1 : Ck Hb ls s c (H.new [s, .int .i64 c.cells, .int .i64 c.params, .bool c.answers] 24) (.slice none 0 (.kn 0)) := ⟨hx1, by simp [hkn, hck.blk]⟩
  have no : ¬ OwnOk l c → Ret (some (AV.bool false, H.new [s, .int .i64 c.cells, .int .i64 c.params, .bool c.answers] 24)) fun r => Ext Hb.next Hb r.2 ∧ ((r.1 = .bool true ∧ OwnOk l c ∧ ∃ hs h, Ck Hb ls s c r.2 hs ∧ OwnI (Hb.next + 1) r.2 hs h ∧ Good l c h) ∨ (r.1 = .bool false ∧ ¬ (OwnOk l c ∧ ∃ g, Good l c g))) :=
    fun h => .mk ⟨hx1, .inr ⟨rfl, fun hh => h hh.1⟩⟩
  by_cases p1 : ((c.ins.length : Nat) : Int) < 1
  · simp -implicitDefEqProofs only [go_sem, Nat.reduceAdd, Nat.reduceMul, Nat.reduceLT, Nat.reduceLeDiff, Nat.reduceEqDiff, Nat.reduceBEq, reduceCtorEq, Int.reduceLT, Int.reduceLE, Int.reduceEq, Int.reduceGT, Int.reduceGE, Int.reduceToNat, Int.reduceNeg, hck.blk, hal, new_put, decide_eq_true p1]
    exact no fun h => by have := h.some_; omega
  by_cases p2 : ((c.ins.length : Nat) : Int) > 65536
  · simp -implicitDefEqProofs only [go_sem, Nat.reduceAdd, Nat.reduceMul, Nat.reduceLT, Nat.reduceLeDiff, Nat.reduceEqDiff, Nat.reduceBEq, reduceCtorEq, Int.reduceLT, Int.reduceLE, Int.reduceEq, Int.reduceGT, Int.reduceGE, Int.reduceToNat, Int.reduceNeg, hck.blk, hal, new_put, decide_eq_false p1, decide_eq_true p2]
    exact no fun h => by have := h.few; omega
  by_cases p3 : c.cells < 0
  · simp -implicitDefEqProofs only [go_sem, Nat.reduceAdd, Nat.reduceMul, Nat.reduceLT, Nat.reduceLeDiff, Nat.reduceEqDiff, Nat.reduceBEq, reduceCtorEq, Int.reduceLT, Int.reduceLE, Int.reduceEq, Int.reduceGT, Int.reduceGE, Int.reduceToNat, Int.reduceNeg, hck.blk, hal, new_put, decide_eq_false p1, decide_eq_false p2, decide_eq_true p3]
    exact no fun h => by have := h.cells; omega
  by_cases p4 : c.cells > 65536
  · simp -implicitDefEqProofs only [go_sem, Nat.reduceAdd, Nat.reduceMul, Nat.reduceLT, Nat.reduceLeDiff, Nat.reduceEqDiff, Nat.reduceBEq, reduceCtorEq, Int.reduceLT, Int.reduceLE, Int.reduceEq, Int.reduceGT, Int.reduceGE, Int.reduceToNat, Int.reduceNeg, hck.blk, hal, new_put, decide_eq_false p1, decide_eq_false p2, decide_eq_false p3, decide_eq_true p4]
    exact no fun h => by have := h.cells; omega
  by_cases p5 : c.params < 0
  · simp -implicitDefEqProofs only [go_sem, Nat.reduceAdd, Nat.reduceMul, Nat.reduceLT, Nat.reduceLeDiff, Nat.reduceEqDiff, Nat.reduceBEq, reduceCtorEq, Int.reduceLT, Int.reduceLE, Int.reduceEq, Int.reduceGT, Int.reduceGE, Int.reduceToNat, Int.reduceNeg, hck.blk, hal, new_put, decide_eq_false p1, decide_eq_false p2, decide_eq_false p3, decide_eq_false p4, decide_eq_true p5]
    exact no fun h => by have := h.params; omega
  by_cases p6 : c.params > 8
  · simp -implicitDefEqProofs only [go_sem, Nat.reduceAdd, Nat.reduceMul, Nat.reduceLT, Nat.reduceLeDiff, Nat.reduceEqDiff, Nat.reduceBEq, reduceCtorEq, Int.reduceLT, Int.reduceLE, Int.reduceEq, Int.reduceGT, Int.reduceGE, Int.reduceToNat, Int.reduceNeg, hck.blk, hal, new_put, decide_eq_false p1, decide_eq_false p2, decide_eq_false p3, decide_eq_false p4, decide_eq_false p5, decide_eq_true p6]
    exact no fun h => by have := h.params; omega
  by_cases p7 : c.params > c.cells
  · simp -implicitDefEqProofs only [go_sem, Nat.reduceAdd, Nat.reduceMul, Nat.reduceLT, Nat.reduceLeDiff, Nat.reduceEqDiff, Nat.reduceBEq, reduceCtorEq, Int.reduceLT, Int.reduceLE, Int.reduceEq, Int.reduceGT, Int.reduceGE, Int.reduceToNat, Int.reduceNeg, hck.blk, hal, new_put, decide_eq_false p1, decide_eq_false p2, decide_eq_false p3, decide_eq_false p4, decide_eq_false p5, decide_eq_false p6, decide_eq_true p7]
    exact no fun h => by have := h.params; omega
  simp -implicitDefEqProofs only [go_sem, Nat.reduceAdd, Nat.reduceMul, Nat.reduceLT, Nat.reduceLeDiff, Nat.reduceEqDiff, Nat.reduceBEq, reduceCtorEq, Int.reduceLT, Int.reduceLE, Int.reduceEq, Int.reduceGT, Int.reduceGE, Int.reduceToNat, Int.reduceNeg, hck.blk, hal, new_put, decide_eq_false p1, decide_eq_false p2, decide_eq_false p3, decide_eq_false p4, decide_eq_false p5, decide_eq_false p6, decide_eq_false p7]
  refine Ret.then (own_loop d B (by omega) ⟨?_, ?_, ?_, ?_, hck1, fun j hj => absurd hj (Nat.not_lt_zero _)⟩) ?_
  · simp -implicitDefEqProofs only [go_sem, Nat.reduceEqDiff, Nat.reduceBEq, reduceCtorEq]
  · simp -implicitDefEqProofs only [go_sem, Nat.reduceEqDiff, Nat.reduceBEq, reduceCtorEq]
  · simp -implicitDefEqProofs only [go_sem, Nat.reduceEqDiff, Nat.reduceBEq, reduceCtorEq]
  · simp -implicitDefEqProofs only [go_sem, Nat.reduceEqDiff, Nat.reduceBEq, reduceCtorEq]
    rfl
  · rintro ⟨e, T, H1⟩ (⟨rfl, t0, _, _, _, hck2, hall⟩ | ⟨rfl, k1, k2, k3⟩)
    · simp only at t0 hck2
      have hmay : ∀ i ∈ c.ins, mayI l c i = true := fun i hi => by
        obtain ⟨j, hj⟩ := List.mem_iff_getElem?.1 hi
        exact hall j (List.getElem?_eq_some_iff.1 hj).1 i hj
      have hok : OwnOk l c := ⟨by omega, by omega, by omega, by omega, hmay⟩
      obtain ⟨⟨v, H5⟩, h95, hx5, hr⟩ := heights_spec d B hmay (by omega) (by omega) hck2
      simp only at hx5 hr
      simp -implicitDefEqProofs only [go_sem, Nat.reduceAdd, Nat.reduceMul, Nat.reduceLT, Nat.reduceLeDiff, Nat.reduceEqDiff, Nat.reduceBEq, reduceCtorEq, Int.reduceLT, Int.reduceLE, Int.reduceEq, Int.reduceGT, Int.reduceGE, Int.reduceToNat, Int.reduceNeg, t0, h95]
      refine .mk ⟨hx5, ?_⟩
      rcases hr with ⟨rfl, hs, h, q1, q2, q3⟩ | ⟨rfl, q⟩
      · exact .inl ⟨rfl, hok, hs, h, q1, q2, q3⟩
      · exact .inr ⟨rfl, fun hh => q hh.2⟩
    · simp only at k1 k2
      simp -implicitDefEqProofs only [go_sem, Nat.reduceAdd, Nat.reduceMul, Nat.reduceLT, Nat.reduceLeDiff, Nat.reduceEqDiff, Nat.reduceBEq, reduceCtorEq, Int.reduceLT, Int.reduceLE, Int.reduceEq, Int.reduceGT, Int.reduceGE, Int.reduceToNat, Int.reduceNeg, k1]
      exact .mk ⟨k2, .inr ⟨rfl, fun hh => k3 hh.1.may⟩⟩
end

theorem Heights_spec (d : Nat) {H : AH} (hw : H.wf) (hT : Tabs H) {ls : AV} {l : List Code} (hl : CodesRow H ls l) {k : Int} (hk : InI k) :
    Ret (RT (d + 4) 28 [ls, .int .i64 k] H) fun r => Ext H.next H r.2 ∧ ((∃ hs h, r.1 = .tuple [hs, .bool true] ∧ OwnI (H.next + 1) r.2 hs h ∧ Hts l k h) ∨ (r.1 = .tuple [.slice none 0 (.kn 0), .bool false] ∧ ¬ ∃ h, Hts l k h)) := by
  rw [R28]
  unfold F28
  have hal := hl.alen
  by_cases p1 : k < 0
  · simp -implicitDefEqProofs only [go_sem, Nat.reduceAdd, Nat.reduceMul, Nat.reduceLT, Nat.reduceLeDiff, Nat.reduceEqDiff, Nat.reduceBEq, reduceCtorEq, Int.reduceLT, Int.reduceLE, Int.reduceEq, Int.reduceGT, Int.reduceGE, Int.reduceToNat, Int.reduceNeg, hal, decide_eq_true p1]
    exact .mk ⟨.refl hw, .inr ⟨rfl, fun ⟨h, c, h0, _⟩ => by omega⟩⟩
  by_cases p2 : k ≥ ((l.length : Nat) : Int)
  · simp -implicitDefEqProofs only [go_sem, Nat.reduceAdd, Nat.reduceMul, Nat.reduceLT, Nat.reduceLeDiff, Nat.reduceEqDiff, Nat.reduceBEq, reduceCtorEq, Int.reduceLT, Int.reduceLE, Int.reduceEq, Int.reduceGT, Int.reduceGE, Int.reduceToNat, Int.reduceNeg, hal, decide_eq_false p1, decide_eq_true p2]
    refine .mk ⟨.refl hw, .inr ⟨rfl, fun ⟨h, c, h0, h1, _⟩ => ?_⟩⟩
    have := (List.getElem?_eq_some_iff.1 h1).1
    omega
  obtain ⟨b, o, c, q1, q2, ⟨s, q3, q4, _⟩, _, _, _, q5, q6, _⟩ := codes_at hl (n := k) (by omega) (by omega)
  have hx : Ext H.next H (H.new [ls, s, .int .i64 c.cells, .int .i64 c.params, .bool c.answers, .slice none 0 (.kn 0)] 100) := (Ext.refl hw).new _ _
  have B : Base H ls s l c := ⟨hw, hT, hl, q4, q5, q6⟩
  have hck : Ck H ls s c (H.new [ls, s, .int .i64 c.cells, .int .i64 c.params, .bool c.answers, .slice none 0 (.kn 0)] 100) (.slice none 0 (.kn 0)) := ⟨hx, by simp⟩
  obtain ⟨⟨v, H5⟩, h69, hx5, hr⟩ := own_spec d B hck
  simp only at hx5 hr
  have hls : ∃ p n cc, ls = .slice p n cc ∨ ls = .empty := by
    obtain ⟨rows, hrow, _⟩ := hl
    rcases hrow.is with ⟨h, _⟩ | ⟨a, cc, h, _⟩
    · exact ⟨none, 0, .kn 0, .inr h⟩
    · exact ⟨_, _, _, .inl h⟩
  obtain ⟨p, n, cc, rfl | rfl⟩ := hls
  · rcases hr with ⟨rfl, hok, hs, h, k1, k2, k3⟩ | ⟨rfl, hno⟩
    · simp -implicitDefEqProofs only [go_sem, Nat.reduceAdd, Nat.reduceMul, Nat.reduceLT, Nat.reduceLeDiff, Nat.reduceEqDiff, Nat.reduceBEq, reduceCtorEq, Int.reduceLT, Int.reduceLE, Int.reduceEq, Int.reduceGT, Int.reduceGE, Int.reduceToNat, Int.reduceNeg, hal, decide_eq_false p1, decide_eq_false p2, q2, q3, h69, k1.blk]
      exact .mk ⟨hx5, .inl ⟨hs, h, rfl, k2, c, by omega, q1, hok, k3⟩⟩
    · simp -implicitDefEqProofs only [go_sem, Nat.reduceAdd, Nat.reduceMul, Nat.reduceLT, Nat.reduceLeDiff, Nat.reduceEqDiff, Nat.reduceBEq, reduceCtorEq, Int.reduceLT, Int.reduceLE, Int.reduceEq, Int.reduceGT, Int.reduceGE, Int.reduceToNat, Int.reduceNeg, hal, decide_eq_false p1, decide_eq_false p2, q2, q3, h69]
      refine .mk ⟨hx5, .inr ⟨rfl, fun ⟨h, c', h0, h1, h2, h3⟩ => hno ?_⟩⟩
      rw [q1] at h1
      cases h1
      exact ⟨h2, h, h3⟩
  · have := q2 .i64
    simp [idxSl] at this
def SoundP (l : List Code) (main : Int) : Prop := 1 ≤ l.length ∧ l.length ≤ 40 ∧ 0 ≤ main ∧ main < l.length ∧ paramsAt l main = 0 ∧ answersAt l main = false ∧ ∀ k : Nat, k < l.length → ∃ h, Hts l k h
end Go.Proofs.YthiflgncldmkjaaDoor
set_option linter.unusedVariables false
set_option linter.unusedSimpArgs false
set_option maxRecDepth 100000
namespace Go.Proofs.YthiflgncldmkjaaDoor
open Go.Ri

theorem CodesRow.few {H : AH} {ls : AV} {l : List Code} (h : CodesRow H ls l) : l.length ≤ 9223372036854775807 := by
  obtain ⟨_, _, ⟨_, h⟩, _⟩ := h
  exact h
def IS (H : AH) (ls : AV) (l : List Code) (i : Nat) (t : St) : Prop :=
  t.1 0 = ls ∧ t.1 42 = .int .i64 (l.length : Nat) ∧ t.1 43 = .int .i64 (i : Nat) ∧ Ext H.next H t.2 ∧ ∀ k : Nat, k < i → ∃ h, Hts l k h
theorem sound_loop (d : Nat) {H : AH} (hw : H.wf) (hT : Tabs H) {ls : AV} {l : List Code} (hl : CodesRow H ls l) {T : Tm} {H1 : AH} (h0 : IS H ls l 0 (T, H1)) :
    Ret (Ri.iter big (F27_L0 (RT (d + 4)) (Ri.iter big)) (T, H1)) fun r => Ext H.next H r.2.2 ∧ ((r.1 = .exit 0 ∧ ∀ k : Nat, k < l.length → ∃ h, Hts l k h) ∨ (r.1 = .ret ∧ r.2.1 4 = .bool false ∧ ¬ ∀ k : Nat, k < l.length → ∃ h, Hts l k h)) := by
  have hfew := hl.few
  refine Ret.upTo (n := l.length) (IS H ls l) (by unfold big; omega) h0 ?_ ?_
  · rintro i ⟨T1, H2⟩ hi ⟨t0, t42, t43, hx, hdone⟩
    simp only at t0 t42 t43 hx
    have hcmp : decide (((i : Nat) : Int) < ((l.length : Nat) : Int)) = true := decide_eq_true (by omega)
    obtain ⟨⟨v, H3⟩, h28, hx3, hr⟩ := Heights_spec d hx.wf (hT.ext hx hT.two) (hl.mono (hx.sub hw)) (k := ((i : Nat) : Int)) (by unfold InI; omega)
    simp only at hx3 hr
    have hx4 : Ext H.next H H3 := hx.trans hx3 hx.next
    unfold F27_L0
    rcases hr with ⟨hs, h, rfl, _, hh⟩ | ⟨rfl, hno⟩
    · simp -implicitDefEqProofs only [go_sem, Nat.reduceAdd, Nat.reduceMul, Nat.reduceLT, Nat.reduceLeDiff, Nat.reduceEqDiff, Nat.reduceBEq, reduceCtorEq, Int.reduceLT, Int.reduceLE, Int.reduceEq, Int.reduceGT, Int.reduceGE, Int.reduceToNat, Int.reduceNeg, t0, t42, t43, hcmp, h28, wrapS (i := i) (by omega)]
      refine .mk (.inl ⟨rfl, ?_, ?_, ?_, hx4, fun k hk => ?_⟩)
      · simp -implicitDefEqProofs only [go_sem, Nat.reduceEqDiff, Nat.reduceBEq, reduceCtorEq, t0]
      · simp -implicitDefEqProofs only [go_sem, Nat.reduceEqDiff, Nat.reduceBEq, reduceCtorEq, t42]
      · simp -implicitDefEqProofs only [go_sem, Nat.reduceEqDiff, Nat.reduceBEq, reduceCtorEq]
      · by_cases hki : k = i
        · subst hki; exact ⟨h, hh⟩
        · exact hdone k (by omega)
    · simp -implicitDefEqProofs only [go_sem, Nat.reduceAdd, Nat.reduceMul, Nat.reduceLT, Nat.reduceLeDiff, Nat.reduceEqDiff, Nat.reduceBEq, reduceCtorEq, Int.reduceLT, Int.reduceLE, Int.reduceEq, Int.reduceGT, Int.reduceGE, Int.reduceToNat, Int.reduceNeg, t0, t42, t43, hcmp, h28]
      refine .mk (.inr ⟨by simp, hx4, .inr ⟨rfl, ?_, fun h => hno (h i hi)⟩⟩)
      simp -implicitDefEqProofs only [go_sem, Nat.reduceAdd, Nat.reduceMul, Nat.reduceLT, Nat.reduceLeDiff, Nat.reduceEqDiff, Nat.reduceBEq, reduceCtorEq, Int.reduceLT, Int.reduceLE, Int.reduceEq, Int.reduceGT, Int.reduceGE, Int.reduceToNat, Int.reduceNeg]
  · rintro ⟨T1, H2⟩ ⟨t0, t42, t43, hx, hdone⟩
    simp only at t0 t42 t43 hx
    have hcmp : decide (((l.length : Nat) : Int) < ((l.length : Nat) : Int)) = false := decide_eq_false (by omega)
    unfold F27_L0
    simp -implicitDefEqProofs only [go_sem, Nat.reduceAdd, Nat.reduceMul, Nat.reduceLT, Nat.reduceLeDiff, Nat.reduceEqDiff, Nat.reduceBEq, reduceCtorEq, Int.reduceLT, Int.reduceLE, Int.reduceEq, Int.reduceGT, Int.reduceGE, Int.reduceToNat, Int.reduceNeg, t42, t43, hcmp]
    exact .mk ⟨by simp, hx, .inl ⟨rfl, hdone⟩⟩

theorem Sound_spec (d : Nat) {H : AH} (hw : H.wf) (hT : Tabs H) {ls : AV} {l : List Code} (hl : CodesRow H ls l) {main : Int} (hm : InI main) :
    Ret (RT (d + 5) 27 [ls, .int .i64 main] H) fun r => Ext H.next H r.2 ∧ ∃ b : Bool, r.1 = .bool b ∧ (b = true ↔ SoundP l main) := by
  rw [R27]
  unfold F27
  have hal := hl.alen
  have no : ¬ SoundP l main → Ret (some (AV.bool false, H)) fun r => Ext H.next H r.2 ∧ ∃ b : Bool, r.1 = .bool b ∧ (b = true ↔ SoundP l main) := fun h => .mk ⟨.refl hw, false, rfl, by simp [h]⟩
  by_cases p1 : ((l.length : Nat) : Int) < 1
  · simp -implicitDefEqProofs only [go_sem, Nat.reduceAdd, Nat.reduceMul, Nat.reduceLT, Nat.reduceLeDiff, Nat.reduceEqDiff, Nat.reduceBEq, reduceCtorEq, Int.reduceLT, Int.reduceLE, Int.reduceEq, Int.reduceGT, Int.reduceGE, Int.reduceToNat, Int.reduceNeg, hal, decide_eq_true p1]
    exact no fun h => by have := h.1; omega
  by_cases p2 : ((l.length : Nat) : Int) > 40
  · simp -implicitDefEqProofs only [go_sem, Nat.reduceAdd, Nat.reduceMul, Nat.reduceLT, Nat.reduceLeDiff, Nat.reduceEqDiff, Nat.reduceBEq, reduceCtorEq, Int.reduceLT, Int.reduceLE, Int.reduceEq, Int.reduceGT, Int.reduceGE, Int.reduceToNat, Int.reduceNeg, hal, decide_eq_false p1, decide_eq_true p2]
    exact no fun h => by have := h.2.1; omega
  by_cases p3 : main < 0
  · simp -implicitDefEqProofs only [go_sem, Nat.reduceAdd, Nat.reduceMul, Nat.reduceLT, Nat.reduceLeDiff, Nat.reduceEqDiff, Nat.reduceBEq, reduceCtorEq, Int.reduceLT, Int.reduceLE, Int.reduceEq, Int.reduceGT, Int.reduceGE, Int.reduceToNat, Int.reduceNeg, hal, decide_eq_false p1, decide_eq_false p2, decide_eq_true p3]
    exact no fun h => by have := h.2.2.1; omega
  by_cases p4 : main ≥ ((l.length : Nat) : Int)
  · simp -implicitDefEqProofs only [go_sem, Nat.reduceAdd, Nat.reduceMul, Nat.reduceLT, Nat.reduceLeDiff, Nat.reduceEqDiff, Nat.reduceBEq, reduceCtorEq, Int.reduceLT, Int.reduceLE, Int.reduceEq, Int.reduceGT, Int.reduceGE, Int.reduceToNat, Int.reduceNeg, hal, decide_eq_false p1, decide_eq_false p2, decide_eq_false p3, decide_eq_true p4]
    exact no fun h => by have := h.2.2.2.1; omega
  obtain ⟨b, o, c, q1, q2, _, _, q5, q6, _⟩ := codes_at hl (n := main) (by omega) (by omega)
  have hpa : paramsAt l main = c.params := by simp [paramsAt, q1]
  have haa : answersAt l main = c.answers := by simp [answersAt, q1]
  by_cases p5 : c.params = 0
  · cases p6 : c.answers
    · rw [p6] at q6
      simp -implicitDefEqProofs only [go_sem, Nat.reduceAdd, Nat.reduceMul, Nat.reduceLT, Nat.reduceLeDiff, Nat.reduceEqDiff, Nat.reduceBEq, reduceCtorEq, Int.reduceLT, Int.reduceLE, Int.reduceEq, Int.reduceGT, Int.reduceGE, Int.reduceToNat, Int.reduceNeg, hal, decide_eq_false p1, decide_eq_false p2, decide_eq_false p3, decide_eq_false p4, q2, q5, q6, decide_eq_true p5]
      refine Ret.then (sound_loop d hw hT hl ⟨?_, ?_, ?_, .refl hw, fun k hk => absurd hk (Nat.not_lt_zero _)⟩) ?_
      · simp -implicitDefEqProofs only [go_sem, Nat.reduceEqDiff, Nat.reduceBEq, reduceCtorEq]
      · simp -implicitDefEqProofs only [go_sem, Nat.reduceEqDiff, Nat.reduceBEq, reduceCtorEq]
      · simp -implicitDefEqProofs only [go_sem, Nat.reduceEqDiff, Nat.reduceBEq, reduceCtorEq]
        rfl
      · rintro ⟨e, T, H1⟩ ⟨hx, ⟨rfl, hall⟩ | ⟨rfl, h4, hno⟩⟩
        · simp only at hx
          simp -implicitDefEqProofs only [go_sem, Nat.reduceAdd, Nat.reduceMul, Nat.reduceLT, Nat.reduceLeDiff, Nat.reduceEqDiff, Nat.reduceBEq, reduceCtorEq, Int.reduceLT, Int.reduceLE, Int.reduceEq, Int.reduceGT, Int.reduceGE, Int.reduceToNat, Int.reduceNeg]
          exact .mk ⟨hx, true, rfl, by simp only [true_iff]; exact ⟨by omega, by omega, by omega, by omega, by rw [hpa, p5], by rw [haa, p6], hall⟩⟩
        · simp only at hx h4
          simp -implicitDefEqProofs only [go_sem, Nat.reduceAdd, Nat.reduceMul, Nat.reduceLT, Nat.reduceLeDiff, Nat.reduceEqDiff, Nat.reduceBEq, reduceCtorEq, Int.reduceLT, Int.reduceLE, Int.reduceEq, Int.reduceGT, Int.reduceGE, Int.reduceToNat, Int.reduceNeg, h4]
          exact .mk ⟨hx, false, rfl, by simp only [Bool.false_eq_true, false_iff]; exact fun h => hno h.2.2.2.2.2.2⟩
    · rw [p6] at q6
      simp -implicitDefEqProofs only [go_sem, Nat.reduceAdd, Nat.reduceMul, Nat.reduceLT, Nat.reduceLeDiff, Nat.reduceEqDiff, Nat.reduceBEq, reduceCtorEq, Int.reduceLT, Int.reduceLE, Int.reduceEq, Int.reduceGT, Int.reduceGE, Int.reduceToNat, Int.reduceNeg, hal, decide_eq_false p1, decide_eq_false p2, decide_eq_false p3, decide_eq_false p4, q2, q5, q6, decide_eq_true p5]
      exact no fun h => by have := h.2.2.2.2.2.1; rw [haa, p6] at this; cases this
  · simp -implicitDefEqProofs only [go_sem, Nat.reduceAdd, Nat.reduceMul, Nat.reduceLT, Nat.reduceLeDiff, Nat.reduceEqDiff, Nat.reduceBEq, reduceCtorEq, Int.reduceLT, Int.reduceLE, Int.reduceEq, Int.reduceGT, Int.reduceGE, Int.reduceToNat, Int.reduceNeg, hal, decide_eq_false p1, decide_eq_false p2, decide_eq_false p3, decide_eq_false p4, q2, q5, decide_eq_false p5]
    exact no fun h => p5 (by rw [← hpa]; exact h.2.2.2.2.1)

theorem Size_spec (d : Nat) {H : AH} {ls : AV} {l : List Code} (hl : CodesRow H ls l) (most : Int) : Ret (RT (d + 1) 26 [ls, .int .i64 most] H) fun r => (∃ n, r.1 = .int .i64 n) ∧ r.2 = H := by
  rw [R26]
  unfold F26
  have hfew := hl.few
  have hal := hl.alen
  refine Ret.then (Q' := fun r => r.1 = .exit 0 ∧ (∃ n, r.2.1 5 = .int .i64 n) ∧ r.2.2 = H) (Ret.upTo (n := l.length) (fun i t => t.1 0 = ls ∧ t.1 1 = .int .i64 most ∧ (∃ n, t.1 5 = .int .i64 n) ∧ t.1 6 = .int .i64 (i : Nat) ∧ t.2 = H) (by unfold big; omega) ⟨?_, ?_, ⟨0, ?_⟩, ?_, rfl⟩ ?_ ?_) ?_
  · simp -implicitDefEqProofs only [go_sem, Nat.reduceEqDiff, Nat.reduceBEq, reduceCtorEq]
  · simp -implicitDefEqProofs only [go_sem, Nat.reduceEqDiff, Nat.reduceBEq, reduceCtorEq]
  · simp -implicitDefEqProofs only [go_sem, Nat.reduceEqDiff, Nat.reduceBEq, reduceCtorEq]
  · simp -implicitDefEqProofs only [go_sem, Nat.reduceEqDiff, Nat.reduceBEq, reduceCtorEq]
    rfl
  · rintro i ⟨T1, H2⟩ hi ⟨t0, t1, ⟨n, t5⟩, t6, hH⟩
    simp only at t0 t1 t5 t6 hH
    subst hH
    have hcmp : decide (((i : Nat) : Int) < ((l.length : Nat) : Int)) = true := decide_eq_true (by omega)
    obtain ⟨b, o, c, q1, q2, ⟨s, _, q4, q3⟩, _⟩ := codes_at hl (n := ((i : Nat) : Int)) (by omega) (by omega)
    have hia := q4.alen
    unfold F26_L0
    by_cases hle : n ≤ most
    · rw [Nat.add_zero] at q3
      simp -implicitDefEqProofs only [go_sem, Nat.reduceAdd, Nat.reduceMul, Nat.reduceLT, Nat.reduceLeDiff, Nat.reduceEqDiff, Nat.reduceBEq, reduceCtorEq, Int.reduceLT, Int.reduceLE, Int.reduceEq, Int.reduceGT, Int.reduceGE, Int.reduceToNat, Int.reduceNeg, t0, t1, t5, t6, hal, hcmp, decide_eq_true hle, q2, q3, hia, wrapS (i := i) (by omega)]
      refine .mk (.inl ⟨rfl, ?_, ?_, ?_, ?_, rfl⟩)
      · simp -implicitDefEqProofs only [go_sem, Nat.reduceEqDiff, Nat.reduceBEq, reduceCtorEq, t0]
      · simp -implicitDefEqProofs only [go_sem, Nat.reduceEqDiff, Nat.reduceBEq, reduceCtorEq, t1]
      · simp -implicitDefEqProofs only [go_sem, Nat.reduceEqDiff, Nat.reduceBEq, reduceCtorEq]
        exact ⟨_, rfl⟩
      · simp -implicitDefEqProofs only [go_sem, Nat.reduceEqDiff, Nat.reduceBEq, reduceCtorEq]
    · simp -implicitDefEqProofs only [go_sem, Nat.reduceAdd, Nat.reduceMul, Nat.reduceLT, Nat.reduceLeDiff, Nat.reduceEqDiff, Nat.reduceBEq, reduceCtorEq, Int.reduceLT, Int.reduceLE, Int.reduceEq, Int.reduceGT, Int.reduceGE, Int.reduceToNat, Int.reduceNeg, t0, t1, t5, t6, hal, hcmp, decide_eq_false hle]
      refine .mk (.inr ⟨by simp, rfl, ⟨n, ?_⟩, rfl⟩)
      simp -implicitDefEqProofs only [go_sem, Nat.reduceAdd, Nat.reduceMul, Nat.reduceLT, Nat.reduceLeDiff, Nat.reduceEqDiff, Nat.reduceBEq, reduceCtorEq, Int.reduceLT, Int.reduceLE, Int.reduceEq, Int.reduceGT, Int.reduceGE, Int.reduceToNat, Int.reduceNeg, t5]
  · rintro ⟨T1, H2⟩ ⟨t0, t1, ⟨n, t5⟩, t6, hH⟩
    simp only at t0 t1 t5 t6 hH
    have hcmp : decide (((l.length : Nat) : Int) < ((l.length : Nat) : Int)) = false := decide_eq_false (by omega)
    unfold F26_L0
    simp -implicitDefEqProofs only [go_sem, Nat.reduceAdd, Nat.reduceMul, Nat.reduceLT, Nat.reduceLeDiff, Nat.reduceEqDiff, Nat.reduceBEq, reduceCtorEq, Int.reduceLT, Int.reduceLE, Int.reduceEq, Int.reduceGT, Int.reduceGE, Int.reduceToNat, Int.reduceNeg, t0, t6, hal, hcmp]
    refine .mk ⟨by simp, rfl, ⟨n, ?_⟩, hH⟩
    simp -implicitDefEqProofs only [go_sem, Nat.reduceAdd, Nat.reduceMul, Nat.reduceLT, Nat.reduceLeDiff, Nat.reduceEqDiff, Nat.reduceBEq, reduceCtorEq, Int.reduceLT, Int.reduceLE, Int.reduceEq, Int.reduceGT, Int.reduceGE, Int.reduceToNat, Int.reduceNeg, t5]
  · rintro ⟨e, T1, H2⟩ ⟨rfl, ⟨n, t5⟩, hH⟩
    simp only at t5 hH
    simp -implicitDefEqProofs only [go_sem, Nat.reduceAdd, Nat.reduceMul, Nat.reduceLT, Nat.reduceLeDiff, Nat.reduceEqDiff, Nat.reduceBEq, reduceCtorEq, Int.reduceLT, Int.reduceLE, Int.reduceEq, Int.reduceGT, Int.reduceGE, Int.reduceToNat, Int.reduceNeg, t5]
    exact .mk ⟨⟨n, rfl⟩, hH⟩
end Go.Proofs.YthiflgncldmkjaaDoor
set_option linter.unusedVariables false
set_option linter.unusedSimpArgs false
set_option maxRecDepth 100000
namespace Go.Ri
theorem Ext.res {N : Nat} {H0 H : AH} (h : Ext N H0 H) (n : Nat) : Ext N H0 (H.res n) := ⟨h.low, Nat.le_trans h.next (by simp), fun b B hB => Nat.lt_of_lt_of_le (h.wf b B hB) (by simp)⟩
end Go.Ri
namespace Go.Proofs.YthiflgncldmkjaaDoor
open Go.Ri

theorem may_call {l : List Code} {c : Code} {i : Ins} (hm : mayI l c i = true) (e : i.op = 19) : 0 ≤ i.n ∧ i.n < (l.length : Nat) ∧ 0 ≤ i.m ∧ i.m ≤ 8 ∧ i.m = paramsAt l i.n := by
  unfold mayI at hm
  split at hm
  · cases hm
  · simp [e] at hm
    omega
theorem paramsAt_more (l : List Code) (x : List Code) {n : Int} (h : n.toNat < l.length) : paramsAt (l ++ x) n = paramsAt l n ∧ answersAt (l ++ x) n = answersAt l n := by
  simp [paramsAt, answersAt, List.getElem?_append_left h]
theorem mayI_call {l : List Code} {c : Code} {i : Ins} (e : i.op = 19) : mayI l c i = if (lineOf i.op i.n i.m).isNone = true then false else decide (0 ≤ i.n) && decide (i.n < (l.length : Nat)) && decide (0 ≤ i.m) && decide (i.m ≤ 8) && decide (i.m = paramsAt l i.n) := by
  unfold mayI
  rw [if_neg (show ¬ (i.op = 2 ∨ i.op = 3) by omega), if_neg (show ¬ (i.op = 4 ∨ i.op = 5 ∨ i.op = 6) by omega), if_neg (show ¬ (i.op = 17 ∨ i.op = 18) by omega), if_pos e]
theorem mayI_more {l : List Code} {c : Code} {i : Ins} (hm : mayI l c i = true) (x : List Code) : mayI (l ++ x) c i = true := by
  by_cases e : i.op = 19
  · obtain ⟨h1, h2, h3, h4, h5⟩ := may_call hm e
    have hp := (paramsAt_more l x (n := i.n) (by omega)).1
    rw [mayI_call e] at hm ⊢
    split at hm
    · cases hm
    · rename_i h
      rw [if_neg h, hp]
      simp only [Bool.and_eq_true, decide_eq_true_eq, List.length_append]
      refine ⟨⟨⟨⟨h1, by omega⟩, h3⟩, h4⟩, h5⟩
  · unfold mayI at hm ⊢
    rw [if_neg e] at hm ⊢
    exact hm
theorem Good.more {l : List Code} {c : Code} {h : List Int} (g : Good l c h) (hmay : ∀ i ∈ c.ins, mayI l c i = true) (x : List Code) : Good (l ++ x) c h := by
  refine ⟨g.len, g.zero, fun a i y hi hy h0 => ?_, g.reach⟩
  have hm := hmay i (List.mem_of_getElem? hi)
  have htk : tk (l ++ x) i = tk l i := rfl
  have hlv : lv (l ++ x) i = lv l i := by
    unfold lv
    by_cases e : i.op = 19
    · obtain ⟨h1, h2, _⟩ := may_call hm e
      rw [if_pos e, if_pos e, (paramsAt_more l x (n := i.n) (by omega)).2]
    · rw [if_neg e, if_neg e]
  obtain ⟨h1, h2⟩ := g.step a i y hi hy h0
  exact ⟨h1, fun p hp => by rw [htk, hlv]; exact h2 p hp⟩
theorem Hts.more {l : List Code} {k : Int} {h : List Int} (g : Hts l k h) (x : List Code) : Hts (l ++ x) k h := by
  obtain ⟨c, h0, h1, h2, h3⟩ := g
  refine ⟨c, h0, ?_, ⟨h2.some_, h2.few, h2.cells, h2.params, fun i hi => mayI_more (h2.may i hi) x⟩, h3.more h2.may x⟩
  rw [List.getElem?_append_left (List.getElem?_eq_some_iff.1 h1).1]
  exact h1
theorem SoundP.more {l : List Code} {main : Int} (h : SoundP l main) (c : Code) (hl : (l ++ [c]).length ≤ 40) : SoundP (l ++ [c]) main ↔ ∃ g, Hts (l ++ [c]) ((l.length : Nat) : Int) g := by
  obtain ⟨h1, h2, h3, h4, h5, h6, h7⟩ := h
  constructor
  · intro hs
    exact hs.2.2.2.2.2.2 l.length (by simp)
  · intro hg
    have hm := paramsAt_more l [c] (n := main) (by omega)
    refine ⟨by simp, hl, h3, by simp; omega, by rw [hm.1, h5], by rw [hm.2, h6], fun k hk => ?_⟩
    by_cases hkl : k < l.length
    · obtain ⟨g, hg'⟩ := h7 k hkl
      exact ⟨g, hg'.more [c]⟩
    · have : k = l.length := by simp at hk; omega
      subst this
      exact hg

end Go.Proofs.YthiflgncldmkjaaDoor
set_option linter.unusedVariables false
set_option linter.unusedSimpArgs false
set_option maxRecDepth 100000
namespace Go.Ri
theorem Own.blk {N sz : Nat} {e : TypeId} {H : AH} {s : AV} {cs : List AV} (h : Own N sz e H s cs) (hw : H.wf) (hne : 0 < cs.length) :
    ∃ b B n, At s b ∧ N ≤ b ∧ b < H.next ∧ H.m b = some B ∧ B.rw_ = true ∧ cs.length = n * sz ∧ n * sz ≤ B.cells.length ∧ B.cells.take (n * sz) = cs ∧ (∀ k (i : Nat), i < n → idxSl s (.int k (i : Nat)) sz = some (.ptr (some (b, i * sz)))) ∧
      ∀ B' : Blk, B'.elem = B.elem → B'.rw_ = true → B'.cells.length = B.cells.length → Own N sz e (H.put b B') s (B'.cells.take (n * sz)) := by
  rcases h with ⟨_, rfl⟩ | ⟨b, n, c, B, rfl, hc, hcl, hb, hbe, hbr, hbl, htk, hN⟩
  · simp at hne
  · refine ⟨b, B, n, ⟨_, _, rfl⟩, hN, hw _ _ hb, hb, hbr, hcl, hbl, htk, fun k i hi => ?_, fun B' h1 h2 h3 => ?_⟩
    · simp [idxSl]; omega
    · refine .inr ⟨b, n, c, B', rfl, ?_, by rw [List.length_take]; omega, by simp, h1.trans hbe, h2, by omega, rfl, hN⟩
      rcases hc with h | ⟨m, q1, q2, q3⟩
      · exact .inl h
      · exact .inr ⟨m, q1, q2, by omega⟩
end Go.Ri
namespace Go.Proofs.YthiflgncldmkjaaDoor
open Go.Ri

end Go.Proofs.YthiflgncldmkjaaDoor
set_option linter.unusedVariables false
set_option linter.unusedSimpArgs false
set_option maxRecDepth 100000
namespace Go.Ri
theorem new_put1 (H : AH) (a cs cs' : List AV) (ea e e' : TypeId) : ((H.new a ea).new cs e).put (H.next + 1) ⟨cs', e', true⟩ = (H.new a ea).new cs' e' := new_put (H.new a ea) cs cs' e e'
end Go.Ri
namespace Go.Proofs.YthiflgncldmkjaaDoor
open Go.Ri

theorem cells_spec (d : Nat) {H : AH} {s : AV} {c : Code} (hc : InI c.cells) {n m : Int} (hn : InI n) (hm : InI m) :
    RT (d + 1) 119 [.agg [s, .int .i64 c.cells, .int .i64 c.params, .bool c.answers], .int .i64 n, .int .i64 m] H = some (.bool (within c n m), H.new [s, .int .i64 c.cells, .int .i64 c.params, .bool c.answers] 24) := by
  rw [R119]
  unfold F119
  by_cases h1 : n ≥ 0
  · by_cases h2 : m ≥ 1
    · by_cases h3 : m ≤ c.cells
      · have hw : IntKind.i64.wrap (c.cells - m) = c.cells - m := wrap_id (by unfold InI at *; omega)
        simp -implicitDefEqProofs only [go_sem, Nat.reduceAdd, Nat.reduceMul, Nat.reduceLT, Nat.reduceLeDiff, Nat.reduceEqDiff, Nat.reduceBEq, reduceCtorEq, Int.reduceLT, Int.reduceLE, Int.reduceEq, Int.reduceGT, Int.reduceGE, Int.reduceToNat, Int.reduceNeg, decide_eq_true h1, decide_eq_true h2, decide_eq_true h3, hw]
        have e : within c n m = decide (n ≤ c.cells - m) := by
          unfold within
          by_cases q : n ≤ c.cells - m
          · rw [decide_eq_true (show 0 ≤ n from h1), decide_eq_true (show 1 ≤ m from h2), decide_eq_true (show n ≤ c.cells by omega), decide_eq_true (show m ≤ c.cells - n by omega), decide_eq_true q]; rfl
          · rw [decide_eq_false q, decide_eq_false (show ¬ (m ≤ c.cells - n) by omega)]; simp
        rw [e]
      · simp -implicitDefEqProofs only [go_sem, Nat.reduceAdd, Nat.reduceMul, Nat.reduceLT, Nat.reduceLeDiff, Nat.reduceEqDiff, Nat.reduceBEq, reduceCtorEq, Int.reduceLT, Int.reduceLE, Int.reduceEq, Int.reduceGT, Int.reduceGE, Int.reduceToNat, Int.reduceNeg, decide_eq_true h1, decide_eq_true h2, decide_eq_false h3]
        have e : within c n m = false := by
          unfold within
          rw [decide_eq_false (show ¬ (m ≤ c.cells - n) by omega)]; simp
        rw [e]
    · simp -implicitDefEqProofs only [go_sem, Nat.reduceAdd, Nat.reduceMul, Nat.reduceLT, Nat.reduceLeDiff, Nat.reduceEqDiff, Nat.reduceBEq, reduceCtorEq, Int.reduceLT, Int.reduceLE, Int.reduceEq, Int.reduceGT, Int.reduceGE, Int.reduceToNat, Int.reduceNeg, decide_eq_true h1, decide_eq_false h2]
      have : ¬ (1 ≤ m) := h2
      simp [within, this]
  · simp -implicitDefEqProofs only [go_sem, Nat.reduceAdd, Nat.reduceMul, Nat.reduceLT, Nat.reduceLeDiff, Nat.reduceEqDiff, Nat.reduceBEq, reduceCtorEq, Int.reduceLT, Int.reduceLE, Int.reduceEq, Int.reduceGT, Int.reduceGE, Int.reduceToNat, Int.reduceNeg, decide_eq_false h1]
    have : ¬ (0 ≤ n) := h1
    simp [within, this]

theorem may_ref (d : Nat) {H : AH} (hw : H.wf) (hT : Tabs H) {ls s : AV} {l : List Code} {c : Code} (hcs : CodesRow H ls l) (hins : InsRow H s c.ins) (hcc : InI c.cells) {i : Ins} (hi : i.Ok) :
    Ret (RT (d + 2) 96 [ls, .agg [s, .int .i64 c.cells, .int .i64 c.params, .bool c.answers], .agg (insC i)] H) fun r => r.1 = .bool (mayI l c i) ∧ Ext H.next H r.2 := by
  rw [R96]
  unfold F96
  have hin : insC i = [.int .i64 i.op, .int .i64 i.n, .int .i64 i.m] := rfl
  have hx : Ext H.next H ((H.new [s, .int .i64 c.cells, .int .i64 c.params, .bool c.answers] 24).new (insC i) 29) := ((Ext.refl hw).new _ _).new _ _
  have hT1 := hT.ext hx hT.two
  have hcs1 := hcs.mono (hx.sub hw)
  have hins1 : InsRow _ s c.ins := ⟨hins.1.mono (hx.sub hw), hins.2⟩
  have hx2 := hx.new [s, .int .i64 c.cells, .int .i64 c.params, .bool c.answers] 24
  rw [hin] at hx hx2 hT1 hcs1 hins1 ⊢
  obtain ⟨op, n, m⟩ := i
  obtain ⟨ho, hn, hm⟩ := hi
  simp only at ho hn hm hx hx2 hT1 hcs1 hins1 ⊢
  have h63 := RT_63 (d + 1) (op := op) hn hm hT1
  have hal := hins1.alen
  have hcl := hcs1.alen
  rcases lineAV_of (i := ⟨op, n, m⟩) with ⟨hl, hv⟩ | ⟨t, hl, hv⟩
  · simp only at hl hv
    simp -implicitDefEqProofs only [go_sem, Nat.reduceAdd, Nat.reduceMul, Nat.reduceLT, Nat.reduceLeDiff, Nat.reduceEqDiff, Nat.reduceBEq, reduceCtorEq, Int.reduceLT, Int.reduceLE, Int.reduceEq, Int.reduceGT, Int.reduceGE, Int.reduceToNat, Int.reduceNeg, h63, hv]
    exact .mk ⟨by simp [mayI, hl], hx⟩
  · simp only at hl hv
    simp -implicitDefEqProofs only [go_sem, Nat.reduceAdd, Nat.reduceMul, Nat.reduceLT, Nat.reduceLeDiff, Nat.reduceEqDiff, Nat.reduceBEq, reduceCtorEq, Int.reduceLT, Int.reduceLE, Int.reduceEq, Int.reduceGT, Int.reduceGE, Int.reduceToNat, Int.reduceNeg, h63, hv]
    have hwn := fun (a b : Int) (ha : InI a) (hb : InI b) => cells_spec d (H := (H.new [s, .int .i64 c.cells, .int .i64 c.params, .bool c.answers] 24).new [.int .i64 op, .int .i64 n, .int .i64 m] 29) (s := s) hcc ha hb
    have hns : (lineOf op n m).isNone = false := by rw [hl]; rfl
    by_cases e2 : op = 2
    · subst e2
      simp -implicitDefEqProofs only [go_sem, Nat.reduceAdd, Nat.reduceMul, Nat.reduceLT, Nat.reduceLeDiff, Nat.reduceEqDiff, Nat.reduceBEq, reduceCtorEq, Int.reduceLT, Int.reduceLE, Int.reduceEq, Int.reduceGT, Int.reduceGE, Int.reduceToNat, Int.reduceNeg, F96_J3, hwn n 1 hn (by unfold InI; omega)]
      exact .mk ⟨by simp [mayI, hns], hx2⟩
    by_cases e3 : op = 3
    · subst e3
      simp -implicitDefEqProofs only [go_sem, Nat.reduceAdd, Nat.reduceMul, Nat.reduceLT, Nat.reduceLeDiff, Nat.reduceEqDiff, Nat.reduceBEq, reduceCtorEq, Int.reduceLT, Int.reduceLE, Int.reduceEq, Int.reduceGT, Int.reduceGE, Int.reduceToNat, Int.reduceNeg, F96_J3, hwn n 1 hn (by unfold InI; omega)]
      exact .mk ⟨by simp [mayI, hns], hx2⟩
    have hfin : (op = 4 ∨ op = 5 ∨ op = 6) → mayI l c ⟨op, n, m⟩ = (decide (m ≤ 64) && within c n m) := fun h => by
      rcases h with rfl | rfl | rfl <;> simp [mayI, hns]
    by_cases e4 : op = 4 ∨ op = 5 ∨ op = 6
    · have hf := hfin e4
      have hwn' := hwn n m hn hm
      cases hwb : within c n m
      · rw [hwb] at hwn'
        rcases e4 with rfl | rfl | rfl <;> simp -implicitDefEqProofs only [go_sem, Nat.reduceAdd, Nat.reduceMul, Nat.reduceLT, Nat.reduceLeDiff, Nat.reduceEqDiff, Nat.reduceBEq, reduceCtorEq, Int.reduceLT, Int.reduceLE, Int.reduceEq, Int.reduceGT, Int.reduceGE, Int.reduceToNat, Int.reduceNeg, F96_J3, F96_J2, hwn'] <;> exact .mk ⟨by rw [hf, hwb]; simp, hx2⟩
      · rw [hwb] at hwn'
        rcases e4 with rfl | rfl | rfl <;> simp -implicitDefEqProofs only [go_sem, Nat.reduceAdd, Nat.reduceMul, Nat.reduceLT, Nat.reduceLeDiff, Nat.reduceEqDiff, Nat.reduceBEq, reduceCtorEq, Int.reduceLT, Int.reduceLE, Int.reduceEq, Int.reduceGT, Int.reduceGE, Int.reduceToNat, Int.reduceNeg, F96_J3, F96_J2, hwn'] <;> exact .mk ⟨by rw [hf, hwb]; simp, hx2⟩
    have n4 : op ≠ 4 := fun h => e4 (.inl h)
    have n5 : op ≠ 5 := fun h => e4 (.inr (.inl h))
    have n6 : op ≠ 6 := fun h => e4 (.inr (.inr h))
    by_cases e17 : op = 17 ∨ op = 18
    · have hf : mayI l c ⟨op, n, m⟩ = (decide (0 ≤ n) && decide (n < (c.ins.length : Nat))) := by
        rcases e17 with rfl | rfl <;> simp [mayI, hns]
      by_cases h0 : n ≥ 0
      · rcases e17 with rfl | rfl <;> simp -implicitDefEqProofs only [go_sem, Nat.reduceAdd, Nat.reduceMul, Nat.reduceLT, Nat.reduceLeDiff, Nat.reduceEqDiff, Nat.reduceBEq, reduceCtorEq, Int.reduceLT, Int.reduceLE, Int.reduceEq, Int.reduceGT, Int.reduceGE, Int.reduceToNat, Int.reduceNeg, F96_J3, F96_J2, F96_J1, decide_eq_true h0, hal] <;> exact .mk ⟨by rw [hf]; simp [h0], hx⟩
      · have h0' : ¬ (0 ≤ n) := h0
        rcases e17 with rfl | rfl <;> simp -implicitDefEqProofs only [go_sem, Nat.reduceAdd, Nat.reduceMul, Nat.reduceLT, Nat.reduceLeDiff, Nat.reduceEqDiff, Nat.reduceBEq, reduceCtorEq, Int.reduceLT, Int.reduceLE, Int.reduceEq, Int.reduceGT, Int.reduceGE, Int.reduceToNat, Int.reduceNeg, F96_J3, F96_J2, F96_J1, decide_eq_false h0] <;> exact .mk ⟨by rw [hf]; simp [h0'], hx⟩
    have n17 : op ≠ 17 := fun h => e17 (.inl h)
    have n18 : op ≠ 18 := fun h => e17 (.inr h)
    by_cases e19 : op = 19
    · subst e19
      have hf : mayI l c ⟨19, n, m⟩ = (decide (0 ≤ n) && decide (n < (l.length : Nat)) && decide (0 ≤ m) && decide (m ≤ 8) && decide (m = paramsAt l n)) := by simp [mayI, hns]
      by_cases h0 : n < 0
      · simp -implicitDefEqProofs only [go_sem, Nat.reduceAdd, Nat.reduceMul, Nat.reduceLT, Nat.reduceLeDiff, Nat.reduceEqDiff, Nat.reduceBEq, reduceCtorEq, Int.reduceLT, Int.reduceLE, Int.reduceEq, Int.reduceGT, Int.reduceGE, Int.reduceToNat, Int.reduceNeg, F96_J3, F96_J2, F96_J1, decide_eq_true h0]
        have h0' : ¬ (0 ≤ n) := by omega
        exact .mk ⟨by rw [hf]; simp [h0'], hx⟩
      by_cases h1 : n ≥ ((l.length : Nat) : Int)
      · simp -implicitDefEqProofs only [go_sem, Nat.reduceAdd, Nat.reduceMul, Nat.reduceLT, Nat.reduceLeDiff, Nat.reduceEqDiff, Nat.reduceBEq, reduceCtorEq, Int.reduceLT, Int.reduceLE, Int.reduceEq, Int.reduceGT, Int.reduceGE, Int.reduceToNat, Int.reduceNeg, F96_J3, F96_J2, F96_J1, decide_eq_false h0, hcl, decide_eq_true h1]
        have h1' : ¬ (n < (l.length : Nat)) := by omega
        exact .mk ⟨by rw [hf]; simp [h1'], hx⟩
      obtain ⟨b, o, c', q1, q2, q3, q4, q5, _⟩ := codes_at hcs1 (n := n) (by omega) (by omega)
      have hp : paramsAt l n = c'.params := by simp [paramsAt, q1]
      have k0 : decide (0 ≤ n) = true := decide_eq_true (by omega)
      have k1 : decide (n < ((l.length : Nat) : Int)) = true := decide_eq_true (by omega)
      by_cases h2 : c'.params = m
      · by_cases h3 : c'.params ≥ 0
        · simp -implicitDefEqProofs only [go_sem, Nat.reduceAdd, Nat.reduceMul, Nat.reduceLT, Nat.reduceLeDiff, Nat.reduceEqDiff, Nat.reduceBEq, reduceCtorEq, Int.reduceLT, Int.reduceLE, Int.reduceEq, Int.reduceGT, Int.reduceGE, Int.reduceToNat, Int.reduceNeg, F96_J3, F96_J2, F96_J1, decide_eq_false h0, hcl, decide_eq_false h1, q2, q5, decide_eq_true h2, decide_eq_true h3]
          refine .mk ⟨?_, hx⟩
          rw [hf, hp, k0, k1, decide_eq_true h2.symm, decide_eq_true (show 0 ≤ m by omega), h2]
          simp
        · simp -implicitDefEqProofs only [go_sem, Nat.reduceAdd, Nat.reduceMul, Nat.reduceLT, Nat.reduceLeDiff, Nat.reduceEqDiff, Nat.reduceBEq, reduceCtorEq, Int.reduceLT, Int.reduceLE, Int.reduceEq, Int.reduceGT, Int.reduceGE, Int.reduceToNat, Int.reduceNeg, F96_J3, F96_J2, F96_J1, decide_eq_false h0, hcl, decide_eq_false h1, q2, q5, decide_eq_true h2, decide_eq_false h3]
          refine .mk ⟨?_, hx⟩
          rw [hf, hp, k0, k1, decide_eq_false (show ¬ (0 ≤ m) by omega)]
          simp
      · simp -implicitDefEqProofs only [go_sem, Nat.reduceAdd, Nat.reduceMul, Nat.reduceLT, Nat.reduceLeDiff, Nat.reduceEqDiff, Nat.reduceBEq, reduceCtorEq, Int.reduceLT, Int.reduceLE, Int.reduceEq, Int.reduceGT, Int.reduceGE, Int.reduceToNat, Int.reduceNeg, F96_J3, F96_J2, F96_J1, decide_eq_false h0, hcl, decide_eq_false h1, q2, q5, decide_eq_false h2]
        refine .mk ⟨?_, hx⟩
        rw [hf, hp, k0, k1, decide_eq_false (fun h => h2 h.symm : ¬ (m = c'.params))]
        simp
    by_cases e20 : op = 20
    · subst e20
      have hf : mayI l c ⟨20, n, m⟩ = decide (n = if c.answers = true then 1 else 0) := by simp [mayI, hns]
      cases hans : c.answers
      · simp -implicitDefEqProofs only [go_sem, Nat.reduceAdd, Nat.reduceMul, Nat.reduceLT, Nat.reduceLeDiff, Nat.reduceEqDiff, Nat.reduceBEq, reduceCtorEq, Int.reduceLT, Int.reduceLE, Int.reduceEq, Int.reduceGT, Int.reduceGE, Int.reduceToNat, Int.reduceNeg, F96_J3, F96_J2, F96_J1, F96_J0, hans]
        rw [hans] at hx
        exact .mk ⟨by rw [hf]; simp [hans], hx⟩
      · simp -implicitDefEqProofs only [go_sem, Nat.reduceAdd, Nat.reduceMul, Nat.reduceLT, Nat.reduceLeDiff, Nat.reduceEqDiff, Nat.reduceBEq, reduceCtorEq, Int.reduceLT, Int.reduceLE, Int.reduceEq, Int.reduceGT, Int.reduceGE, Int.reduceToNat, Int.reduceNeg, F96_J3, F96_J2, F96_J1, F96_J0, hans]
        rw [hans] at hx
        exact .mk ⟨by rw [hf]; simp [hans], hx⟩
    by_cases e24 : op = 24
    · subst e24
      have hf : mayI l c ⟨24, n, m⟩ = (decide (0 ≤ n) && decide (1 ≤ m) && decide (m ≤ 3)) := by simp [mayI, hns]
      by_cases h0 : n ≥ 0
      · by_cases h1 : m ≥ 1
        · simp -implicitDefEqProofs only [go_sem, Nat.reduceAdd, Nat.reduceMul, Nat.reduceLT, Nat.reduceLeDiff, Nat.reduceEqDiff, Nat.reduceBEq, reduceCtorEq, Int.reduceLT, Int.reduceLE, Int.reduceEq, Int.reduceGT, Int.reduceGE, Int.reduceToNat, Int.reduceNeg, F96_J3, F96_J2, F96_J1, decide_eq_true h0, decide_eq_true h1]
          exact .mk ⟨by rw [hf]; simp [h0, h1], hx⟩
        · simp -implicitDefEqProofs only [go_sem, Nat.reduceAdd, Nat.reduceMul, Nat.reduceLT, Nat.reduceLeDiff, Nat.reduceEqDiff, Nat.reduceBEq, reduceCtorEq, Int.reduceLT, Int.reduceLE, Int.reduceEq, Int.reduceGT, Int.reduceGE, Int.reduceToNat, Int.reduceNeg, F96_J3, F96_J2, F96_J1, decide_eq_true h0, decide_eq_false h1]
          have h1' : ¬ (1 ≤ m) := h1
          exact .mk ⟨by rw [hf]; simp [h1'], hx⟩
      · simp -implicitDefEqProofs only [go_sem, Nat.reduceAdd, Nat.reduceMul, Nat.reduceLT, Nat.reduceLeDiff, Nat.reduceEqDiff, Nat.reduceBEq, reduceCtorEq, Int.reduceLT, Int.reduceLE, Int.reduceEq, Int.reduceGT, Int.reduceGE, Int.reduceToNat, Int.reduceNeg, F96_J3, F96_J2, F96_J1, decide_eq_false h0]
        have h0' : ¬ (0 ≤ n) := h0
        exact .mk ⟨by rw [hf]; simp [h0'], hx⟩
    simp -implicitDefEqProofs only [go_sem, Nat.reduceAdd, Nat.reduceMul, Nat.reduceLT, Nat.reduceLeDiff, Nat.reduceEqDiff, Nat.reduceBEq, reduceCtorEq, Int.reduceLT, Int.reduceLE, Int.reduceEq, Int.reduceGT, Int.reduceGE, Int.reduceToNat, Int.reduceNeg, F96_J3, F96_J2, F96_J1, decide_eq_false e2, decide_eq_false e3, decide_eq_false n4, decide_eq_false n5, decide_eq_false n6, decide_eq_false n17, decide_eq_false n18, decide_eq_false e19, decide_eq_false e20, decide_eq_false e24]
    exact .mk ⟨by simp [mayI, hns, e2, e3, n4, n5, n6, n17, n18, e19, e20, e24], hx⟩

theorem effect_spec (d : Nat) {H : AH} (hw : H.wf) {ls : AV} {l : List Code} {c : Code} (hcs : CodesRow H ls l) {i : Ins} (hm : mayI l c i = true) :
    Ret (RT (d + 1) 71 [ls, .agg (insC i)] H) fun r => r.1 = .tuple [.int .i64 (tk l i), .int .i64 (lv l i)] ∧ Ext H.next H r.2 := by
  rw [R71]
  unfold F71
  have hop := mayI_op hm
  have hin : insC i = [.int .i64 i.op, .int .i64 i.n, .int .i64 i.m] := rfl
  have hr := rowAt_in hop
  have hx : Ext H.next H ((H.new (insC i) 29).new [.str (wordOf i.op), .int .i64 (nums i.op), .int .i64 (takes i.op), .int .i64 (leaves i.op)] 133) := ((Ext.refl hw).new _ _).new _ _
  have hcs1 := hcs.mono (hx.sub hw)
  rw [hin] at hx hcs1 ⊢
  by_cases e20 : i.op = 20
  · simp -implicitDefEqProofs only [go_sem, Nat.reduceAdd, Nat.reduceMul, Nat.reduceLT, Nat.reduceLeDiff, Nat.reduceEqDiff, Nat.reduceBEq, reduceCtorEq, Int.reduceLT, Int.reduceLE, Int.reduceEq, Int.reduceGT, Int.reduceGE, Int.reduceToNat, Int.reduceNeg, RT_92, hr, new_put1, decide_eq_true e20]
    exact .mk ⟨by simp [tk, lv, e20], hx⟩
  by_cases e19 : i.op = 19
  · obtain ⟨h1, h2, _⟩ := may_call hm e19
    obtain ⟨b, o, c', q1, q2, q3, q4, q5, q6, _⟩ := codes_at hcs1 h1 h2
    have ha : answersAt l i.n = c'.answers := by simp [answersAt, q1]
    cases hans : c'.answers
    · rw [hans] at q6
      simp -implicitDefEqProofs only [go_sem, Nat.reduceAdd, Nat.reduceMul, Nat.reduceLT, Nat.reduceLeDiff, Nat.reduceEqDiff, Nat.reduceBEq, reduceCtorEq, Int.reduceLT, Int.reduceLE, Int.reduceEq, Int.reduceGT, Int.reduceGE, Int.reduceToNat, Int.reduceNeg, RT_92, hr, new_put1, decide_eq_false e20, decide_eq_true e19, q2, q6]
      exact .mk ⟨by simp [tk, lv, e19, ha, hans], hx⟩
    · rw [hans] at q6
      simp -implicitDefEqProofs only [go_sem, Nat.reduceAdd, Nat.reduceMul, Nat.reduceLT, Nat.reduceLeDiff, Nat.reduceEqDiff, Nat.reduceBEq, reduceCtorEq, Int.reduceLT, Int.reduceLE, Int.reduceEq, Int.reduceGT, Int.reduceGE, Int.reduceToNat, Int.reduceNeg, RT_92, hr, new_put1, decide_eq_false e20, decide_eq_true e19, q2, q6]
      exact .mk ⟨by simp [tk, lv, e19, ha, hans], hx⟩
  · simp -implicitDefEqProofs only [go_sem, Nat.reduceAdd, Nat.reduceMul, Nat.reduceLT, Nat.reduceLeDiff, Nat.reduceEqDiff, Nat.reduceBEq, reduceCtorEq, Int.reduceLT, Int.reduceLE, Int.reduceEq, Int.reduceGT, Int.reduceGE, Int.reduceToNat, Int.reduceNeg, RT_92, hr, new_put1, decide_eq_false e20, decide_eq_false e19]
    exact .mk ⟨by simp [tk, lv, e19, e20], hx⟩
end Go.Proofs.YthiflgncldmkjaaDoor
set_option linter.unusedVariables false
set_option linter.unusedSimpArgs false
set_option maxRecDepth 100000
namespace Go.Proofs.YthiflgncldmkjaaDoor
open Go.Ri

theorem Way.loose {l : List Code} {c : Code} {h : List Int} {w : List Nat} {ex : Nat → Prop} (W : Way l c h w ex) : Way l c h [] (fun _ => True) :=
  ⟨W.len, W.zero, W.known, fun a ha => by simp at ha, fun _ _ _ _ _ _ hne _ => absurd trivial hne⟩
theorem follow_spec (d : Nat) {H : AH} (hw : H.wf) (i : Ins) {a : Nat} (ha : a < 70000) :
    Ret (RT (d + 1) 72 [.agg (insC i), .int .i64 (a : Nat)] H) fun r => Row r.2 r.1 1 ((nextI i a).map fun p => [.int .i64 p]) ∧ Ext H.next H r.2 ∧ ∀ b o n c, r.1 = .slice (some (b, o)) n c → H.next ≤ b ∧ b < r.2.next := by
  rw [R72]
  unfold F72
  have hin : insC i = [.int .i64 i.op, .int .i64 i.n, .int .i64 i.m] := rfl
  have hx : Ext H.next H (H.new (insC i) 29) := (Ext.refl hw).new _ _
  rw [hin] at hx ⊢
  have hwr := wrapS (i := a) (by omega)
  have one : ∀ p : Int, Row (((H.new [.int .i64 i.op, .int .i64 i.n, .int .i64 i.m] 29).new [.int .i64 p] 3)) (.slice (some (H.next + 1, 0)) 1 (.kn 1)) 1 [[.int .i64 p]] := fun p =>
    Own.row (l := [[.int .i64 p]]) (by omega) (Own.made (N := 0) (H := H.new [.int .i64 i.op, .int .i64 i.n, .int .i64 i.m] 29) (n := 1) (Nat.zero_le _) rfl) (by simp)
  by_cases e20 : i.op = 20
  · simp -implicitDefEqProofs only [go_sem, Nat.reduceAdd, Nat.reduceMul, Nat.reduceLT, Nat.reduceLeDiff, Nat.reduceEqDiff, Nat.reduceBEq, reduceCtorEq, Int.reduceLT, Int.reduceLE, Int.reduceEq, Int.reduceGT, Int.reduceGE, Int.reduceToNat, Int.reduceNeg, decide_eq_true e20]
    refine .mk ⟨?_, hx, fun b o n c h => by cases h⟩
    have e17 : ¬ i.op = 17 := by omega
    have e18 : ¬ i.op = 18 := by omega
    simp only [nextI, if_neg e17, if_neg e18, if_pos e20]
    exact Row.nil _ _
  by_cases e17 : i.op = 17
  · simp -implicitDefEqProofs only [go_sem, Nat.reduceAdd, Nat.reduceMul, Nat.reduceLT, Nat.reduceLeDiff, Nat.reduceEqDiff, Nat.reduceBEq, reduceCtorEq, Int.reduceLT, Int.reduceLE, Int.reduceEq, Int.reduceGT, Int.reduceGE, Int.reduceToNat, Int.reduceNeg, decide_eq_false e20, decide_eq_true e17]
    refine .mk ⟨?_, hx.new _ _, fun b o n c h => by cases h; simp⟩
    simp only [nextI, if_pos e17]
    exact one i.n
  by_cases e18 : i.op = 18
  · have h1 : OwnI (H.next + 1) ((H.new [.int .i64 i.op, .int .i64 i.n, .int .i64 i.m] 29).new [.int .i64 ((a + 1 : Nat) : Int)] 3) (.slice (some (H.next + 1, 0)) 1 (.kn 1)) [((a + 1 : Nat) : Int)] := Own.made (n := 1) (by simp) rfl
    obtain ⟨⟨sv, H2⟩, hap, g1, g2, g3, g4, g5⟩ := OwnI.more (x := i.n) (h1.low (Nat.le_succ _)) (hx.new [.int .i64 ((a + 1 : Nat) : Int)] 3) (by simp)
    simp only at g1 g2 g3 g4 g5
    simp only [new_next] at hap g3
    simp -implicitDefEqProofs only [go_sem, Nat.reduceAdd, Nat.reduceMul, Nat.reduceLT, Nat.reduceLeDiff, Nat.reduceEqDiff, Nat.reduceBEq, reduceCtorEq, Int.reduceLT, Int.reduceLE, Int.reduceEq, Int.reduceGT, Int.reduceGE, Int.reduceToNat, Int.reduceNeg, decide_eq_false e20, decide_eq_false e17, decide_eq_true e18, hwr, hap, F72_J0]
    refine .mk ⟨?_, g2, fun b o n c h => ?_⟩
    · simp only [nextI, if_neg e17, if_pos e18]
      exact Own.row (l := [[.int .i64 ((a + 1 : Nat) : Int)], [.int .i64 i.n]]) (by omega) (by simpa [OwnI, intsC] using g1) (by simp)
    · show H.next ≤ b ∧ b < H2.next
      obtain ⟨p, nn, cc, hsh⟩ := g1.shape
      have ho : o = 0 := by
        rcases g1 with ⟨hh, _⟩ | ⟨b', n', c', B', hh, _⟩
        · rw [hh] at h; cases h
        · rw [hh] at h; cases h; rfl
      subst ho
      rcases g5 b ⟨n, c, h⟩ with ⟨_, _, hh⟩ | hh
      · cases hh; exact ⟨by omega, by omega⟩
      · simp only [new_next] at hh; exact ⟨by omega, hh.2⟩
  · simp -implicitDefEqProofs only [go_sem, Nat.reduceAdd, Nat.reduceMul, Nat.reduceLT, Nat.reduceLeDiff, Nat.reduceEqDiff, Nat.reduceBEq, reduceCtorEq, Int.reduceLT, Int.reduceLE, Int.reduceEq, Int.reduceGT, Int.reduceGE, Int.reduceToNat, Int.reduceNeg, decide_eq_false e20, decide_eq_false e17, decide_eq_false e18, hwr, F72_J0]
    refine .mk ⟨?_, hx.new _ _, fun b o n c h => by cases h; simp⟩
    simp only [nextI, if_neg e17, if_neg e18, if_neg e20]
    exact one _

section
variable {Hb : AH} {ls s : AV} {l : List Code} {c : Code}
structure Cr (Hb : AH) (s : AV) (c : Code) (H : AH) : Prop where
  ext : Ext Hb.next Hb H
  blk : H.m Hb.next = some ⟨[s, .int .i64 c.cells, .int .i64 c.params, .bool c.answers], 24, true⟩
theorem Cr.lt {H : AH} (h : Cr Hb s c H) : Hb.next < H.next := h.ext.wf _ _ h.blk

def IP (Hb : AH) (ls s : AV) (l : List Code) (c : Code) (i : Nat) (t : St) : Prop :=
  t.1 0 = ls ∧ t.1 3 = .ptr (some (Hb.next, 0)) ∧ t.1 5 = .int .i64 (c.ins.length : Nat) ∧ t.1 6 = .int .i64 (i : Nat) ∧ Cr Hb s c t.2 ∧ ∀ j, j < i → ∀ x, c.ins[j]? = some x → mayI l c x = true
theorem shape_loop (d : Nat) (B : Base Hb ls s l c) (hlen : c.ins.length ≤ 65536) {T : Tm} {H : AH} (h0 : IP Hb ls s l c 0 (T, H)) :
    Ret (Ri.iter big (F70_L0 (RT (d + 2)) (Ri.iter big)) (T, H)) fun r => Ext Hb.next Hb r.2.2 ∧ ((r.1 = .exit 0 ∧ ∀ i ∈ c.ins, mayI l c i = true) ∨ (r.1 = .ret ∧ r.2.1 4 = .bool false ∧ ¬ ∀ i ∈ c.ins, mayI l c i = true)) := by
  refine Ret.upTo (n := c.ins.length) (IP Hb ls s l c) (by unfold big; omega) h0 ?_ ?_
  · rintro i ⟨T1, H1⟩ hi ⟨t0, t3, t5, t6, hck, hdone⟩
    simp only at t0 t3 t5 t6 hck
    have hcmp : decide (((i : Nat) : Int) < ((c.ins.length : Nat) : Int)) = true := decide_eq_true (by omega)
    have hsub := hck.ext.sub B.wf
    have hins : InsRow H1 s c.ins := ⟨B.ins.1.mono hsub, B.ins.2⟩
    obtain ⟨pb, po, e1, e2, _⟩ := hins.1.at (i := i) (by simpa using hi)
    simp only [List.getElem_map] at e2
    obtain ⟨⟨v, H2⟩, h96, hv, hx2⟩ := may_ref d hck.ext.wf (B.tabs.ext hck.ext B.tabs.two) (B.codes.mono hsub) hins B.cells (hins.2 c.ins[i] (List.getElem_mem _))
    simp only at hv hx2
    subst hv
    have hx3 : Ext Hb.next Hb H2 := hck.ext.trans hx2 hck.ext.next
    have hb2 : H2.m Hb.next = some ⟨[s, .int .i64 c.cells, .int .i64 c.params, .bool c.answers], 24, true⟩ := by rw [hx2.low _ hck.lt]; exact hck.blk
    unfold F70_L0
    cases hmv : mayI l c c.ins[i]
    · rw [hmv] at h96
      simp -implicitDefEqProofs only [go_sem, Nat.reduceAdd, Nat.reduceMul, Nat.reduceLT, Nat.reduceLeDiff, Nat.reduceEqDiff, Nat.reduceBEq, reduceCtorEq, Int.reduceLT, Int.reduceLE, Int.reduceEq, Int.reduceGT, Int.reduceGE, Int.reduceToNat, Int.reduceNeg, t0, t3, t5, t6, hcmp, hck.blk, e1, e2, h96]
      refine .mk (.inr ⟨by simp, hx3, .inr ⟨rfl, ?_, fun h => ?_⟩⟩)
      · simp -implicitDefEqProofs only [go_sem, Nat.reduceEqDiff, Nat.reduceBEq, reduceCtorEq]
      · rw [h _ (List.getElem_mem _)] at hmv
        cases hmv
    · rw [hmv] at h96
      simp -implicitDefEqProofs only [go_sem, Nat.reduceAdd, Nat.reduceMul, Nat.reduceLT, Nat.reduceLeDiff, Nat.reduceEqDiff, Nat.reduceBEq, reduceCtorEq, Int.reduceLT, Int.reduceLE, Int.reduceEq, Int.reduceGT, Int.reduceGE, Int.reduceToNat, Int.reduceNeg, t0, t3, t5, t6, hcmp, hck.blk, e1, e2, h96, wrapS (i := i) (by omega)]
      refine .mk (.inl ⟨rfl, ?_, ?_, ?_, ?_, ⟨hx3, hb2⟩, fun j hj x hx => ?_⟩)
      · simp -implicitDefEqProofs only [go_sem, Nat.reduceEqDiff, Nat.reduceBEq, reduceCtorEq, t0]
      · simp -implicitDefEqProofs only [go_sem, Nat.reduceEqDiff, Nat.reduceBEq, reduceCtorEq, t3]
      · simp -implicitDefEqProofs only [go_sem, Nat.reduceEqDiff, Nat.reduceBEq, reduceCtorEq, t5]
      · simp -implicitDefEqProofs only [go_sem, Nat.reduceEqDiff, Nat.reduceBEq, reduceCtorEq]
      · by_cases hji : j = i
        · subst hji
          rw [List.getElem?_eq_getElem hi] at hx
          cases hx
          exact hmv
        · exact hdone j (by omega) x hx
  · rintro ⟨T1, H1⟩ ⟨t0, t3, t5, t6, hck, hdone⟩
    simp only at t5 t6 hck
    have hcmp : decide (((c.ins.length : Nat) : Int) < ((c.ins.length : Nat) : Int)) = false := decide_eq_false (by omega)
    unfold F70_L0
    simp -implicitDefEqProofs only [go_sem, Nat.reduceAdd, Nat.reduceMul, Nat.reduceLT, Nat.reduceLeDiff, Nat.reduceEqDiff, Nat.reduceBEq, reduceCtorEq, Int.reduceLT, Int.reduceLE, Int.reduceEq, Int.reduceGT, Int.reduceGE, Int.reduceToNat, Int.reduceNeg, t5, t6, hcmp]
    refine .mk ⟨by simp, hck.ext, .inl ⟨rfl, fun i hi => ?_⟩⟩
    obtain ⟨j, hj⟩ := List.mem_iff_getElem?.1 hi
    exact hdone j (List.getElem?_eq_some_iff.1 hj).1 i hj
theorem shape_spec (d : Nat) (B : Base Hb ls s l c) : Ret (RT (d + 3) 70 [ls, .agg [s, .int .i64 c.cells, .int .i64 c.params, .bool c.answers]] Hb) fun r => Ext Hb.next Hb r.2 ∧ ∃ b : Bool, r.1 = .bool b ∧ (b = true ↔ OwnOk l c) := by
  rw [R70]
  unfold F70
  have hal := B.ins.alen
  have hx1 : Ext Hb.next Hb (Hb.new [s, .int .i64 c.cells, .int .i64 c.params, .bool c.answers] 24) := (Ext.refl B.wf).new _ _
  have no : ¬ OwnOk l c → Ret (some (AV.bool false, Hb.new [s, .int .i64 c.cells, .int .i64 c.params, .bool c.answers] 24)) fun r => Ext Hb.next Hb r.2 ∧ ∃ b : Bool, r.1 = .bool b ∧ (b = true ↔ OwnOk l c) :=
    fun h => .mk ⟨hx1, false, rfl, by simp [h]⟩
  by_cases p1 : ((c.ins.length : Nat) : Int) = 0
  · simp -implicitDefEqProofs only [go_sem, Nat.reduceAdd, Nat.reduceMul, Nat.reduceLT, Nat.reduceLeDiff, Nat.reduceEqDiff, Nat.reduceBEq, reduceCtorEq, Int.reduceLT, Int.reduceLE, Int.reduceEq, Int.reduceGT, Int.reduceGE, Int.reduceToNat, Int.reduceNeg, hal, decide_eq_true p1]
    exact no fun h => by have := h.some_; omega
  by_cases p2 : ((c.ins.length : Nat) : Int) > 65536
  · simp -implicitDefEqProofs only [go_sem, Nat.reduceAdd, Nat.reduceMul, Nat.reduceLT, Nat.reduceLeDiff, Nat.reduceEqDiff, Nat.reduceBEq, reduceCtorEq, Int.reduceLT, Int.reduceLE, Int.reduceEq, Int.reduceGT, Int.reduceGE, Int.reduceToNat, Int.reduceNeg, hal, decide_eq_false p1, decide_eq_true p2]
    exact no fun h => by have := h.few; omega
  by_cases p3 : c.cells < 0
  · simp -implicitDefEqProofs only [go_sem, Nat.reduceAdd, Nat.reduceMul, Nat.reduceLT, Nat.reduceLeDiff, Nat.reduceEqDiff, Nat.reduceBEq, reduceCtorEq, Int.reduceLT, Int.reduceLE, Int.reduceEq, Int.reduceGT, Int.reduceGE, Int.reduceToNat, Int.reduceNeg, hal, decide_eq_false p1, decide_eq_false p2, decide_eq_true p3]
    exact no fun h => by have := h.cells; omega
  by_cases p4 : c.cells > 65536
  · simp -implicitDefEqProofs only [go_sem, Nat.reduceAdd, Nat.reduceMul, Nat.reduceLT, Nat.reduceLeDiff, Nat.reduceEqDiff, Nat.reduceBEq, reduceCtorEq, Int.reduceLT, Int.reduceLE, Int.reduceEq, Int.reduceGT, Int.reduceGE, Int.reduceToNat, Int.reduceNeg, hal, decide_eq_false p1, decide_eq_false p2, decide_eq_false p3, decide_eq_true p4]
    exact no fun h => by have := h.cells; omega
  by_cases p5 : c.params < 0
  · simp -implicitDefEqProofs only [go_sem, Nat.reduceAdd, Nat.reduceMul, Nat.reduceLT, Nat.reduceLeDiff, Nat.reduceEqDiff, Nat.reduceBEq, reduceCtorEq, Int.reduceLT, Int.reduceLE, Int.reduceEq, Int.reduceGT, Int.reduceGE, Int.reduceToNat, Int.reduceNeg, hal, decide_eq_false p1, decide_eq_false p2, decide_eq_false p3, decide_eq_false p4, decide_eq_true p5]
    exact no fun h => by have := h.params; omega
  by_cases p6 : c.params > 8
  · simp -implicitDefEqProofs only [go_sem, Nat.reduceAdd, Nat.reduceMul, Nat.reduceLT, Nat.reduceLeDiff, Nat.reduceEqDiff, Nat.reduceBEq, reduceCtorEq, Int.reduceLT, Int.reduceLE, Int.reduceEq, Int.reduceGT, Int.reduceGE, Int.reduceToNat, Int.reduceNeg, hal, decide_eq_false p1, decide_eq_false p2, decide_eq_false p3, decide_eq_false p4, decide_eq_false p5, decide_eq_true p6]
    exact no fun h => by have := h.params; omega
  by_cases p7 : c.params > c.cells
  · simp -implicitDefEqProofs only [go_sem, Nat.reduceAdd, Nat.reduceMul, Nat.reduceLT, Nat.reduceLeDiff, Nat.reduceEqDiff, Nat.reduceBEq, reduceCtorEq, Int.reduceLT, Int.reduceLE, Int.reduceEq, Int.reduceGT, Int.reduceGE, Int.reduceToNat, Int.reduceNeg, hal, decide_eq_false p1, decide_eq_false p2, decide_eq_false p3, decide_eq_false p4, decide_eq_false p5, decide_eq_false p6, decide_eq_true p7]
    exact no fun h => by have := h.params; omega
  simp -implicitDefEqProofs only [go_sem, Nat.reduceAdd, Nat.reduceMul, Nat.reduceLT, Nat.reduceLeDiff, Nat.reduceEqDiff, Nat.reduceBEq, reduceCtorEq, Int.reduceLT, Int.reduceLE, Int.reduceEq, Int.reduceGT, Int.reduceGE, Int.reduceToNat, Int.reduceNeg, hal, decide_eq_false p1, decide_eq_false p2, decide_eq_false p3, decide_eq_false p4, decide_eq_false p5, decide_eq_false p6, decide_eq_false p7]
  refine Ret.then (shape_loop d B (by omega) ⟨?_, ?_, ?_, ?_, ⟨hx1, by simp⟩, fun j hj => absurd hj (Nat.not_lt_zero _)⟩) ?_
  · simp -implicitDefEqProofs only [go_sem, Nat.reduceEqDiff, Nat.reduceBEq, reduceCtorEq]
  · simp -implicitDefEqProofs only [go_sem, Nat.reduceEqDiff, Nat.reduceBEq, reduceCtorEq]
  · simp -implicitDefEqProofs only [go_sem, Nat.reduceEqDiff, Nat.reduceBEq, reduceCtorEq]
  · simp -implicitDefEqProofs only [go_sem, Nat.reduceEqDiff, Nat.reduceBEq, reduceCtorEq]
    rfl
  · rintro ⟨e, T, H1⟩ ⟨hx, ⟨rfl, hall⟩ | ⟨rfl, h4, hno⟩⟩
    · simp only at hx
      simp -implicitDefEqProofs only [go_sem, Nat.reduceAdd, Nat.reduceMul, Nat.reduceLT, Nat.reduceLeDiff, Nat.reduceEqDiff, Nat.reduceBEq, reduceCtorEq, Int.reduceLT, Int.reduceLE, Int.reduceEq, Int.reduceGT, Int.reduceGE, Int.reduceToNat, Int.reduceNeg]
      exact .mk ⟨hx, true, rfl, by simp only [true_iff]; exact ⟨by omega, by omega, by omega, by omega, hall⟩⟩
    · simp only at hx h4
      simp -implicitDefEqProofs only [go_sem, Nat.reduceAdd, Nat.reduceMul, Nat.reduceLT, Nat.reduceLeDiff, Nat.reduceEqDiff, Nat.reduceBEq, reduceCtorEq, Int.reduceLT, Int.reduceLE, Int.reduceEq, Int.reduceGT, Int.reduceGE, Int.reduceToNat, Int.reduceNeg, h4]
      exact .mk ⟨hx, false, rfl, by simp only [Bool.false_eq_true, false_iff]; exact fun h => hno h.may⟩
end
end Go.Proofs.YthiflgncldmkjaaDoor
set_option linter.unusedVariables false
set_option linter.unusedSimpArgs false
set_option maxRecDepth 100000
namespace Go.Proofs.YthiflgncldmkjaaDoor
open Go.Ri

theorem OwnI.blk {N : Nat} {H : AH} {s : AV} {h : List Int} (ho : OwnI N H s h) (hw : H.wf) (hne : 0 < h.length) :
    ∃ b B, At s b ∧ N ≤ b ∧ b < H.next ∧ H.m b = some B ∧ B.rw_ = true ∧ h.length ≤ B.cells.length ∧ (∀ k (i : Nat), i < h.length → idxSl s (.int k (i : Nat)) 1 = some (.ptr (some (b, i)))) ∧
      (∀ (i : Nat) x, h[i]? = some x → B.cells[i]? = some (.int .i64 x)) ∧ ∀ (i : Nat) v, i < h.length → OwnI N (H.put b ⟨B.cells.set i (.int .i64 v), B.elem, true⟩) s (h.set i v) := by
  obtain ⟨b, B, q1, q2, q3, q4, q5, _, _, _, _⟩ := ho.cell hw (i := 0) (by rw [intsC_len]; exact hne)
  have key : ∀ i : Nat, i < h.length → i < B.cells.length ∧ B.cells[i]? = (intsC h)[i]? ∧ (∀ k, idxSl s (.int k (i : Nat)) 1 = some (.ptr (some (b, i)))) ∧ ∀ v, Own N 1 3 (H.put b ⟨B.cells.set i v, B.elem, B.rw_⟩) s ((intsC h).set i v) := fun i hi => by
    obtain ⟨b', B', p1, p2, p3, p4, p5, p6, p7, p8, p9⟩ := ho.cell hw (i := i) (by rw [intsC_len]; exact hi)
    have := p1.one q1
    subst this
    rw [q4] at p4
    cases p4
    exact ⟨p6, p7, p8, p9⟩
  refine ⟨b, B, q1, q2, q3, q4, q5, ?_, fun k i hi => (key i hi).2.2.1 k, fun i x hx => ?_, fun i v hi => ?_⟩
  · have := (key (h.length - 1) (by omega)).1
    omega
  · have hi := (List.getElem?_eq_some_iff.1 hx).1
    rw [(key i hi).2.1, intsC_get, hx]
    rfl
  · have := (key i hi).2.2.2 (.int .i64 v)
    rw [intsC_set, q5] at this
    exact this

section
variable {Hb : AH} {ls s : AV} {l : List Code} {c : Code}
structure J1 (Hb : AH) (ls s : AV) (l : List Code) (c : Code) (i : Ins) (a : Nat) (x : Int) (sv hs : AV) (n0 : Nat) (j : Nat) (t : St) : Prop where
  t0 : t.1 0 = ls
  t6 : t.1 6 = .ptr (some (Hb.next, 0))
  t7 : t.1 7 = hs
  t10 : t.1 10 = .int .i64 (a : Nat)
  t12 : t.1 12 = .int .i64 (tk l i)
  t13 : t.1 13 = .int .i64 (lv l i)
  t14 : t.1 14 = sv
  t15 : t.1 15 = .int .i64 (j : Nat)
  row : Row t.2 sv 1 ((nextI i a).map fun p => [.int .i64 p])
  rest : ∃ (h : List Int) (more : Bool), t.1 9 = .bool more ∧ Cr Hb s c t.2 ∧ OwnI (Hb.next + 1) t.2 hs h ∧ Way l c h [] (fun b => more = true ∨ a ≤ b) ∧ h[a]? = some x ∧ negs h ≤ n0 ∧ (more = true → negs h < n0) ∧
    ∀ j', j' < j → ∀ p, (nextI i a)[j']? = some p → ∃ q : Nat, p = q ∧ h[q]? = some (x - tk l i + lv l i)
def EJ (Hb : AH) (ls s : AV) (l : List Code) (c : Code) (i : Ins) (a : Nat) (x : Int) (sv hs : AV) (n0 : Nat) (r : Ex × St) : Prop :=
  (r.1 = .exit 6 ∧ J1 Hb ls s l c i a x sv hs n0 (nextI i a).length r.2) ∨ (r.1 = .ret ∧ r.2.1 4 = .slice none 0 (.kn 0) ∧ r.2.1 5 = .bool false ∧ Ext Hb.next Hb r.2.2 ∧ ¬ ∃ g, Good l c g)
set_option maxHeartbeats 4000000 in
theorem jloop1 (d : Nat) {i : Ins} (hm : mayI l c i = true) {a : Nat} (hi : c.ins[a]? = some i) {x : Int} (h0x : 0 ≤ x) (ho : okAt l i x) {sv hs : AV} {n0 N1 : Nat}
    (hlen : c.ins.length ≤ 65536) (hsv : ∀ b, AtR sv b → N1 ≤ b) (hhs : ∀ b, At hs b → b < N1) {T : Tm} {H : AH} (h0 : J1 Hb ls s l c i a x sv hs n0 0 (T, H)) :
    Ret (Ri.iter big (F29_L1 (RT d) (Ri.iter big)) (T, H)) (EJ Hb ls s l c i a x sv hs n0) := by
  have hnl : (nextI i a).length ≤ 2 := by
    unfold nextI
    split
    · simp
    · split
      · simp
      · split <;> simp
  have hrg := okAt_range hm ho
  refine Ret.upTo (n := (nextI i a).length) (J1 Hb ls s l c i a x sv hs n0) (by unfold big; omega) h0 ?_ ?_
  · rintro j ⟨T1, H1⟩ hj ⟨t0, t6, t7, t10, t12, t13, t14, t15, row, h, more, t9, hck, hown, W, hax, hn0, hmore, hdone⟩
    simp only at t0 t6 t7 t10 t12 t13 t14 t15 row t9 hck hown
    obtain ⟨pb, po, e1, _, e3⟩ := row.at (i := j) (by simpa using hj)
    have e3 := e3 0 (by omega)
    simp only [List.getElem_map, List.getElem?_cons_zero, Nat.add_zero] at e3
    have hpm : (nextI i a)[j] ∈ nextI i a := List.getElem_mem hj
    have hp0 := next_nat hm hpm
    obtain ⟨q, hq⟩ : ∃ q : Nat, (nextI i a)[j] = q := ⟨_, (Int.toNat_of_nonneg hp0).symm⟩
    have hjq : (nextI i a)[j]? = some ((q : Nat) : Int) := by rw [List.getElem?_eq_getElem hj, hq]
    rw [hq] at e3 hpm
    have hcmp : decide (((j : Nat) : Int) < (((nextI i a).length : Nat) : Int)) = true := decide_eq_true (by omega)
    have hals : aLen Tryd.prog 40 sv = some (.int .i64 ((nextI i a).length : Nat)) := by rw [row.alen ysl40.under, List.length_map]
    have hal : aLen Tryd.prog 40 hs = some (.int .i64 (h.length : Nat)) := by rw [hown.alen ysl40.under, intsC_len]
    have hah : a < h.length := (List.getElem?_eq_some_iff.1 hax).1
    obtain ⟨bh, Bh, ha, hNb, hbn, hBm, hrw, hcl, hidx, hget, hset⟩ := OwnI.blk hown hck.ext.wf (by omega)
    unfold F29_L1
    by_cases hge : ((q : Nat) : Int) ≥ ((h.length : Nat) : Int)
    · simp -implicitDefEqProofs only [go_sem, Nat.reduceAdd, Nat.reduceMul, Nat.reduceLT, Nat.reduceLeDiff, Nat.reduceEqDiff, Nat.reduceBEq, reduceCtorEq, Int.reduceLT, Int.reduceLE, Int.reduceEq, Int.reduceGT, Int.reduceGE, Int.reduceToNat, Int.reduceNeg, t7, t14, t15, hals, hcmp, e1, e3, hal, decide_eq_true hge]
      refine .mk (.inr ⟨by simp, .inr ⟨rfl, ?_, ?_, hck.ext, ?_⟩⟩)
      · simp -implicitDefEqProofs only [go_sem, Nat.reduceEqDiff, Nat.reduceBEq, reduceCtorEq]
      · simp -implicitDefEqProofs only [go_sem, Nat.reduceEqDiff, Nat.reduceBEq, reduceCtorEq]
      · refine W.none hi hax h0x (.inr ⟨_, hpm, fun q' e => ⟨0, .inr ?_⟩⟩)
        have := Int.ofNat_inj.1 e
        omega
    · have hql : q < h.length := by omega
      have hgq : h[q]? = some h[q] := List.getElem?_eq_getElem hql
      have hpos : h[q] = -1 ∨ 0 ≤ h[q] := (W.known q _ hgq).imp id fun h => h.1
      have hbk : ¬ Hb.next = bh := by omega
      have hbk' : ¬ bh = Hb.next := by omega
      by_cases hneg : h[q] < 0
      · have hq1 : h[q] = -1 := by omega
        have hgq' := hgq
        rw [hq1] at hgq'
        have haq : a ≠ q := by
          rintro rfl
          rw [hax] at hgq'
          cases hgq'
          omega
        have hW2 := (W.put hi hax h0x ho hpm hgq').loose
        have hng := negs_set hgq' hrg.2.2.1
        have hown2 := hset q (x - tk l i + lv l i) hql
        have hx2 : Ext Hb.next Hb (H1.put bh ⟨Bh.cells.set q (.int .i64 (x - tk l i + lv l i)), Bh.elem, true⟩) := hck.ext.put (by omega) hbn _
        have hrow2 : Row (H1.put bh ⟨Bh.cells.set q (.int .i64 (x - tk l i + lv l i)), Bh.elem, true⟩) sv 1 ((nextI i a).map fun p => [.int .i64 p]) := row.keep fun b hb => by
          have := hsv b hb
          have := hhs bh ha
          have : ¬ b = bh := by omega
          simp [this]
        obtain ⟨pb', po', e1', _, e3'⟩ := hrow2.at (i := j) (by simpa using hj)
        have e3' := e3' 0 (by omega)
        simp only [List.getElem_map, List.getElem?_cons_zero, Nat.add_zero, hq] at e3'
        have hpp : pb' = pb ∧ po' = po := by
          have := (e1' .i64).symm.trans (e1 .i64)
          simpa using this
        obtain ⟨rfl, rfl⟩ := hpp
        have hcs1 : (Bh.cells.set q (.int .i64 (x - tk l i + lv l i)))[q]? = some (.int .i64 (x - tk l i + lv l i)) := List.getElem?_set_self (by omega)
        have hcs2 : (Bh.cells.set q (.int .i64 (x - tk l i + lv l i)))[a]? = some (.int .i64 x) := by rw [List.getElem?_set_ne (Ne.symm haq)]; exact hget a x hax
        have hqc : q < Bh.cells.length := by omega
        simp -implicitDefEqProofs only [go_sem, Nat.reduceAdd, Nat.reduceMul, Nat.reduceLT, Nat.reduceLeDiff, Nat.reduceEqDiff, Nat.reduceBEq, reduceCtorEq, Int.reduceLT, Int.reduceLE, Int.reduceEq, Int.reduceGT, Int.reduceGE, Int.reduceToNat, Int.reduceNeg, t7, t14, t15, hals, hcmp, e1, e3, hal, decide_eq_false hge, hidx _ _ hql, hBm, hget q _ hgq, decide_eq_true hneg, t10, hidx _ _ hah, hget a x hax, t12, t13, wrapR (x := x - tk l i) (by omega), wrapR (x := x - tk l i + lv l i) (by omega), hrw, hqc, F29_J0, e3', hcs1, hcs2, wrapS (i := j) (by omega)]
        refine .mk (.inl ⟨rfl, ⟨?_, ?_, ?_, ?_, ?_, ?_, ?_, ?_, hrow2, h.set q (x - tk l i + lv l i), true, ?_, ⟨hx2, by simp [hbk, hck.blk]⟩, hown2, ?_, ?_, by omega, fun _ => by omega, ?_⟩⟩)
        · simp -implicitDefEqProofs only [go_sem, Nat.reduceEqDiff, Nat.reduceBEq, reduceCtorEq, t0]
        · simp -implicitDefEqProofs only [go_sem, Nat.reduceEqDiff, Nat.reduceBEq, reduceCtorEq, t6]
        · simp -implicitDefEqProofs only [go_sem, Nat.reduceEqDiff, Nat.reduceBEq, reduceCtorEq, t7]
        · simp -implicitDefEqProofs only [go_sem, Nat.reduceEqDiff, Nat.reduceBEq, reduceCtorEq, t10]
        · simp -implicitDefEqProofs only [go_sem, Nat.reduceEqDiff, Nat.reduceBEq, reduceCtorEq, t12]
        · simp -implicitDefEqProofs only [go_sem, Nat.reduceEqDiff, Nat.reduceBEq, reduceCtorEq, t13]
        · simp -implicitDefEqProofs only [go_sem, Nat.reduceEqDiff, Nat.reduceBEq, reduceCtorEq, t14]
        · simp -implicitDefEqProofs only [go_sem, Nat.reduceEqDiff, Nat.reduceBEq, reduceCtorEq]
        · simp -implicitDefEqProofs only [go_sem, Nat.reduceEqDiff, Nat.reduceBEq, reduceCtorEq]
        · exact ⟨hW2.len, hW2.zero, hW2.known, hW2.wait, fun _ _ _ _ _ _ hne _ => absurd (.inl rfl) hne⟩
        · rw [List.getElem?_set_ne (Ne.symm haq)]
          exact hax
        · intro j' hj' p hp
          by_cases hjj : j' = j
          · subst hjj
            rw [hjq] at hp
            cases hp
            exact ⟨q, rfl, List.getElem?_set_self hql⟩
          · obtain ⟨r, e, hr⟩ := hdone j' (by omega) p hp
            refine ⟨r, e, ?_⟩
            have : q ≠ r := by
              rintro rfl
              rw [hgq'] at hr
              have := Option.some.inj hr
              omega
            rw [List.getElem?_set_ne this]
            exact hr
      · by_cases heq : h[q] = x - tk l i + lv l i
        · simp -implicitDefEqProofs only [go_sem, Nat.reduceAdd, Nat.reduceMul, Nat.reduceLT, Nat.reduceLeDiff, Nat.reduceEqDiff, Nat.reduceBEq, reduceCtorEq, Int.reduceLT, Int.reduceLE, Int.reduceEq, Int.reduceGT, Int.reduceGE, Int.reduceToNat, Int.reduceNeg, t7, t14, t15, hals, hcmp, e1, e3, hal, decide_eq_false hge, hidx _ _ hql, hBm, hget q _ hgq, decide_eq_false hneg, t10, hidx _ _ hah, hget a x hax, t12, t13, wrapR (x := x - tk l i) (by omega), wrapR (x := x - tk l i + lv l i) (by omega), F29_J0, decide_eq_true heq, wrapS (i := j) (by omega)]
          refine .mk (.inl ⟨rfl, ⟨?_, ?_, ?_, ?_, ?_, ?_, ?_, ?_, row, h, more, ?_, hck, hown, W, hax, hn0, hmore, ?_⟩⟩)
          · simp -implicitDefEqProofs only [go_sem, Nat.reduceEqDiff, Nat.reduceBEq, reduceCtorEq, t0]
          · simp -implicitDefEqProofs only [go_sem, Nat.reduceEqDiff, Nat.reduceBEq, reduceCtorEq, t6]
          · simp -implicitDefEqProofs only [go_sem, Nat.reduceEqDiff, Nat.reduceBEq, reduceCtorEq, t7]
          · simp -implicitDefEqProofs only [go_sem, Nat.reduceEqDiff, Nat.reduceBEq, reduceCtorEq, t10]
          · simp -implicitDefEqProofs only [go_sem, Nat.reduceEqDiff, Nat.reduceBEq, reduceCtorEq, t12]
          · simp -implicitDefEqProofs only [go_sem, Nat.reduceEqDiff, Nat.reduceBEq, reduceCtorEq, t13]
          · simp -implicitDefEqProofs only [go_sem, Nat.reduceEqDiff, Nat.reduceBEq, reduceCtorEq, t14]
          · simp -implicitDefEqProofs only [go_sem, Nat.reduceEqDiff, Nat.reduceBEq, reduceCtorEq]
          · simp -implicitDefEqProofs only [go_sem, Nat.reduceEqDiff, Nat.reduceBEq, reduceCtorEq, t9]
          · intro j' hj' p hp
            by_cases hjj : j' = j
            · subst hjj
              rw [hjq] at hp
              cases hp
              exact ⟨q, rfl, by rw [hgq, heq]⟩
            · exact hdone j' (by omega) p hp
        · simp -implicitDefEqProofs only [go_sem, Nat.reduceAdd, Nat.reduceMul, Nat.reduceLT, Nat.reduceLeDiff, Nat.reduceEqDiff, Nat.reduceBEq, reduceCtorEq, Int.reduceLT, Int.reduceLE, Int.reduceEq, Int.reduceGT, Int.reduceGE, Int.reduceToNat, Int.reduceNeg, t7, t14, t15, hals, hcmp, e1, e3, hal, decide_eq_false hge, hidx _ _ hql, hBm, hget q _ hgq, decide_eq_false hneg, t10, hidx _ _ hah, hget a x hax, t12, t13, wrapR (x := x - tk l i) (by omega), wrapR (x := x - tk l i + lv l i) (by omega), F29_J0, decide_eq_false heq]
          refine .mk (.inr ⟨by simp, .inr ⟨rfl, ?_, ?_, hck.ext, ?_⟩⟩)
          · simp -implicitDefEqProofs only [go_sem, Nat.reduceEqDiff, Nat.reduceBEq, reduceCtorEq]
          · simp -implicitDefEqProofs only [go_sem, Nat.reduceEqDiff, Nat.reduceBEq, reduceCtorEq]
          · refine W.none hi hax h0x (.inr ⟨_, hpm, fun q' e => ⟨h[q], .inl ?_⟩⟩)
            have := Int.ofNat_inj.1 e
            subst this
            exact ⟨hgq, by omega, heq⟩
  · rintro ⟨T1, H1⟩ ⟨t0, t6, t7, t10, t12, t13, t14, t15, row, h, more, t9, hck, hown, W, hax, hn0, hmore, hdone⟩
    simp only at t0 t6 t7 t10 t12 t13 t14 t15 row t9 hck hown
    have hcmp : decide ((((nextI i a).length : Nat) : Int) < (((nextI i a).length : Nat) : Int)) = false := decide_eq_false (by omega)
    have hals : aLen Tryd.prog 40 sv = some (.int .i64 ((nextI i a).length : Nat)) := by rw [row.alen ysl40.under, List.length_map]
    unfold F29_L1
    simp -implicitDefEqProofs only [go_sem, Nat.reduceAdd, Nat.reduceMul, Nat.reduceLT, Nat.reduceLeDiff, Nat.reduceEqDiff, Nat.reduceBEq, reduceCtorEq, Int.reduceLT, Int.reduceLE, Int.reduceEq, Int.reduceGT, Int.reduceGE, Int.reduceToNat, Int.reduceNeg, t14, t15, hals, hcmp]
    refine .mk ⟨by simp, .inl ⟨rfl, ⟨?_, ?_, ?_, ?_, ?_, ?_, ?_, ?_, row, h, more, ?_, hck, hown, W, hax, hn0, hmore, hdone⟩⟩⟩
    · simp -implicitDefEqProofs only [go_sem, Nat.reduceEqDiff, Nat.reduceBEq, reduceCtorEq, t0]
    · simp -implicitDefEqProofs only [go_sem, Nat.reduceEqDiff, Nat.reduceBEq, reduceCtorEq, t6]
    · simp -implicitDefEqProofs only [go_sem, Nat.reduceEqDiff, Nat.reduceBEq, reduceCtorEq, t7]
    · simp -implicitDefEqProofs only [go_sem, Nat.reduceEqDiff, Nat.reduceBEq, reduceCtorEq, t10]
    · simp -implicitDefEqProofs only [go_sem, Nat.reduceEqDiff, Nat.reduceBEq, reduceCtorEq, t12]
    · simp -implicitDefEqProofs only [go_sem, Nat.reduceEqDiff, Nat.reduceBEq, reduceCtorEq, t13]
    · simp -implicitDefEqProofs only [go_sem, Nat.reduceEqDiff, Nat.reduceBEq, reduceCtorEq, t14]
    · simp -implicitDefEqProofs only [go_sem, Nat.reduceEqDiff, Nat.reduceBEq, reduceCtorEq, t15]
    · simp -implicitDefEqProofs only [go_sem, Nat.reduceEqDiff, Nat.reduceBEq, reduceCtorEq, t9]
end
end Go.Proofs.YthiflgncldmkjaaDoor
set_option linter.unusedVariables false
set_option linter.unusedSimpArgs false
set_option maxRecDepth 100000
namespace Go.Proofs.YthiflgncldmkjaaDoor
open Go.Ri

section
variable {Hb : AH} {ls s : AV} {l : List Code} {c : Code}
def JF (Hb : AH) (ls s : AV) (c : Code) (i : Nat) (t : St) : Prop :=
  t.1 0 = ls ∧ t.1 6 = .ptr (some (Hb.next, 0)) ∧ t.1 8 = .int .i64 (i : Nat) ∧ Cr Hb s c t.2 ∧ OwnI (Hb.next + 1) t.2 (t.1 7) (List.replicate i (-1))
theorem jfill (d : Nat) (B : Base Hb ls s l c) (hlen : c.ins.length ≤ 65536) {T : Tm} {H : AH} (h0 : JF Hb ls s c 0 (T, H)) :
    Ret (Ri.iter big (F29_L5 (RT d) (Ri.iter big)) (T, H)) fun r => r.1 = .exit 0 ∧ JF Hb ls s c c.ins.length r.2 := by
  refine Ret.upTo (n := c.ins.length) (JF Hb ls s c) (by unfold big; omega) h0 ?_ ?_
  · rintro i ⟨T1, H1⟩ hi ⟨t0, t6, t8, hck, hown⟩
    simp only at t0 t6 t8 hck hown
    have hal := B.ins.alen
    have hcmp : decide (((i : Nat) : Int) < ((c.ins.length : Nat) : Int)) = true := decide_eq_true (by omega)
    obtain ⟨⟨hs', H2⟩, hap, g1, g2, g3, g4, g5⟩ := OwnI.more (x := -1) hown (Ext.self hck.ext.wf hck.lt) (by simp; omega)
    simp only at g1 g2 g3 g4 g5
    have hx2 : Ext Hb.next Hb H2 := hck.ext.trans (g2.less (Nat.le_succ _)) (Nat.le_refl _)
    have hb2 : H2.m Hb.next = some ⟨[s, .int .i64 c.cells, .int .i64 c.params, .bool c.answers], 24, true⟩ := by rw [g2.low _ (Nat.lt_succ_self _)]; exact hck.blk
    unfold F29_L5
    simp -implicitDefEqProofs only [go_sem, Nat.reduceAdd, Nat.reduceMul, Nat.reduceLT, Nat.reduceLeDiff, Nat.reduceEqDiff, Nat.reduceBEq, reduceCtorEq, Int.reduceLT, Int.reduceLE, Int.reduceEq, Int.reduceGT, Int.reduceGE, Int.reduceToNat, Int.reduceNeg, t6, t8, hck.blk, hal, hcmp, hap, wrapS (i := i) (by omega)]
    refine .mk (.inl ⟨rfl, ?_, ?_, ?_, ⟨hx2, hb2⟩, ?_⟩)
    · simp -implicitDefEqProofs only [go_sem, Nat.reduceEqDiff, Nat.reduceBEq, reduceCtorEq, t0]
    · simp -implicitDefEqProofs only [go_sem, Nat.reduceEqDiff, Nat.reduceBEq, reduceCtorEq, t6]
    · simp -implicitDefEqProofs only [go_sem, Nat.reduceEqDiff, Nat.reduceBEq, reduceCtorEq]
    · simp -implicitDefEqProofs only [go_sem, Nat.reduceEqDiff, Nat.reduceBEq, reduceCtorEq]
      rw [List.replicate_succ']
      exact g1
  · rintro ⟨T1, H1⟩ ⟨t0, t6, t8, hck, hown⟩
    simp only at t0 t6 t8 hck hown
    have hal := B.ins.alen
    have hcmp : decide (((c.ins.length : Nat) : Int) < ((c.ins.length : Nat) : Int)) = false := decide_eq_false (by omega)
    unfold F29_L5
    simp -implicitDefEqProofs only [go_sem, Nat.reduceAdd, Nat.reduceMul, Nat.reduceLT, Nat.reduceLeDiff, Nat.reduceEqDiff, Nat.reduceBEq, reduceCtorEq, Int.reduceLT, Int.reduceLE, Int.reduceEq, Int.reduceGT, Int.reduceGE, Int.reduceToNat, Int.reduceNeg, t6, t8, hck.blk, hal, hcmp]
    refine .mk ⟨by simp, rfl, ?_, ?_, ?_, hck, ?_⟩
    · simp -implicitDefEqProofs only [go_sem, Nat.reduceEqDiff, Nat.reduceBEq, reduceCtorEq, t0]
    · simp -implicitDefEqProofs only [go_sem, Nat.reduceEqDiff, Nat.reduceBEq, reduceCtorEq, t6]
    · simp -implicitDefEqProofs only [go_sem, Nat.reduceEqDiff, Nat.reduceBEq, reduceCtorEq, t8]
    · simp -implicitDefEqProofs only [go_sem, Nat.reduceEqDiff, Nat.reduceBEq, reduceCtorEq]
      exact hown

structure J2 (Hb : AH) (ls s : AV) (l : List Code) (c : Code) (hs : AV) (n0 : Nat) (a : Nat) (t : St) : Prop where
  t0 : t.1 0 = ls
  t6 : t.1 6 = .ptr (some (Hb.next, 0))
  t7 : t.1 7 = hs
  t10 : t.1 10 = .int .i64 (a : Nat)
  rest : ∃ (h : List Int) (more : Bool), t.1 9 = .bool more ∧ Cr Hb s c t.2 ∧ OwnI (Hb.next + 1) t.2 hs h ∧ Way l c h [] (fun b => more = true ∨ a ≤ b) ∧ negs h ≤ n0 ∧ (more = true → negs h < n0)
def EK (Hb : AH) (ls s : AV) (l : List Code) (c : Code) (hs : AV) (n0 : Nat) (r : Ex × St) : Prop :=
  (r.1 = .exit 4 ∧ J2 Hb ls s l c hs n0 c.ins.length r.2) ∨ (r.1 = .ret ∧ r.2.1 4 = .slice none 0 (.kn 0) ∧ r.2.1 5 = .bool false ∧ Ext Hb.next Hb r.2.2 ∧ ¬ ∃ g, Good l c g)
theorem Way.next_ {l : List Code} {c : Code} {h : List Int} {more : Bool} {a : Nat} (W : Way l c h [] (fun b => more = true ∨ a ≤ b))
    (hd : ∀ i x, c.ins[a]? = some i → h[a]? = some x → 0 ≤ x → Done l i a x h) : Way l c h [] (fun b => more = true ∨ a + 1 ≤ b) := by
  refine ⟨W.len, W.zero, W.known, W.wait, fun b i x hb h0 hw hne hi => ?_⟩
  by_cases hba : b = a
  · subst hba
    exact hd i x hi hb h0
  · refine W.done b i x hb h0 hw (fun h => hne ?_) hi
    rcases h with h | h
    · exact .inl h
    · exact .inr (by omega)
set_option maxHeartbeats 4000000 in
theorem jround (d : Nat) (B : Base Hb ls s l c) (hmay : ∀ i ∈ c.ins, mayI l c i = true) (hlen : c.ins.length ≤ 65536) {hs : AV} {n0 : Nat} {a : Nat} (hac : a < c.ins.length) {T : Tm} {H : AH}
    (hI : J2 Hb ls s l c hs n0 a (T, H)) : Ret (F29_L3 (RT (d + 1)) (Ri.iter big) (T, H)) fun r => (r.1 = .normal ∧ J2 Hb ls s l c hs n0 (a + 1) r.2) ∨ (r.1 ≠ .normal ∧ EK Hb ls s l c hs n0 r) := by
  obtain ⟨t0, t6, t7, t10, h, more, t9, hck, hown, W, hn0, hmore⟩ := hI
  simp only at t0 t6 t7 t10 t9 hck hown
  have hhl := W.len
  have hah : a < h.length := by omega
  have hcmp : decide (((a : Nat) : Int) < ((h.length : Nat) : Int)) = true := decide_eq_true (by omega)
  have hal : aLen Tryd.prog 40 hs = some (.int .i64 (h.length : Nat)) := by rw [hown.alen ysl40.under, intsC_len]
  obtain ⟨bh, Bh, ha, hNb, hbn, hBm, hrw, hcl, hidx, hget, hset⟩ := OwnI.blk hown hck.ext.wf (by omega)
  obtain ⟨x, hax⟩ : ∃ x, h[a]? = some x := ⟨_, List.getElem?_eq_getElem hah⟩
  have hpos : x = -1 ∨ 0 ≤ x := (W.known a x hax).imp id fun h => h.1
  have hws : IntKind.i64.wrap (((a : Nat) : Int) + 1) = ((a + 1 : Nat) : Int) := wrapS (i := a) (by omega)
  unfold F29_L3
  by_cases hneg : x < 0
  · simp -implicitDefEqProofs only [go_sem, Nat.reduceAdd, Nat.reduceMul, Nat.reduceLT, Nat.reduceLeDiff, Nat.reduceEqDiff, Nat.reduceBEq, reduceCtorEq, Int.reduceLT, Int.reduceLE, Int.reduceEq, Int.reduceGT, Int.reduceGE, Int.reduceToNat, Int.reduceNeg, t7, t10, hal, hcmp, hidx _ _ hah, hBm, hget a x hax, decide_eq_true hneg, F29_J2, hws]
    refine .mk (.inl ⟨rfl, ?_, ?_, ?_, ?_, h, more, ?_, hck, hown, W.next_ fun i y _ hy h0 => ?_, hn0, hmore⟩)
    · simp -implicitDefEqProofs only [go_sem, Nat.reduceEqDiff, Nat.reduceBEq, reduceCtorEq, t0]
    · simp -implicitDefEqProofs only [go_sem, Nat.reduceEqDiff, Nat.reduceBEq, reduceCtorEq, t6]
    · simp -implicitDefEqProofs only [go_sem, Nat.reduceEqDiff, Nat.reduceBEq, reduceCtorEq, t7]
    · simp -implicitDefEqProofs only [go_sem, Nat.reduceEqDiff, Nat.reduceBEq, reduceCtorEq]
    · simp -implicitDefEqProofs only [go_sem, Nat.reduceEqDiff, Nat.reduceBEq, reduceCtorEq, t9]
    · rw [hax] at hy
      cases hy
      omega
  · have h0x : 0 ≤ x := by omega
    obtain ⟨i, hi⟩ : ∃ i, c.ins[a]? = some i := ⟨_, List.getElem?_eq_getElem hac⟩
    have him : i ∈ c.ins := List.mem_of_getElem? hi
    have hm := hmay i him
    have hsub := hck.ext.sub B.wf
    have hins : InsRow H s c.ins := ⟨B.ins.1.mono hsub, B.ins.2⟩
    obtain ⟨pb, po, e1, e2, _⟩ := hins.1.at (i := a) (by simpa using hac)
    simp only [List.getElem_map] at e2
    have hig : c.ins[a] = i := by rw [List.getElem?_eq_getElem hac] at hi; exact Option.some.inj hi
    rw [hig] at e2
    have hin : insC i = [.int .i64 i.op, .int .i64 i.n, .int .i64 i.m] := rfl
    have hkn : ¬ Hb.next = H.next := Nat.ne_of_lt hck.lt
    have hbn' : ¬ bh = H.next := by omega
    have hx1 : Ext Hb.next Hb (H.new (insC i) 29) := hck.ext.new _ _
    obtain ⟨⟨v, H2⟩, h71, hv, hx2⟩ := effect_spec d hx1.wf (B.codes.mono (hx1.sub B.wf)) (i := i) hm
    simp only at hv hx2
    subst hv
    simp only [new_next] at hx2
    have hx12 : Ext Hb.next Hb H2 := hx1.trans hx2 (by have := hck.lt; omega)
    have hb2 : H2.m bh = some Bh := by rw [hx2.low bh (by omega)]; simp [hbn', hBm]
    have hi2 : H2.m H.next = some ⟨insC i, 29, true⟩ := by rw [hx2.low _ (by omega)]; simp
    obtain ⟨⟨sv, H3⟩, h72, hrow3, hx3, hat3⟩ := follow_spec d hx12.wf i (a := a) (by omega)
    simp only at hrow3 hx3 hat3
    have hn2 : H.next < H2.next := hx12.wf _ _ hi2
    have old : ∀ b, b < H.next → H3.m b = H.m b := fun b hb => by
      rw [hx3.low b (by omega), hx2.low b (by omega)]
      have h1 : ¬ b = H.next := by omega
      simp [h1]
    have hlow : ∀ b, At hs b → b < H2.next := fun b hb => by
      obtain ⟨B', h1, _⟩ := hown.at hb
      have := hck.ext.wf _ _ h1
      omega
    have hlow1 : ∀ b, At hs b → b < H.next := fun b hb => by
      obtain ⟨B', h1, _⟩ := hown.at hb
      exact hck.ext.wf _ _ h1
    have hck3 : Cr Hb s c H3 := ⟨hx12.trans hx3 (by have := hck.lt; omega), by rw [old _ hck.lt]; exact hck.blk⟩
    have bad : ¬ okAt l i x → ¬ ∃ g, Good l c g := fun hb => W.none hi hax h0x (.inl hb)
    have tail : okAt l i x → ∀ T' : Tm, T' 0 = ls → T' 6 = .ptr (some (Hb.next, 0)) → T' 7 = hs → T' 9 = .bool more → T' 10 = .int .i64 (a : Nat) → T' 12 = .int .i64 (tk l i) → T' 13 = .int .i64 (lv l i) → T' 14 = sv → T' 15 = .int .i64 0 →
        Ret (jn ((Ri.iter big (F29_L1 (RT (d + 1)) (Ri.iter big)) (T', H3)).bind fun r137 => match r137.1 with
           | .normal => none
           | .exit j138 => if j138 = 6 then
           (some (.inl (r137.2.1, r137.2.2)))
           else
           (if j138 = 5 then some (.inl (r137.2.1, r137.2.2)) else (some (.exit j138, r137.2.1, r137.2.2)).map .inr)
           | .ret => (some (.ret, r137.2.1, r137.2.2)).map .inr) (F29_J2 (RT (d + 1)) (Ri.iter big))) fun r => (r.1 = .normal ∧ J2 Hb ls s l c hs n0 (a + 1) r.2) ∨ (r.1 ≠ .normal ∧ EK Hb ls s l c hs n0 r) := by
      intro ho T' a0 a6 a7 a9 a10 a12 a13 a14 a15
      obtain ⟨⟨e, T4, H4⟩, hit, hE⟩ := jloop1 (d + 1) hm hi h0x ho (N1 := H2.next) (sv := sv) (hs := hs) (n0 := n0) (Hb := Hb) (ls := ls) (s := s) (T := T') (H := H3) hlen (fun b ⟨o, n, cc, e⟩ => (hat3 b o n cc e).1) hlow
        ⟨a0, a6, a7, a10, a12, a13, a14, a15, hrow3, h, more, a9, hck3, hown.to fun b hb => old b (hlow1 b hb), W, hax, hn0, hmore, fun j' hj' => absurd hj' (Nat.not_lt_zero _)⟩
      rcases hE with ⟨he, q⟩ | ⟨he, q1, q2, q3, q4⟩
      · simp only at he
        subst he
        obtain ⟨b0, b6, b7, b10, _, _, _, _, _, h4, more4, k1, k2, k3, k4, k5, k6, k7, k8⟩ := q
        simp only at b0 b6 b7 b10 k1 k2 k3
        simp -implicitDefEqProofs only [go_sem, Nat.reduceAdd, Nat.reduceMul, Nat.reduceLT, Nat.reduceLeDiff, Nat.reduceEqDiff, Nat.reduceBEq, reduceCtorEq, Int.reduceLT, Int.reduceLE, Int.reduceEq, Int.reduceGT, Int.reduceGE, Int.reduceToNat, Int.reduceNeg, hit, F29_J2, b10, hws]
        refine .mk (.inl ⟨rfl, ?_, ?_, ?_, ?_, h4, more4, ?_, k2, k3, k4.next_ fun i' y hi' hy hy0 => ?_, k6, k7⟩)
        · simp -implicitDefEqProofs only [go_sem, Nat.reduceEqDiff, Nat.reduceBEq, reduceCtorEq, b0]
        · simp -implicitDefEqProofs only [go_sem, Nat.reduceEqDiff, Nat.reduceBEq, reduceCtorEq, b6]
        · simp -implicitDefEqProofs only [go_sem, Nat.reduceEqDiff, Nat.reduceBEq, reduceCtorEq, b7]
        · simp -implicitDefEqProofs only [go_sem, Nat.reduceEqDiff, Nat.reduceBEq, reduceCtorEq]
        · simp -implicitDefEqProofs only [go_sem, Nat.reduceEqDiff, Nat.reduceBEq, reduceCtorEq, k1]
        · rw [hi] at hi'
          cases hi'
          rw [k5] at hy
          cases hy
          refine ⟨ho, fun p hp => ?_⟩
          obtain ⟨j, hj⟩ := List.mem_iff_getElem?.1 hp
          exact k8 j (List.getElem?_eq_some_iff.1 hj).1 p hj
      · simp only at he q1 q2 q3
        subst he
        simp -implicitDefEqProofs only [go_sem, Nat.reduceAdd, Nat.reduceMul, Nat.reduceLT, Nat.reduceLeDiff, Nat.reduceEqDiff, Nat.reduceBEq, reduceCtorEq, Int.reduceLT, Int.reduceLE, Int.reduceEq, Int.reduceGT, Int.reduceGE, Int.reduceToNat, Int.reduceNeg, hit]
        exact .mk (.inr ⟨by simp, .inr ⟨rfl, q1, q2, q3, q4⟩⟩)
    rw [hin] at e2 h71 hi2 h72
    have done : ∀ T' : Tm, T' 4 = .slice none 0 (.kn 0) → T' 5 = .bool false → ¬ okAt l i x → Ret (some (Ex.ret, T', H2)) fun r => (r.1 = .normal ∧ J2 Hb ls s l c hs n0 (a + 1) r.2) ∨ (r.1 ≠ .normal ∧ EK Hb ls s l c hs n0 r) :=
      fun T' h4 h5 hb => .mk (.inr ⟨by simp, .inr ⟨rfl, h4, h5, hx12, bad hb⟩⟩)
    by_cases q1 : x < tk l i
    · simp -implicitDefEqProofs only [go_sem, Nat.reduceAdd, Nat.reduceMul, Nat.reduceLT, Nat.reduceLeDiff, Nat.reduceEqDiff, Nat.reduceBEq, reduceCtorEq, Int.reduceLT, Int.reduceLE, Int.reduceEq, Int.reduceGT, Int.reduceGE, Int.reduceToNat, Int.reduceNeg, t0, t6, t7, t10, hal, hcmp, hidx _ _ hah, hBm, hget a x hax, decide_eq_false hneg, hck.blk, e1, e2, new_put, h71, hb2, hi2, decide_eq_true q1]
      exact done _ (by simp -implicitDefEqProofs only [go_sem, Nat.reduceAdd, Nat.reduceMul, Nat.reduceLT, Nat.reduceLeDiff, Nat.reduceEqDiff, Nat.reduceBEq, reduceCtorEq, Int.reduceLT, Int.reduceLE, Int.reduceEq, Int.reduceGT, Int.reduceGE, Int.reduceToNat, Int.reduceNeg]) (by simp -implicitDefEqProofs only [go_sem, Nat.reduceAdd, Nat.reduceMul, Nat.reduceLT, Nat.reduceLeDiff, Nat.reduceEqDiff, Nat.reduceBEq, reduceCtorEq, Int.reduceLT, Int.reduceLE, Int.reduceEq, Int.reduceGT, Int.reduceGE, Int.reduceToNat, Int.reduceNeg]) fun h => by have := h.1; omega
    by_cases q2 : x > 4096
    · simp -implicitDefEqProofs only [go_sem, Nat.reduceAdd, Nat.reduceMul, Nat.reduceLT, Nat.reduceLeDiff, Nat.reduceEqDiff, Nat.reduceBEq, reduceCtorEq, Int.reduceLT, Int.reduceLE, Int.reduceEq, Int.reduceGT, Int.reduceGE, Int.reduceToNat, Int.reduceNeg, t0, t6, t7, t10, hal, hcmp, hidx _ _ hah, hBm, hget a x hax, decide_eq_false hneg, hck.blk, e1, e2, new_put, h71, hb2, hi2, decide_eq_false q1, decide_eq_true q2]
      exact done _ (by simp -implicitDefEqProofs only [go_sem, Nat.reduceAdd, Nat.reduceMul, Nat.reduceLT, Nat.reduceLeDiff, Nat.reduceEqDiff, Nat.reduceBEq, reduceCtorEq, Int.reduceLT, Int.reduceLE, Int.reduceEq, Int.reduceGT, Int.reduceGE, Int.reduceToNat, Int.reduceNeg]) (by simp -implicitDefEqProofs only [go_sem, Nat.reduceAdd, Nat.reduceMul, Nat.reduceLT, Nat.reduceLeDiff, Nat.reduceEqDiff, Nat.reduceBEq, reduceCtorEq, Int.reduceLT, Int.reduceLE, Int.reduceEq, Int.reduceGT, Int.reduceGE, Int.reduceToNat, Int.reduceNeg]) fun h => by have := h.2.1; omega
    by_cases q24 : i.op = 24
    · have q20 : ¬ i.op = 20 := by omega
      by_cases q4 : x = 0
      · simp -implicitDefEqProofs only [go_sem, Nat.reduceAdd, Nat.reduceMul, Nat.reduceLT, Nat.reduceLeDiff, Nat.reduceEqDiff, Nat.reduceBEq, reduceCtorEq, Int.reduceLT, Int.reduceLE, Int.reduceEq, Int.reduceGT, Int.reduceGE, Int.reduceToNat, Int.reduceNeg, t0, t6, t7, t10, hal, hcmp, hidx _ _ hah, hBm, hget a x hax, decide_eq_false hneg, hck.blk, e1, e2, new_put, h71, hb2, hi2, decide_eq_false q1, decide_eq_false q2, decide_eq_true q24, decide_eq_true q4, decide_eq_false q20, h72]
        refine tail ⟨by omega, by omega, fun h => absurd h q20, fun _ => q4⟩ _ ?_ ?_ ?_ ?_ ?_ ?_ ?_ ?_ ?_ <;> simp -implicitDefEqProofs only [go_sem, Nat.reduceAdd, Nat.reduceMul, Nat.reduceLT, Nat.reduceLeDiff, Nat.reduceEqDiff, Nat.reduceBEq, reduceCtorEq, Int.reduceLT, Int.reduceLE, Int.reduceEq, Int.reduceGT, Int.reduceGE, Int.reduceToNat, Int.reduceNeg, t0, t6, t7, t9, t10]
      · simp -implicitDefEqProofs only [go_sem, Nat.reduceAdd, Nat.reduceMul, Nat.reduceLT, Nat.reduceLeDiff, Nat.reduceEqDiff, Nat.reduceBEq, reduceCtorEq, Int.reduceLT, Int.reduceLE, Int.reduceEq, Int.reduceGT, Int.reduceGE, Int.reduceToNat, Int.reduceNeg, t0, t6, t7, t10, hal, hcmp, hidx _ _ hah, hBm, hget a x hax, decide_eq_false hneg, hck.blk, e1, e2, new_put, h71, hb2, hi2, decide_eq_false q1, decide_eq_false q2, decide_eq_true q24, decide_eq_false q4]
        exact done _ (by simp -implicitDefEqProofs only [go_sem, Nat.reduceAdd, Nat.reduceMul, Nat.reduceLT, Nat.reduceLeDiff, Nat.reduceEqDiff, Nat.reduceBEq, reduceCtorEq, Int.reduceLT, Int.reduceLE, Int.reduceEq, Int.reduceGT, Int.reduceGE, Int.reduceToNat, Int.reduceNeg]) (by simp -implicitDefEqProofs only [go_sem, Nat.reduceAdd, Nat.reduceMul, Nat.reduceLT, Nat.reduceLeDiff, Nat.reduceEqDiff, Nat.reduceBEq, reduceCtorEq, Int.reduceLT, Int.reduceLE, Int.reduceEq, Int.reduceGT, Int.reduceGE, Int.reduceToNat, Int.reduceNeg]) fun h => q4 (h.2.2.2 q24)
    by_cases q20 : i.op = 20
    · by_cases q3 : x = tk l i
      · simp -implicitDefEqProofs only [go_sem, Nat.reduceAdd, Nat.reduceMul, Nat.reduceLT, Nat.reduceLeDiff, Nat.reduceEqDiff, Nat.reduceBEq, reduceCtorEq, Int.reduceLT, Int.reduceLE, Int.reduceEq, Int.reduceGT, Int.reduceGE, Int.reduceToNat, Int.reduceNeg, t0, t6, t7, t10, hal, hcmp, hidx _ _ hah, hBm, hget a x hax, decide_eq_false hneg, hck.blk, e1, e2, new_put, h71, hb2, hi2, decide_eq_false q1, decide_eq_false q2, decide_eq_false q24, decide_eq_true q20, decide_eq_true q3, h72]
        refine tail ⟨by omega, by omega, fun _ => q3, fun h => absurd h q24⟩ _ ?_ ?_ ?_ ?_ ?_ ?_ ?_ ?_ ?_ <;> simp -implicitDefEqProofs only [go_sem, Nat.reduceAdd, Nat.reduceMul, Nat.reduceLT, Nat.reduceLeDiff, Nat.reduceEqDiff, Nat.reduceBEq, reduceCtorEq, Int.reduceLT, Int.reduceLE, Int.reduceEq, Int.reduceGT, Int.reduceGE, Int.reduceToNat, Int.reduceNeg, t0, t6, t7, t9, t10]
      · simp -implicitDefEqProofs only [go_sem, Nat.reduceAdd, Nat.reduceMul, Nat.reduceLT, Nat.reduceLeDiff, Nat.reduceEqDiff, Nat.reduceBEq, reduceCtorEq, Int.reduceLT, Int.reduceLE, Int.reduceEq, Int.reduceGT, Int.reduceGE, Int.reduceToNat, Int.reduceNeg, t0, t6, t7, t10, hal, hcmp, hidx _ _ hah, hBm, hget a x hax, decide_eq_false hneg, hck.blk, e1, e2, new_put, h71, hb2, hi2, decide_eq_false q1, decide_eq_false q2, decide_eq_false q24, decide_eq_true q20, decide_eq_false q3]
        exact done _ (by simp -implicitDefEqProofs only [go_sem, Nat.reduceAdd, Nat.reduceMul, Nat.reduceLT, Nat.reduceLeDiff, Nat.reduceEqDiff, Nat.reduceBEq, reduceCtorEq, Int.reduceLT, Int.reduceLE, Int.reduceEq, Int.reduceGT, Int.reduceGE, Int.reduceToNat, Int.reduceNeg]) (by simp -implicitDefEqProofs only [go_sem, Nat.reduceAdd, Nat.reduceMul, Nat.reduceLT, Nat.reduceLeDiff, Nat.reduceEqDiff, Nat.reduceBEq, reduceCtorEq, Int.reduceLT, Int.reduceLE, Int.reduceEq, Int.reduceGT, Int.reduceGE, Int.reduceToNat, Int.reduceNeg]) fun h => q3 (h.2.2.1 q20)
    · simp -implicitDefEqProofs only [go_sem, Nat.reduceAdd, Nat.reduceMul, Nat.reduceLT, Nat.reduceLeDiff, Nat.reduceEqDiff, Nat.reduceBEq, reduceCtorEq, Int.reduceLT, Int.reduceLE, Int.reduceEq, Int.reduceGT, Int.reduceGE, Int.reduceToNat, Int.reduceNeg, t0, t6, t7, t10, hal, hcmp, hidx _ _ hah, hBm, hget a x hax, decide_eq_false hneg, hck.blk, e1, e2, new_put, h71, hb2, hi2, decide_eq_false q1, decide_eq_false q2, decide_eq_false q24, decide_eq_false q20, h72]
      refine tail ⟨by omega, by omega, fun h => absurd h q20, fun h => absurd h q24⟩ _ ?_ ?_ ?_ ?_ ?_ ?_ ?_ ?_ ?_ <;> simp -implicitDefEqProofs only [go_sem, Nat.reduceAdd, Nat.reduceMul, Nat.reduceLT, Nat.reduceLeDiff, Nat.reduceEqDiff, Nat.reduceBEq, reduceCtorEq, Int.reduceLT, Int.reduceLE, Int.reduceEq, Int.reduceGT, Int.reduceGE, Int.reduceToNat, Int.reduceNeg, t0, t6, t7, t9, t10]
end
end Go.Proofs.YthiflgncldmkjaaDoor
set_option linter.unusedVariables false
set_option linter.unusedSimpArgs false
set_option maxRecDepth 100000
namespace Go.Proofs.YthiflgncldmkjaaDoor
open Go.Ri

theorem AH.ldN_sub {H H' : AH} (hs : H.sub H') {p : Nat × Nat} {n : Nat} {v : List AV} (h : H.ldN p n = some v) : H'.ldN p n = some v := by
  unfold AH.ldN at h ⊢
  cases hB : H.m p.1 with
  | none => simp [hB] at h
  | some B => simp only [hB] at h; simp only [hs _ _ hB]; exact h
theorem ldAgg_sub {H H' : AH} (hs : H.sub H') {p : Nat × Nat} {n : Nat} {v : AV} (h : ldAgg (.ptr (some p)) n H = some v) : ldAgg (.ptr (some p)) n H' = some v := by
  unfold ldAgg at h ⊢
  simp only [Option.map_eq_some_iff] at h ⊢
  obtain ⟨a, h1, h2⟩ := h
  exact ⟨a, AH.ldN_sub hs h1, h2⟩

section
variable {Hb : AH} {ls s : AV} {l : List Code} {c : Code}
structure JO (Hb : AH) (ls s : AV) (l : List Code) (c : Code) (hs : AV) (f : Nat) (t : St) : Prop where
  t0 : t.1 0 = ls
  t6 : t.1 6 = .ptr (some (Hb.next, 0))
  t7 : t.1 7 = hs
  rest : ∃ (h : List Int) (more : Bool), t.1 9 = .bool more ∧ Cr Hb s c t.2 ∧ OwnI (Hb.next + 1) t.2 hs h ∧ ((more = true ∧ Way l c h [] (fun _ => True) ∧ negs h + 2 ≤ f) ∨ (more = false ∧ Good l c h ∧ 1 ≤ f))
def EO (Hb : AH) (ls s : AV) (l : List Code) (c : Code) (hs : AV) (r : Ex × St) : Prop :=
  (r.1 = .exit 2 ∧ r.2.1 7 = hs ∧ Cr Hb s c r.2.2 ∧ ∃ h, OwnI (Hb.next + 1) r.2.2 hs h ∧ Good l c h) ∨ (r.1 = .ret ∧ r.2.1 4 = .slice none 0 (.kn 0) ∧ r.2.1 5 = .bool false ∧ Ext Hb.next Hb r.2.2 ∧ ¬ ∃ g, Good l c g)
theorem jloop3 (d : Nat) (B : Base Hb ls s l c) (hmay : ∀ i ∈ c.ins, mayI l c i = true) (hlen : c.ins.length ≤ 65536) (h1 : 1 ≤ c.ins.length) {hs : AV} {n0 : Nat} {T : Tm} {H : AH} (h0 : J2 Hb ls s l c hs n0 0 (T, H)) :
    Ret (Ri.iter big (F29_L3 (RT (d + 1)) (Ri.iter big)) (T, H)) (EK Hb ls s l c hs n0) := by
  refine Ret.upTo (n := c.ins.length) (J2 Hb ls s l c hs n0) (by unfold big; omega) h0 (fun a t ha hI => jround d B hmay hlen ha hI) ?_
  rintro ⟨T1, H1⟩ ⟨t0, t6, t7, t10, h, more, t9, hck, hown, W, hn0, hmore⟩
  simp only at t0 t6 t7 t10 t9 hck hown
  have hcmp : decide (((c.ins.length : Nat) : Int) < ((h.length : Nat) : Int)) = false := decide_eq_false (by have := W.len; omega)
  have hal : aLen Tryd.prog 40 hs = some (.int .i64 (h.length : Nat)) := by rw [hown.alen ysl40.under, intsC_len]
  unfold F29_L3
  simp -implicitDefEqProofs only [go_sem, Nat.reduceAdd, Nat.reduceMul, Nat.reduceLT, Nat.reduceLeDiff, Nat.reduceEqDiff, Nat.reduceBEq, reduceCtorEq, Int.reduceLT, Int.reduceLE, Int.reduceEq, Int.reduceGT, Int.reduceGE, Int.reduceToNat, Int.reduceNeg, t7, t10, hal, hcmp]
  refine .mk ⟨by simp, .inl ⟨rfl, ?_, ?_, ?_, ?_, h, more, ?_, hck, hown, W, hn0, hmore⟩⟩
  · simp -implicitDefEqProofs only [go_sem, Nat.reduceEqDiff, Nat.reduceBEq, reduceCtorEq, t0]
  · simp -implicitDefEqProofs only [go_sem, Nat.reduceEqDiff, Nat.reduceBEq, reduceCtorEq, t6]
  · simp -implicitDefEqProofs only [go_sem, Nat.reduceEqDiff, Nat.reduceBEq, reduceCtorEq, t7]
  · simp -implicitDefEqProofs only [go_sem, Nat.reduceEqDiff, Nat.reduceBEq, reduceCtorEq, t10]
  · simp -implicitDefEqProofs only [go_sem, Nat.reduceEqDiff, Nat.reduceBEq, reduceCtorEq, t9]
theorem jouter (d : Nat) (B : Base Hb ls s l c) (hmay : ∀ i ∈ c.ins, mayI l c i = true) (hlen : c.ins.length ≤ 65536) (h1 : 1 ≤ c.ins.length) {hs : AV} (f : Nat) (t : St) (hI : JO Hb ls s l c hs (f + 1) t) :
    Ret (F29_L4 (RT (d + 1)) (Ri.iter big) t) fun r => (r.1 = .normal ∧ JO Hb ls s l c hs f r.2) ∨ (r.1 ≠ .normal ∧ EO Hb ls s l c hs r) := by
  obtain ⟨T, H⟩ := t
  obtain ⟨t0, t6, t7, h, more, t9, hck, hown, hw⟩ := hI
  simp only at t0 t6 t7 t9 hck hown
  unfold F29_L4
  rcases hw with ⟨rfl, W, hf⟩ | ⟨rfl, hg, hf⟩
  · simp -implicitDefEqProofs only [go_sem, Nat.reduceEqDiff, Nat.reduceBEq, reduceCtorEq, t9]
    refine Ret.then (jloop3 d B hmay hlen h1 (hs := hs) (n0 := negs h) ⟨?_, ?_, ?_, ?_, h, false, ?_, hck, hown, ⟨W.len, W.zero, W.known, W.wait, fun _ _ _ _ _ _ hne _ => absurd (.inr (Nat.zero_le _)) hne⟩, Nat.le_refl _, fun e => by cases e⟩) ?_
    · simp -implicitDefEqProofs only [go_sem, Nat.reduceEqDiff, Nat.reduceBEq, reduceCtorEq, t0]
    · simp -implicitDefEqProofs only [go_sem, Nat.reduceEqDiff, Nat.reduceBEq, reduceCtorEq, t6]
    · simp -implicitDefEqProofs only [go_sem, Nat.reduceEqDiff, Nat.reduceBEq, reduceCtorEq, t7]
    · simp -implicitDefEqProofs only [go_sem, Nat.reduceEqDiff, Nat.reduceBEq, reduceCtorEq]
      rfl
    · simp -implicitDefEqProofs only [go_sem, Nat.reduceEqDiff, Nat.reduceBEq, reduceCtorEq]
    · rintro ⟨e, T4, H4⟩ (⟨he, q⟩ | ⟨he, q1, q2, q3, q4⟩)
      · simp only at he
        subst he
        obtain ⟨b0, b6, b7, _, h4, more4, b9, k2, k3, k4, k6, k7⟩ := q
        simp only at b0 b6 b7 b9 k2 k3
        simp -implicitDefEqProofs only [go_sem, Nat.reduceAdd, Nat.reduceMul, Nat.reduceLT, Nat.reduceLeDiff, Nat.reduceEqDiff, Nat.reduceBEq, reduceCtorEq, Int.reduceLT, Int.reduceLE, Int.reduceEq, Int.reduceGT, Int.reduceGE, Int.reduceToNat, Int.reduceNeg]
        refine .mk (.inl ⟨rfl, b0, b6, b7, h4, more4, b9, k2, k3, ?_⟩)
        cases more4 with
        | true => exact .inl ⟨rfl, k4.loose, by have := k7 rfl; omega⟩
        | false =>
          refine .inr ⟨rfl, Way.good ⟨k4.len, k4.zero, k4.known, k4.wait, fun b i x hb h0 hw hne hi => k4.done b i x hb h0 hw ?_ hi⟩, by omega⟩
          rintro (h | h)
          · cases h
          · have := (List.getElem?_eq_some_iff.1 hi).1
            omega
      · simp only at he q1 q2 q3
        subst he
        simp -implicitDefEqProofs only [go_sem, Nat.reduceAdd, Nat.reduceMul, Nat.reduceLT, Nat.reduceLeDiff, Nat.reduceEqDiff, Nat.reduceBEq, reduceCtorEq, Int.reduceLT, Int.reduceLE, Int.reduceEq, Int.reduceGT, Int.reduceGE, Int.reduceToNat, Int.reduceNeg]
        exact .mk (.inr ⟨by simp, .inr ⟨rfl, q1, q2, q3, q4⟩⟩)
  · simp -implicitDefEqProofs only [go_sem, Nat.reduceEqDiff, Nat.reduceBEq, reduceCtorEq, t9]
    refine .mk (.inr ⟨by simp, .inl ⟨rfl, ?_, hck, h, hown, hg⟩⟩)
    simp -implicitDefEqProofs only [go_sem, Nat.reduceAdd, Nat.reduceMul, Nat.reduceLT, Nat.reduceLeDiff, Nat.reduceEqDiff, Nat.reduceBEq, reduceCtorEq, Int.reduceLT, Int.reduceLE, Int.reduceEq, Int.reduceGT, Int.reduceGE, Int.reduceToNat, Int.reduceNeg, t7]
end

theorem Heights_ref (d : Nat) {H : AH} (hw : H.wf) (hT : Tabs H) {ls : AV} {l : List Code} (hl : CodesRow H ls l) {k : Int} (hk : InI k) :
    Ret (RT (d + 4) 29 [ls, .int .i64 k] H) fun r => Ext H.next H r.2 ∧ ((∃ hs h, r.1 = .tuple [hs, .bool true] ∧ OwnI (H.next + 1) r.2 hs h ∧ Hts l k h) ∨ (r.1 = .tuple [.slice none 0 (.kn 0), .bool false] ∧ ¬ ∃ h, Hts l k h)) := by
  rw [R29]
  unfold F29
  have hal := hl.alen
  by_cases p1 : k < 0
  · simp -implicitDefEqProofs only [go_sem, Nat.reduceAdd, Nat.reduceMul, Nat.reduceLT, Nat.reduceLeDiff, Nat.reduceEqDiff, Nat.reduceBEq, reduceCtorEq, Int.reduceLT, Int.reduceLE, Int.reduceEq, Int.reduceGT, Int.reduceGE, Int.reduceToNat, Int.reduceNeg, hal, decide_eq_true p1]
    exact .mk ⟨.refl hw, .inr ⟨rfl, fun ⟨h, c, h0, _⟩ => by omega⟩⟩
  by_cases p2 : k ≥ ((l.length : Nat) : Int)
  · simp -implicitDefEqProofs only [go_sem, Nat.reduceAdd, Nat.reduceMul, Nat.reduceLT, Nat.reduceLeDiff, Nat.reduceEqDiff, Nat.reduceBEq, reduceCtorEq, Int.reduceLT, Int.reduceLE, Int.reduceEq, Int.reduceGT, Int.reduceGE, Int.reduceToNat, Int.reduceNeg, hal, decide_eq_false p1, decide_eq_true p2]
    refine .mk ⟨.refl hw, .inr ⟨rfl, fun ⟨h, c, h0, h1, _⟩ => ?_⟩⟩
    have := (List.getElem?_eq_some_iff.1 h1).1
    omega
  obtain ⟨b, o, c, q1, q2, ⟨s, q3, q4, _⟩, _, _, _, q5, q6, _⟩ := codes_at hl (n := k) (by omega) (by omega)
  have B : Base H ls s l c := ⟨hw, hT, hl, q4, q5, q6⟩
  obtain ⟨⟨v, H2⟩, h70, hx2, ok, hv, hok⟩ := shape_spec d B
  simp only at hx2 hv hok
  subst hv
  cases ok with
  | false =>
    simp -implicitDefEqProofs only [go_sem, Nat.reduceAdd, Nat.reduceMul, Nat.reduceLT, Nat.reduceLeDiff, Nat.reduceEqDiff, Nat.reduceBEq, reduceCtorEq, Int.reduceLT, Int.reduceLE, Int.reduceEq, Int.reduceGT, Int.reduceGE, Int.reduceToNat, Int.reduceNeg, hal, decide_eq_false p1, decide_eq_false p2, q2, q3, h70]
    refine .mk ⟨hx2, .inr ⟨rfl, fun ⟨h, c', h0, h1, h2, h3⟩ => ?_⟩⟩
    rw [q1] at h1
    cases h1
    have := hok.2 h2
    cases this
  | true =>
    have hok1 := hok.1 rfl
    have q3' := ldAgg_sub (hx2.sub hw) q3
    have q3'' := q3'
    simp only [ldAgg, AH.ldN] at q3''
    have hw2 := hx2.wf
    have B2 : Base H2 ls s l c := ⟨hw2, hT.ext hx2 hT.two, hl.mono (hx2.sub hw), ⟨q4.1.mono (hx2.sub hw), q4.2⟩, q5, q6⟩
    have hx3 : Ext H2.next H2 (H2.new [s, .int .i64 c.cells, .int .i64 c.params, .bool c.answers] 24) := (Ext.refl hw2).new _ _
    simp -implicitDefEqProofs only [go_sem, Nat.reduceAdd, Nat.reduceMul, Nat.reduceLT, Nat.reduceLeDiff, Nat.reduceEqDiff, Nat.reduceBEq, reduceCtorEq, Int.reduceLT, Int.reduceLE, Int.reduceEq, Int.reduceGT, Int.reduceGE, Int.reduceToNat, Int.reduceNeg, hal, decide_eq_false p1, decide_eq_false p2, q2, q3, h70, q3', q3'', new_put]
    refine Ret.then (jfill (d + 3) B2 hok1.few ⟨?_, ?_, ?_, ⟨hx3, by simp⟩, ?_⟩) ?_
    · simp -implicitDefEqProofs only [go_sem, Nat.reduceEqDiff, Nat.reduceBEq, reduceCtorEq]
    · simp -implicitDefEqProofs only [go_sem, Nat.reduceEqDiff, Nat.reduceBEq, reduceCtorEq]
    · simp -implicitDefEqProofs only [go_sem, Nat.reduceEqDiff, Nat.reduceBEq, reduceCtorEq]
      rfl
    · simp -implicitDefEqProofs only [go_sem, Nat.reduceEqDiff, Nat.reduceBEq, reduceCtorEq]
      exact Own.nil _ _ _ _
    · rintro ⟨e, T, H4⟩ ⟨he, t0, t6, _, hck, hown⟩
      simp only at he t0 t6 hck hown
      subst he
      have h1 := hok1.some_
      obtain ⟨bh, Bh, ha, hNb, hbn, hBm, hrw, hcl, hidx, hget, hset⟩ := OwnI.blk hown hck.ext.wf (by simp; omega)
      have hbk : ¬ H2.next = bh := by omega
      have hc0 : 0 < Bh.cells.length := by simp at hcl; omega
      have hid0 : ∀ kd, idxSl (T 7) (.int kd 0) 1 = some (.ptr (some (bh, 0))) := fun kd => hidx kd 0 (by simp; omega)
      have hx5 : Ext H2.next H2 (H4.put bh ⟨Bh.cells.set 0 (.int .i64 0), Bh.elem, true⟩) := hck.ext.put (by omega) hbn _
      have hck5 : Cr H2 s c (H4.put bh ⟨Bh.cells.set 0 (.int .i64 0), Bh.elem, true⟩) := ⟨hx5, by simp [hbk, hck.blk]⟩
      have hown5 := hset 0 0 (by simp; omega)
      simp -implicitDefEqProofs only [go_sem, Nat.reduceAdd, Nat.reduceMul, Nat.reduceLT, Nat.reduceLeDiff, Nat.reduceEqDiff, Nat.reduceBEq, reduceCtorEq, Int.reduceLT, Int.reduceLE, Int.reduceEq, Int.reduceGT, Int.reduceGE, Int.reduceToNat, Int.reduceNeg, hid0, hBm, hrw, hc0]
      refine Ret.then (Q' := EO H2 ls s l c (T 7)) (Ret.iter (JO H2 ls s l c (T 7)) _ (fun f t hI => jouter (d + 2) B2 hok1.may hok1.few h1 f t hI) (fun t ht => by obtain ⟨_, _, _, _, _, _, _, _, h | h⟩ := ht <;> omega) 200000 big _ (by unfold big; omega)
        ⟨?_, ?_, ?_, (List.replicate c.ins.length (-1)).set 0 0, true, ?_, hck5, hown5, .inl ⟨rfl, (Way.start h1).loose, ?_⟩⟩) ?_
      · simp -implicitDefEqProofs only [go_sem, Nat.reduceEqDiff, Nat.reduceBEq, reduceCtorEq, t0]
      · simp -implicitDefEqProofs only [go_sem, Nat.reduceEqDiff, Nat.reduceBEq, reduceCtorEq, t6]
      · simp -implicitDefEqProofs only [go_sem, Nat.reduceEqDiff, Nat.reduceBEq, reduceCtorEq]
      · simp -implicitDefEqProofs only [go_sem, Nat.reduceEqDiff, Nat.reduceBEq, reduceCtorEq]
      · have := negs_le ((List.replicate c.ins.length (-1 : Int)).set 0 0)
        have := hok1.few
        simp at *
        omega
      · rintro ⟨e, T5, H5⟩ (⟨he, k7, k1, h, k2, k3⟩ | ⟨he, k1, k2, k3, k4⟩)
        · simp only at he k7 k1 k2
          subst he
          simp -implicitDefEqProofs only [go_sem, Nat.reduceAdd, Nat.reduceMul, Nat.reduceLT, Nat.reduceLeDiff, Nat.reduceEqDiff, Nat.reduceBEq, reduceCtorEq, Int.reduceLT, Int.reduceLE, Int.reduceEq, Int.reduceGT, Int.reduceGE, Int.reduceToNat, Int.reduceNeg, k7]
          exact .mk ⟨hx2.trans k1.ext hx2.next, .inl ⟨_, h, rfl, k2.low (by have := hx2.next; omega), c, by omega, q1, hok1, k3⟩⟩
        · simp only at he k1 k2 k3
          subst he
          simp -implicitDefEqProofs only [go_sem, Nat.reduceAdd, Nat.reduceMul, Nat.reduceLT, Nat.reduceLeDiff, Nat.reduceEqDiff, Nat.reduceBEq, reduceCtorEq, Int.reduceLT, Int.reduceLE, Int.reduceEq, Int.reduceGT, Int.reduceGE, Int.reduceToNat, Int.reduceNeg, k1, k2]
          refine .mk ⟨hx2.trans k3 hx2.next, .inr ⟨rfl, fun ⟨h, c', h0, h1, h2, h3⟩ => k4 ?_⟩⟩
          rw [q1] at h1
          cases h1
          exact ⟨h, h3⟩
end Go.Proofs.YthiflgncldmkjaaDoor
set_option linter.unusedVariables false
set_option linter.unusedSimpArgs false
set_option maxRecDepth 100000
namespace Go.Proofs.YthiflgncldmkjaaDoor
open Go.Ri

theorem answers_set {l : List Code} {k : Nat} {c c' : Code} (hk : l[k]? = some c) (ha : c'.answers = c.answers) (n : Int) : answersAt (l.set k c') n = answersAt l n := by
  unfold answersAt
  by_cases h : n.toNat = k
  · rw [h, List.getElem?_set_self (List.getElem?_eq_some_iff.1 hk).1, hk]
    simp [ha]
  · rw [List.getElem?_set_ne (Ne.symm h)]
theorem Reach.other {l : List Code} {c c' : Code} {h : List Int} (g : Good l c h) {n : Nat} (hn : h[n]? = some (-1)) (hc : ∀ a, a ≠ n → c'.ins[a]? = c.ins[a]?) {a : Nat} (hr : Reach c a) : Reach c' a := by
  induction hr with
  | zero => exact .zero
  | step hr hi hp ih =>
    obtain ⟨x, hx, h0⟩ := g.at_reach hr
    refine .step ih ?_ hp
    rw [hc _ (by rintro rfl; rw [hn] at hx; cases hx; omega)]
    exact hi
theorem Good.idle {l l' : List Code} {c c' : Code} {h : List Int} (g : Good l c h) {n : Nat} (hn : h[n]? = some (-1)) (hlen : c'.ins.length = c.ins.length) (hc : ∀ a, a ≠ n → c'.ins[a]? = c.ins[a]?) (ha : ∀ m, answersAt l' m = answersAt l m) : Good l' c' h := by
  refine ⟨by rw [hlen]; exact g.len, g.zero, fun a i x hi hx h0 => ?_, fun a x hx => (g.reach a x hx).imp id fun h => ⟨h.1, h.2.other g hn hc⟩⟩
  have hlv : lv l' i = lv l i := by simp only [lv, ha]
  have han : a ≠ n := by
    rintro rfl
    rw [hn] at hx
    cases hx
    omega
  obtain ⟨h1, h2⟩ := g.step a i x (by rw [← hc a han]; exact hi) hx h0
  exact ⟨h1, fun p hp => by rw [hlv]; exact h2 p hp⟩
theorem Hts.idle {l : List Code} {k : Int} {h g : List Int} {n : Nat} {c : Code} {i : Ins} (gh : Hts l k h) (hk : l[k.toNat]? = some c) (hn : h[n]? = some (-1))
    (hg : Hts (l.set k.toNat ⟨c.ins.set n i, c.cells, c.params, c.answers⟩) k g) : g = h := by
  obtain ⟨c0, h0, h1, _, h3⟩ := gh
  rw [hk] at h1
  cases h1
  obtain ⟨c1, _, k1, _, k3⟩ := hg
  rw [List.getElem?_set_self (List.getElem?_eq_some_iff.1 hk).1] at k1
  cases k1
  exact k3.unique (h3.idle hn (by simp) (fun a ha => List.getElem?_set_ne (Ne.symm ha)) (answers_set hk rfl))

theorem flat_set {α : Type} {sz : Nat} (rows : List (List α)) (h : ∀ x ∈ rows, x.length = sz) (i : Nat) (hi : i < rows.length) (v : List α) :
    (rows.set i v).flatten = rows.flatten.take (i * sz) ++ (v ++ rows.flatten.drop (i * sz + sz)) := by
  induction rows generalizing i with
  | nil => simp at hi
  | cons r rows ih =>
    have hr : r.length = sz := h r (by simp)
    cases i with
    | zero => simp [← hr]
    | succ i =>
      have := ih (fun x hx => h x (by simp [hx])) i (by simpa using hi)
      rw [List.set_cons_succ, List.flatten_cons, this, List.flatten_cons]
      have e1 : (i + 1) * sz = r.length + i * sz := by rw [hr, Nat.succ_mul]; omega
      have e2 : (i + 1) * sz + sz = r.length + (i * sz + sz) := by omega
      rw [e2, e1, List.take_length_add_append, List.drop_length_add_append, List.append_assoc]

end Go.Proofs.YthiflgncldmkjaaDoor
set_option linter.unusedVariables false
set_option linter.unusedSimpArgs false
set_option maxRecDepth 100000
namespace Go.Proofs.YthiflgncldmkjaaDoor
open Go.Ri

theorem take_mid {α : Type} (C v : List α) (m o : Nat) (h : o + v.length ≤ m) (hm : m ≤ C.length) : (C.take o ++ v ++ C.drop (o + v.length)).take m = (C.take m).take o ++ (v ++ (C.take m).drop (o + v.length)) := by
  have e2 : (C.take o).length = o := by rw [List.length_take]; omega
  have e3 : (C.take m).take o = C.take o := by rw [List.take_take, show min o m = o by omega]
  rw [e3, List.append_assoc, List.take_append, List.take_append, List.drop_take, e2, List.take_of_length_le (l := C.take o) (by omega), List.take_of_length_le (l := v) (by omega), Nat.sub_sub]
end Go.Proofs.YthiflgncldmkjaaDoor
set_option linter.unusedVariables false
set_option linter.unusedSimpArgs false
namespace Go.Proofs.YthiflgncldmkjaaDoor
open Go.Ri

def isDg (d : Int) : Prop := 48 ≤ d ∧ d ≤ 57
instance (d : Int) : Decidable (isDg d) := by unfold isDg; infer_instance
def lim (below : Bool) : Nat := if below = true then 9223372036854775808 else 9223372036854775807
end Go.Proofs.YthiflgncldmkjaaDoor
set_option linter.unusedVariables false
set_option linter.unusedSimpArgs false
set_option maxRecDepth 100000
namespace Go.Proofs.YthiflgncldmkjaaDoor
open Go.Ri

end Go.Proofs.YthiflgncldmkjaaDoor
set_option linter.unusedVariables false
set_option linter.unusedSimpArgs false
set_option maxRecDepth 100000
namespace Go.Proofs.YthiflgncldmkjaaDoor
open Go.Ri

theorem gdv_tuple (l : List AV) (w : Bool) : gdv (.tuple l) w = some false := (rfl)
attribute [go_sem] gdv_tuple
def Bs (l : List Int) : Prop := ∀ n ∈ l, 0 ≤ n ∧ n < 256
theorem Bs.byteL (s : ByteArray) : Bs (byteL s) := by
  intro n hn
  simp only [Go.Proofs.YthiflgncldmkjaaDoor.byteL, List.mem_map] at hn
  obtain ⟨y, _, rfl⟩ := hn
  have := y.toNat_lt
  omega
theorem Bs.take {l : List Int} (h : Bs l) (k : Nat) : Bs (l.take k) := fun n hn => h n (List.mem_of_mem_take hn)
theorem Bs.drop {l : List Int} (h : Bs l) (k : Nat) : Bs (l.drop k) := fun n hn => h n (List.mem_of_mem_drop hn)
theorem Bs.nil : Bs [] := fun n hn => by simp at hn
theorem ins_neq (a b c a' b' c' : Int) : aBin Tryd.prog .neq 29 (.agg [.int .i64 a, .int .i64 b, .int .i64 c]) (.agg [.int .i64 a', .int .i64 b', .int .i64 c']) = some (.bool (!(a == a' && (b == b' && (c == c' && true))))) := by kernel_rfl
theorem flat_one {A B : Type} (f : A → B) (l : List A) : (l.map fun w => [f w]).flatten = l.map f := by
  induction l with
  | nil => rfl
  | cons a l ih => simp [ih]
def Strs (H : AH) (v : AV) (ws : List (List Int)) : Prop := Row H v 1 (ws.map fun w => [.str (strOfNums w)])
theorem Strs.alen {H : AH} {v : AV} {ws : List (List Int)} (h : Strs H v ws) : aLen Tryd.prog 90 v = some (.int .i64 (ws.length : Nat)) := by
  rw [Row.alen ysl90.under h, List.length_map]
theorem Strs.at {H : AH} {v : AV} {ws : List (List Int)} (h : Strs H v ws) {i : Nat} (hi : i < ws.length) : ∃ p, (∀ k, idxSl v (.int k (i : Nat)) 1 = some (.ptr (some p))) ∧ ldOne (.ptr (some p)) H = some (.str (strOfNums ws[i])) := by
  obtain ⟨b, o, h1, _, h3⟩ := Row.at h (i := i) (by simpa using hi)
  have := h3 0 (by omega)
  simp only [List.getElem_map, Nat.add_zero, List.getElem?_cons_zero] at this
  exact ⟨(b, o), h1, this⟩
end Go.Proofs.YthiflgncldmkjaaDoor
set_option linter.unusedVariables false
set_option linter.unusedSimpArgs false
set_option maxRecDepth 100000
namespace Go.Proofs.YthiflgncldmkjaaDoor
open Go.Ri

def isJ (i : Ins) : Prop := i.op = 17 ∨ i.op = 18
instance (i : Ins) : Decidable (isJ i) := by unfold isJ; infer_instance
def mvP (p n m : Nat) (q : Int) : Int := if q ≤ p then q else if q < (p + n : Nat) then p else q - n + m
def mvI (p n m : Nat) (i : Ins) : Ins := if isJ i then ⟨i.op, mvP p n m i.n, i.m⟩ else i
def doneP (L : List Ins) (p n : Nat) (put : List Ins) : List Ins := (L.take p ++ put ++ L.drop (p + n)).map (mvI p n put.length)
theorem mvI_op (p n m : Nat) (i : Ins) : (mvI p n m i).op = i.op := by unfold mvI; split <;> rfl
theorem mvI_tk (l : List Code) (p n m : Nat) (i : Ins) : tk l (mvI p n m i) = tk l i := by
  unfold mvI
  split
  · rename_i h
    unfold isJ at h
    have h1 : i.op ≠ 19 := by omega
    have h2 : i.op ≠ 20 := by omega
    simp [tk, h1, h2]
  · rfl
theorem mvI_lv (l : List Code) (p n m : Nat) (i : Ins) : lv l (mvI p n m i) = lv l i := by
  unfold mvI
  split
  · rename_i h
    unfold isJ at h
    have h1 : i.op ≠ 19 := by omega
    have h2 : i.op ≠ 20 := by omega
    simp [lv, h1, h2]
  · rfl
theorem mvI_ok {l : List Code} {p n m : Nat} {i : Ins} {x : Int} : okAt l (mvI p n m i) x ↔ okAt l i x := by
  unfold okAt
  rw [mvI_tk, mvI_op]

def wt (len : Nat) (i : Ins) : Nat := if isJ i then 2 + ((len : Int) - i.n).toNat else 1
def wsum (len : Nat) (L : List Ins) : Nat := (L.map (wt len)).sum
theorem wsum_append (len : Nat) (a b : List Ins) : wsum len (a ++ b) = wsum len a + wsum len b := by simp [wsum]

structure Step (l : List Code) (c : Code) (h : List Int) (p n : Nat) (put : List Ins) : Prop where
  pos : 1 ≤ n
  bound : p + n ≤ c.ins.length
  small : put.length ≤ n
  target : ∀ (a : Nat) (i : Ins) (x : Int), c.ins[a]? = some i → h[a]? = some x → 0 ≤ x → isJ i → ¬ ((p : Int) < i.n ∧ i.n < (p + n : Nat))
  body : (put = [] ∧ ((n = 1 ∧ h[p]? = some (-1)) ∨ ∃ x, 0 ≤ x ∧ h[p]? = some x ∧ h[p + n]? = some x)) ∨
    ∃ x i, put = [i] ∧ 0 ≤ x ∧ h[p]? = some x ∧ Done l i (p + n - 1) x h ∧ mayI l c i = true ∧ (isJ i → ¬ ((p : Int) < i.n ∧ i.n < (p + n : Nat)))
  less : wsum (c.ins.length - n + put.length) (put.map (mvI p n put.length)) < wsum c.ins.length ((c.ins.drop p).take n)

def baseO (p n m a : Nat) : Nat := if a < p then a else a + n - m
def oldO (p n m a : Nat) : Nat := if a < p then a else if a < p + m then p else a + n - m
theorem next_mv (p n m : Nat) (hm : m ≤ n) (i : Ins) (a : Nat) (ha : a < p ∨ p + m ≤ a + 1 ∧ p ≤ a) (hn : 1 ≤ n) : nextI (mvI p n m i) a = (nextI i (baseO p n m a)).map (mvP p n m) := by
  have h1 : mvP p n m ((baseO p n m a + 1 : Nat) : Int) = ((a + 1 : Nat) : Int) := by
    unfold baseO mvP
    split
    · rw [if_pos (by omega)]
    · by_cases h : a + n - m + 1 ≤ p
      · rw [if_pos (by omega)]; omega
      · rw [if_neg (by omega), if_neg (by omega)]; omega
  unfold nextI
  rw [mvI_op]
  by_cases e17 : i.op = 17
  · rw [if_pos e17, if_pos e17]
    simp [mvI, isJ, e17]
  · rw [if_neg e17, if_neg e17]
    by_cases e18 : i.op = 18
    · rw [if_pos e18, if_pos e18, List.map_cons, h1]
      simp [mvI, isJ, e18]
    · rw [if_neg e18, if_neg e18]
      by_cases e20 : i.op = 20
      · rw [if_pos e20, if_pos e20]; rfl
      · rw [if_neg e20, if_neg e20, List.map_cons, h1]; rfl

section
variable {l : List Code} {c : Code} {h : List Int} {p n : Nat} {put : List Ins}
theorem Step.len (S : Step l c h p n put) : (doneP c.ins p n put).length = c.ins.length - n + put.length := by
  have := S.bound
  simp [doneP]
  omega
theorem Step.mv (S : Step l c h p n put) {q : Nat} {x : Int} (hq : h[q]? = some x) (hx : 0 ≤ x) (ho : ¬ (p < q ∧ q < p + n)) :
    ∃ q' : Nat, mvP p n put.length (q : Nat) = q' ∧ h[oldO p n put.length q']? = some x := by
  unfold mvP oldO
  have hs := S.small
  have hp := S.pos
  by_cases h1 : q < p
  · exact ⟨q, by rw [if_pos (by omega)], by rw [if_pos h1]; exact hq⟩
  by_cases h2 : q = p
  · subst h2
    refine ⟨q, by rw [if_pos (by omega)], ?_⟩
    rw [if_neg (by omega)]
    rcases S.body with ⟨rfl, ⟨_, hb⟩ | ⟨y, _, hb1, hb2⟩⟩ | ⟨y, i, rfl, _, hb, _⟩
    · rw [hq] at hb
      have := Option.some.inj hb
      omega
    · rw [hq] at hb1
      simp only [List.length_nil, Nat.add_zero, Nat.lt_irrefl, if_false, Nat.sub_zero]
      rw [hb2, ← hb1]
    · simp only [List.length_cons, List.length_nil]
      rw [if_pos (by omega)]
      exact hq
  · refine ⟨q - n + put.length, ?_, ?_⟩
    · rw [if_neg (by omega), if_neg (by omega)]
      omega
    · rw [if_neg (by omega), if_neg (by omega)]
      rw [show q - n + put.length + n - put.length = q by omega]
      exact hq
theorem doneP_at (S : Step l c h p n put) {a : Nat} {i : Ins} (hi : (doneP c.ins p n put)[a]? = some i) :
    ∃ j, i = mvI p n put.length j ∧ ((a < p ∧ c.ins[a]? = some j) ∨ (p + put.length ≤ a ∧ c.ins[a + n - put.length]? = some j) ∨ (a = p ∧ put = [j])) := by
  have hb := S.bound
  simp only [doneP, List.getElem?_map, Option.map_eq_some_iff] at hi
  obtain ⟨j, hj, rfl⟩ := hi
  refine ⟨j, rfl, ?_⟩
  rw [List.append_assoc, List.getElem?_append] at hj
  rw [List.length_take, Nat.min_eq_left (by omega)] at hj
  split at hj
  · rename_i ha
    rw [List.getElem?_take, if_pos ha] at hj
    exact .inl ⟨ha, hj⟩
  · rename_i ha
    rw [List.getElem?_append] at hj
    split at hj
    · rename_i hl
      refine .inr (.inr ?_)
      rcases S.body with ⟨rfl, _⟩ | ⟨y, i, rfl, _⟩
      · simp at hl
      · simp at hl
        have : a = p := by omega
        subst this
        simp at hj
        exact ⟨rfl, by rw [hj]⟩
    · rename_i hl
      rw [List.getElem?_drop] at hj
      refine .inr (.inl ⟨by omega, ?_⟩)
      rw [← hj]
      congr 1
      have := S.small
      omega
theorem next_out (S : Step l c h p n put) (g : Good l c h) {a : Nat} {i : Ins} {x : Int} (hi : c.ins[a]? = some i) (hx : h[a]? = some x) (h0 : 0 ≤ x) (ho : a < p ∨ p + n ≤ a) {q : Nat} (hq : ((q : Nat) : Int) ∈ nextI i a) : ¬ (p < q ∧ q < p + n) := by
  have ht := S.target a i x hi hx h0
  unfold nextI at hq
  unfold isJ at ht
  split at hq
  · simp at hq
    intro hh
    exact ht (.inl ‹_›) (by omega)
  · split at hq
    · simp only [List.mem_cons, List.not_mem_nil, or_false] at hq
      rcases hq with hq | hq
      · omega
      · intro hh
        exact ht (.inr ‹_›) (by omega)
    · split at hq
      · simp at hq
      · simp at hq; omega
theorem Step.next (S : Step l c h p n put) (g : Good l c h) {a : Nat} {i : Ins} {x : Int} (hi : (doneP c.ins p n put)[a]? = some i) (hx : h[oldO p n put.length a]? = some x) (h0 : 0 ≤ x) :
    okAt l i x ∧ ∀ q ∈ nextI i a, ∃ q' : Nat, q = q' ∧ h[oldO p n put.length q']? = some (x - tk l i + lv l i) ∧ 0 ≤ x - tk l i + lv l i := by
  obtain ⟨j, rfl, hj⟩ := doneP_at S hi
  have hn := S.pos
  have hs := S.small
  have main : ∀ b, Done l j b x h → (b = baseO p n put.length a) → (a < p ∨ p + put.length ≤ a + 1 ∧ p ≤ a) → (∀ q : Nat, ((q : Nat) : Int) ∈ nextI j b → ¬ (p < q ∧ q < p + n)) →
      okAt l (mvI p n put.length j) x ∧ ∀ q ∈ nextI (mvI p n put.length j) a, ∃ q' : Nat, q = q' ∧ h[oldO p n put.length q']? = some (x - tk l (mvI p n put.length j) + lv l (mvI p n put.length j)) ∧ 0 ≤ x - tk l (mvI p n put.length j) + lv l (mvI p n put.length j) := by
    rintro b ⟨d1, d2⟩ rfl ha hout
    refine ⟨mvI_ok.2 d1, fun q hq => ?_⟩
    rw [next_mv p n put.length hs j a ha hn, List.mem_map] at hq
    obtain ⟨q0, hq0, rfl⟩ := hq
    obtain ⟨q1, rfl, hq1⟩ := d2 q0 hq0
    rw [mvI_tk, mvI_lv]
    have hnn : 0 ≤ x - tk l j + lv l j := by have := d1.1; have := lv_nonneg l j; omega
    obtain ⟨q', e, he⟩ := S.mv hq1 hnn (hout q1 hq0)
    exact ⟨q', e, he, hnn⟩
  rcases hj with ⟨ha, hj⟩ | ⟨ha, hj⟩ | ⟨rfl, rfl⟩
  · have ho : oldO p n put.length a = a := if_pos ha
    rw [ho] at hx
    exact main a (g.step a j x hj hx h0) (if_pos ha).symm (.inl ha) fun q hq => next_out S g hj hx h0 (.inl ha) hq
  · have ho : oldO p n put.length a = a + n - put.length := by unfold oldO; rw [if_neg (by omega), if_neg (by omega)]
    rw [ho] at hx
    exact main _ (g.step _ j x hj hx h0) (by unfold baseO; rw [if_neg (by omega)]) (.inr (by omega)) fun q hq => next_out S g hj hx h0 (.inr (by omega)) hq
  · have ho : oldO a n [j].length a = a := by unfold oldO; simp
    rw [ho] at hx
    rcases S.body with ⟨e, _⟩ | ⟨y, i, e, h0y, hb, hd, _, hjt⟩
    · cases e
    · cases e
      rw [hx] at hb
      cases hb
      refine main (a + n - 1) hd (by unfold baseO; simp) (.inr (by simp)) fun q hq hh => ?_
      unfold nextI at hq
      unfold isJ at hjt
      split at hq
      · simp at hq
        exact hjt (.inl ‹_›) (by omega)
      · split at hq
        · simp only [List.mem_cons, List.not_mem_nil, or_false] at hq
          rcases hq with hq | hq
          · omega
          · exact hjt (.inr ‹_›) (by omega)
        · split at hq
          · simp at hq
          · simp at hq; omega
theorem Step.start (S : Step l c h p n put) (g : Good l c h) : h[oldO p n put.length 0]? = some 0 := by
  have := S.mv g.zero (by omega) (by omega)
  obtain ⟨q', e, hq⟩ := this
  have : q' = 0 := by
    unfold mvP at e
    rw [if_pos (by omega)] at e
    omega
  subst this
  exact hq
theorem Step.reach (S : Step l c h p n put) (g : Good l c h) {a : Nat} (hr : Reach { c with ins := doneP c.ins p n put } a) : ∃ x, h[oldO p n put.length a]? = some x ∧ 0 ≤ x := by
  induction hr with
  | zero => exact ⟨0, S.start g, by omega⟩
  | step hr hi hp ih =>
    obtain ⟨x, hx, h0⟩ := ih
    obtain ⟨_, hn⟩ := S.next g hi hx h0
    obtain ⟨q', e, hq, h0'⟩ := hn _ hp
    have := Int.ofNat_inj.1 e
    subst this
    exact ⟨_, hq, h0'⟩
theorem oldO_lt (S : Step l c h p n put) (g : Good l c h) {a : Nat} (ha : oldO p n put.length a < c.ins.length) : a < (doneP c.ins p n put).length := by
  have := S.bound
  have := S.small
  have := S.pos
  rw [S.len]
  unfold oldO at ha
  split at ha
  · omega
  · split at ha <;> omega
open Classical in
noncomputable def newH (l : List Code) (c : Code) (h : List Int) (p n : Nat) (put : List Ins) : List Int :=
  (List.range (doneP c.ins p n put).length).map fun a => if Reach { c with ins := doneP c.ins p n put } a then (h[oldO p n put.length a]?).getD 0 else -1
theorem newH_at {a : Nat} (ha : a < (doneP c.ins p n put).length) : (newH l c h p n put)[a]? = some (open Classical in if Reach { c with ins := doneP c.ins p n put } a then (h[oldO p n put.length a]?).getD 0 else -1) := by
  unfold newH
  rw [List.getElem?_map, List.getElem?_range ha]
  rfl
theorem Step.good (S : Step l c h p n put) (g : Good l c h) (h1 : 1 ≤ c.ins.length) : Good l { c with ins := doneP c.ins p n put } (newH l c h p n put) := by
  have hlt : ∀ a x, h[oldO p n put.length a]? = some x → a < (doneP c.ins p n put).length := fun a x hx => by
    have := (List.getElem?_eq_some_iff.1 hx).1
    rw [g.len] at this
    exact oldO_lt S g this
  have hat : ∀ a x, Reach { c with ins := doneP c.ins p n put } a → h[oldO p n put.length a]? = some x → (newH l c h p n put)[a]? = some x := fun a x hr hx => by
    rw [newH_at (hlt a x hx), if_pos hr, hx]
    rfl
  refine ⟨by simp [newH], hat 0 0 .zero (S.start g), fun a i x hi hx h0 => ?_, fun a x hx => ?_⟩
  · have ha : a < (doneP c.ins p n put).length := (List.getElem?_eq_some_iff.1 hi).1
    rw [newH_at ha] at hx
    split at hx
    · rename_i hr
      obtain ⟨y, hy, h0y⟩ := S.reach g hr
      rw [hy] at hx
      cases hx
      obtain ⟨k1, k2⟩ := S.next g hi hy h0
      refine ⟨k1, fun q hq => ?_⟩
      obtain ⟨q', rfl, hq', _⟩ := k2 q hq
      exact ⟨q', rfl, hat q' _ (.step hr hi hq) hq'⟩
    · cases hx
      omega
  · have ha : a < (doneP c.ins p n put).length := by
      have := (List.getElem?_eq_some_iff.1 hx).1
      simpa [newH] using this
    rw [newH_at ha] at hx
    split at hx
    · rename_i hr
      obtain ⟨y, hy, h0y⟩ := S.reach g hr
      rw [hy] at hx
      cases hx
      exact .inr ⟨h0y, hr⟩
    · cases hx
      exact .inl rfl
theorem mayI_mv {c' : Code} (hc : c'.cells = c.cells) (ha : c'.answers = c.answers) {i : Ins} {n' m' : Nat} (hm : mayI l c i = true) (hj : isJ i → 0 ≤ mvP p n' m' i.n ∧ mvP p n' m' i.n < (c'.ins.length : Nat)) : mayI l c' (mvI p n' m' i) = true := by
  by_cases hji : isJ i
  · have hr := hj hji
    have hop := mayI_op hm
    unfold mayI at hm
    split at hm
    · cases hm
    · rename_i hl
      unfold mvI
      rw [if_pos hji]
      unfold isJ at hji
      have hns : (lineOf i.op (mvP p n' m' i.n) i.m).isNone = false := by
        have hl' : (lineOf i.op i.n i.m).isNone = false := by cases hh : (lineOf i.op i.n i.m).isNone <;> simp_all
        unfold lineOf at hl' ⊢
        have hnum : nums i.op = 1 := by rcases hji with e | e <;> rw [e] <;> decide
        rw [hnum] at hl' ⊢
        split at hl'
        · simp at hl'
        · rw [if_neg ‹_›]
          split at hl'
          · simp at hl'
          · rename_i hh
            rw [if_neg (by rintro (⟨h1, h2⟩ | ⟨h1, h2⟩); omega; exact hh (.inr ⟨by omega, h2⟩))]
            rfl
      unfold mayI
      rw [if_neg (by rw [hns]; simp), if_neg (by simp only; omega), if_neg (by simp only; omega), if_pos hji]
      simp only [Bool.and_eq_true, decide_eq_true_eq]
      exact hr
  · unfold mvI
    rw [if_neg hji]
    unfold isJ at hji
    have h17 : ¬ (i.op = 17 ∨ i.op = 18) := hji
    unfold mayI within at hm ⊢
    rw [hc, ha]
    rw [if_neg h17] at hm ⊢
    exact hm
theorem Step.may (S : Step l c h p n put) (g : Good l c h) (o : OwnOk l c) (first : ∀ a, a < p → ∃ x, h[a]? = some x ∧ 0 ≤ x) : OwnOk l { c with ins := doneP c.ins p n put } := by
  have hb := S.bound
  have hs := S.small
  have hp := S.pos
  have hlen : 1 ≤ (doneP c.ins p n put).length := by
    have := S.start g
    have := (List.getElem?_eq_some_iff.1 this).1
    rw [g.len] at this
    have := oldO_lt S g this
    omega
  have hlen' := S.len
  -- a target that is not in the way
  have rng : ∀ q : Int, 0 ≤ q → q < (c.ins.length : Nat) → (p < (doneP c.ins p n put).length ∨ ¬ ((p : Int) ≤ q ∧ q < (p + n : Nat))) → 0 ≤ mvP p n put.length q ∧ mvP p n put.length q < ((doneP c.ins p n put).length : Nat) := by
    intro q h0 h1 h2
    rw [hlen'] at h2 ⊢
    unfold mvP
    split
    · omega
    · split
      · omega
      · omega
  refine ⟨hlen, by rw [hlen']; have := o.few; omega, o.cells, o.params, fun i hi => ?_⟩
  obtain ⟨a, ha⟩ := List.mem_iff_getElem?.1 hi
  obtain ⟨j, rfl, hj⟩ := doneP_at S ha
  have jr : ∀ {j : Ins}, mayI l c j = true → isJ j → 0 ≤ j.n ∧ j.n < (c.ins.length : Nat) := by
    intro j hm hj
    unfold isJ at hj
    unfold mayI at hm
    split at hm
    · cases hm
    · split at hm
      · omega
      · split at hm
        · omega
        · simpa using hm
  have old : ∀ b, (b < p ∨ p + n ≤ b) → c.ins[b]? = some j → mayI l { c with ins := doneP c.ins p n put } (mvI p n put.length j) = true := by
    intro b hb' hbj
    have hm := o.may j (List.mem_of_getElem? hbj)
    refine mayI_mv (c := c) (c' := { c with ins := doneP c.ins p n put }) rfl rfl hm fun hjj => ?_
    have hr := jr hm hjj
    refine rng _ hr.1 hr.2 ?_
    by_cases hpl : p < (doneP c.ins p n put).length
    · exact .inl hpl
    · refine .inr fun hin => ?_
      rw [hlen'] at hpl
      rcases S.body with ⟨rfl, ⟨rfl, hun⟩ | ⟨x, _, _, hb2⟩⟩ | ⟨x, i, rfl, _⟩
      · have hjn : j.n = p := by omega
        have hbp : b < p := by
          rcases hb' with h | h
          · exact h
          · have := (List.getElem?_eq_some_iff.1 hbj).1
            simp at hpl
            omega
        obtain ⟨x, hx, h0x⟩ := first b hbp
        obtain ⟨_, hd⟩ := g.step b j x hbj hx h0x
        have hnx : ((p : Nat) : Int) ∈ nextI j b := by
          unfold isJ at hjj
          unfold nextI
          rcases hjj with e | e
          · rw [if_pos e, hjn]; simp
          · rw [if_neg (by omega), if_pos e, hjn]; simp
        obtain ⟨q, e, hq⟩ := hd _ hnx
        have := Int.ofNat_inj.1 e
        subst this
        rw [hun] at hq
        have := Option.some.inj hq
        have := (g.step b j x hbj hx h0x).1.1
        have := lv_nonneg l j
        omega
      · have := (List.getElem?_eq_some_iff.1 hb2).1
        rw [g.len] at this
        simp at hpl
        omega
      · simp at hpl
        omega
  rcases hj with ⟨ha', hj⟩ | ⟨ha', hj⟩ | ⟨rfl, rfl⟩
  · exact old a (.inl ha') hj
  · exact old _ (.inr (by omega)) hj
  · rcases S.body with ⟨e, _⟩ | ⟨y, i, e, _, _, _, hm, _⟩
    · cases e
    · cases e
      refine mayI_mv (c := c) (c' := { c with ins := doneP c.ins a n [j] }) rfl rfl hm fun hjj => ?_
      have hr := jr hm hjj
      exact rng _ hr.1 hr.2 (.inl (by rw [hlen']; simp; omega))
theorem wt_mv {len : Nat} (hb : p + n ≤ len) (hs : put.length ≤ n) (hs1 : put.length ≤ 1) (i : Ins) : wt (len - n + put.length) (mvI p n put.length i) ≤ wt len i := by
  unfold wt mvI
  by_cases hj : isJ i
  · have hj' : isJ (⟨i.op, mvP p n put.length i.n, i.m⟩ : Ins) := hj
    rw [if_pos hj, if_pos hj', if_pos hj]
    simp only [mvP]
    split
    · omega
    · split <;> omega
  · rw [if_neg hj, if_neg hj, if_neg hj]
    exact Nat.le_refl _
theorem wsum_mv {len : Nat} (hb : p + n ≤ len) (hs : put.length ≤ n) (hs1 : put.length ≤ 1) (L : List Ins) : wsum (len - n + put.length) (L.map (mvI p n put.length)) ≤ wsum len L := by
  induction L with
  | nil => exact Nat.le_refl _
  | cons i L ih =>
    have := wt_mv hb hs hs1 i
    simp only [wsum, List.map_cons, List.sum_cons] at ih ⊢
    omega
theorem Step.one (S : Step l c h p n put) : put.length ≤ 1 := by
  rcases S.body with ⟨rfl, _⟩ | ⟨y, i, rfl, _⟩ <;> simp
theorem Step.down (S : Step l c h p n put) : wsum (doneP c.ins p n put).length (doneP c.ins p n put) < wsum c.ins.length c.ins := by
  rw [S.len]
  have h1 := wsum_mv S.bound S.small S.one (c.ins.take p)
  have h2 := wsum_mv S.bound S.small S.one (c.ins.drop (p + n))
  have h3 := S.less
  have e : c.ins = c.ins.take p ++ ((c.ins.drop p).take n ++ c.ins.drop (p + n)) := by
    rw [← List.drop_drop, List.take_append_drop, List.take_append_drop]
  conv => rhs; rw [e]
  unfold doneP
  rw [List.map_append, List.map_append, wsum_append, wsum_append, wsum_append, wsum_append]
  have e2 : wsum (c.ins.take p ++ ((c.ins.drop p).take n ++ c.ins.drop (p + n))).length (c.ins.take p) = wsum c.ins.length (c.ins.take p) := by rw [← e]
  have e3 : ∀ X, wsum (c.ins.take p ++ ((c.ins.drop p).take n ++ c.ins.drop (p + n))).length X = wsum c.ins.length X := fun X => by rw [← e]
  rw [e3, e3, e3]
  omega
end
end Go.Proofs.YthiflgncldmkjaaDoor
set_option linter.unusedVariables false
set_option linter.unusedSimpArgs false
set_option maxRecDepth 100000
namespace Go.Proofs.YthiflgncldmkjaaDoor
open Go.Ri

def I0 : Ins := ⟨0, 0, 0⟩
def truthI (b : Bool) : Int := if b = true then 1 else 0
def pushI (n : Int) : Ins := ⟨1, n, 0⟩
def leftP (op a b : Int) : Option Int :=
  if op = 7 then some (IntKind.i64.wrap (a + b)) else if op = 8 then some (IntKind.i64.wrap (a - b)) else if op = 9 then some (IntKind.i64.wrap (a * b))
  else if op = 12 then some (truthI (decide (a < b))) else if op = 13 then some (truthI (decide (a ≤ b))) else if op = 14 then some (truthI (decide (a = b)))
  else if b = 0 then none else if op = 10 then some (IntKind.i64.wrap (a.tdiv b)) else if op = 11 then some (a.tmod b) else none
structure Chg where
  rule : Nat
  n : Nat
  put : List Ins
def singleP (R : Nat → Bool) (L : List Ins) (p : Nat) (i : Ins) : Chg :=
  if R p = false then ⟨1, 1, []⟩
  else if i.op = 17 ∧ i.n = (p + 1 : Nat) then ⟨2, 1, []⟩
  else if i.op = 18 ∧ i.n = (p + 1 : Nat) then ⟨3, 1, [⟨25, 0, 0⟩]⟩
  else if isJ i ∧ ((L[i.n.toNat]?).getD I0).op = 17 ∧ ((L[i.n.toNat]?).getD I0).n > i.n then ⟨4, 1, [⟨i.op, ((L[i.n.toNat]?).getD I0).n, 0⟩]⟩
  else ⟨0, 0, []⟩
def pairP (i j k : Ins) : Chg :=
  if i.op = 1 ∧ j.op = 16 then ⟨5, 2, [pushI (IntKind.i64.wrap (0 - i.n))]⟩
  else if i.op = 1 ∧ j.op = 15 then ⟨5, 2, [pushI (truthI (decide (i.n = 0)))]⟩
  else if i.op = 1 ∧ j.op = 1 ∧ (leftP k.op i.n j.n).isSome = true then ⟨6, 3, [pushI ((leftP k.op i.n j.n).getD 0)]⟩
  else if (i.op = 1 ∨ i.op = 2) ∧ j.op = 25 then ⟨7, 2, []⟩
  else if i.op = 1 ∧ i.n = 0 ∧ (j.op = 7 ∨ j.op = 8) then ⟨8, 2, []⟩
  else if i.op = 1 ∧ i.n = 1 ∧ (j.op = 9 ∨ j.op = 10) then ⟨8, 2, []⟩
  else if i.op = 2 ∧ j.op = 3 ∧ i.n = j.n then ⟨9, 2, []⟩
  else if i.op = 1 ∧ j.op = 18 ∧ i.n = 0 then ⟨10, 2, [⟨17, j.n, 0⟩]⟩
  else if i.op = 1 ∧ j.op = 18 then ⟨10, 2, []⟩
  else if i.op = 1 ∧ i.n ≠ 0 ∧ j.op = 23 then ⟨11, 2, []⟩
  else if i.op = 6 ∧ j.op = 6 ∧ j.n = i.n + i.m ∧ i.m + j.m ≤ 64 then ⟨12, 2, [⟨6, i.n, i.m + j.m⟩]⟩
  else ⟨0, 0, []⟩
def insAt (L : List Ins) (p : Nat) : Ins := (L[p]?).getD I0
def jAt (T : Nat → Bool) (L : List Ins) (p : Nat) : Ins := if T (p + 1) = true then I0 else insAt L (p + 1)
def kAt (T : Nat → Bool) (L : List Ins) (p : Nat) : Ins := if (jAt T L p).op = 0 ∨ T (p + 2) = true then I0 else insAt L (p + 2)
def ruleP (R T : Nat → Bool) (L : List Ins) (p : Nat) : Chg :=
  if (singleP R L p (insAt L p)).rule ≠ 0 then singleP R L p (insAt L p) else pairP (insAt L p) (jAt T L p) (kAt T L p)

theorem may_in (l : List Code) (c : Code) (op n m : Int) (h1 : 1 ≤ op ∧ op ≤ 25) (h2 : nums op < 1 → n = 0) (h3 : nums op < 2 → m = 0) : (lineOf op n m).isNone = false := by
  unfold lineOf
  rw [if_neg (by omega), if_neg (by rintro (⟨a, b⟩ | ⟨a, b⟩); exact b (h2 a); exact b (h3 a))]
  rfl
theorem may_push (l : List Code) (c : Code) (n : Int) : mayI l c (pushI n) = true := by
  have := may_in l c 1 n 0 (by omega) (fun h => absurd h (by decide)) (fun _ => rfl)
  simp [mayI, pushI, this]
theorem may_drop (l : List Code) (c : Code) : mayI l c ⟨25, 0, 0⟩ = true := by
  have := may_in l c 25 0 0 (by omega) (fun _ => rfl) (fun _ => rfl)
  simp [mayI, this]
theorem may_jump (l : List Code) (c : Code) {op n : Int} (ho : op = 17 ∨ op = 18) (h0 : 0 ≤ n) (h1 : n < (c.ins.length : Nat)) : mayI l c ⟨op, n, 0⟩ = true := by
  have hn : nums op = 1 := by rcases ho with rfl | rfl <;> decide
  have := may_in l c op n 0 (by omega) (fun h => by omega) (fun _ => rfl)
  rcases ho with rfl | rfl <;> simp [mayI, this, h0, h1]
theorem may_clear (l : List Code) (c : Code) {n m m' : Int} (h1 : mayI l c ⟨6, n, m⟩ = true) (h2 : mayI l c ⟨6, n + m, m'⟩ = true) (h : m + m' ≤ 64) : mayI l c ⟨6, n, m + m'⟩ = true := by
  have e := may_in l c 6 n (m + m') (by omega) (fun h => absurd h (by decide)) (fun h => absurd h (by decide))
  unfold mayI at h1 h2
  split at h1
  · cases h1
  split at h2
  · cases h2
  simp [within] at h1 h2
  simp [mayI, within, e]
  omega
theorem may_rng {l : List Code} {c : Code} {i : Ins} (hm : mayI l c i = true) (hj : isJ i) : 0 ≤ i.n ∧ i.n < (c.ins.length : Nat) := by
  unfold isJ at hj
  unfold mayI at hm
  split at hm
  · cases hm
  · rw [if_neg (by omega), if_neg (by omega)] at hm
    simpa using hm
theorem wt_pos (len : Nat) (i : Ins) : 1 ≤ wt len i := by
  unfold wt
  split <;> omega
theorem wsum_two {len p : Nat} {L : List Ins} {i j : Ins} (h1 : L[p]? = some i) (h2 : L[p + 1]? = some j) : wsum len ((L.drop p).take 2) = wt len i + wt len j := by
  have e : (L.drop p).take 2 = [i, j] := by
    apply List.ext_getElem?
    intro k
    rw [List.getElem?_take]
    match k with
    | 0 => simpa using h1
    | 1 => simpa using h2
    | k + 2 => simp; intro h; omega
  simp [e, wsum]
theorem wsum_one {len p : Nat} {L : List Ins} {i : Ins} (h1 : L[p]? = some i) : wsum len ((L.drop p).take 1) = wt len i := by
  have e : (L.drop p).take 1 = [i] := by
    apply List.ext_getElem?
    intro k
    rw [List.getElem?_take]
    match k with
    | 0 => simpa using h1
    | k + 1 => simp
  simp [e, wsum]
theorem wsum_three {len p : Nat} {L : List Ins} {i j k : Ins} (h1 : L[p]? = some i) (h2 : L[p + 1]? = some j) (h3 : L[p + 2]? = some k) : wsum len ((L.drop p).take 3) = wt len i + wt len j + wt len k := by
  have e : (L.drop p).take 3 = [i, j, k] := by
    apply List.ext_getElem?
    intro q
    rw [List.getElem?_take]
    match q with
    | 0 => simpa using h1
    | 1 => simpa using h2
    | 2 => simpa using h3
    | q + 3 => simp; intro h; omega
  simp [e, wsum]; omega

structure Seen (c : Code) (h : List Int) (R T : Nat → Bool) : Prop where
  reach : ∀ a x, h[a]? = some x → (R a = true ↔ 0 ≤ x)
  target : ∀ (a : Nat) (i : Ins) (x : Int), c.ins[a]? = some i → h[a]? = some x → 0 ≤ x → isJ i → T i.n.toNat = true
theorem insAt_some {L : List Ins} {p : Nat} {op : Int} (h : (insAt L p).op = op) (h0 : op ≠ 0) : L[p]? = some (insAt L p) := by
  unfold insAt at h ⊢
  cases he : L[p]? with
  | none => rw [he] at h; exact absurd h.symm h0
  | some i => rfl
theorem jAt_some {T : Nat → Bool} {L : List Ins} {p : Nat} (h0 : (jAt T L p).op ≠ 0) : T (p + 1) = false ∧ L[p + 1]? = some (jAt T L p) := by
  unfold jAt at h0 ⊢
  by_cases ht : T (p + 1) = true
  · rw [if_pos ht] at h0; exact absurd rfl h0
  · rw [if_neg ht] at h0 ⊢
    exact ⟨by simpa using ht, insAt_some rfl h0⟩
theorem kAt_some {T : Nat → Bool} {L : List Ins} {p : Nat} (h0 : (kAt T L p).op ≠ 0) : T (p + 2) = false ∧ L[p + 2]? = some (kAt T L p) := by
  unfold kAt at h0 ⊢
  by_cases ht : (jAt T L p).op = 0 ∨ T (p + 2) = true
  · rw [if_pos ht] at h0; exact absurd rfl h0
  · rw [if_neg ht] at h0 ⊢
    exact ⟨by simpa using fun h => ht (.inr h), insAt_some rfl h0⟩
section
variable {l : List Code} {c : Code} {h : List Int} {R T : Nat → Bool} {p : Nat}
theorem tgt_two (S : Seen c h R T) (h1 : T (p + 1) = false) : ∀ (a : Nat) (i : Ins) (x : Int), c.ins[a]? = some i → h[a]? = some x → 0 ≤ x → isJ i → ¬ ((p : Int) < i.n ∧ i.n < (p + 2 : Nat)) := by
  intro a i x hi hx h0 hj hh
  have := S.target a i x hi hx h0 hj
  rw [show i.n.toNat = p + 1 by omega, h1] at this
  cases this
theorem tgt_three (S : Seen c h R T) (h1 : T (p + 1) = false) (h2 : T (p + 2) = false) : ∀ (a : Nat) (i : Ins) (x : Int), c.ins[a]? = some i → h[a]? = some x → 0 ≤ x → isJ i → ¬ ((p : Int) < i.n ∧ i.n < (p + 3 : Nat)) := by
  intro a i x hi hx h0 hj hh
  have := S.target a i x hi hx h0 hj
  by_cases e : i.n.toNat = p + 1
  · rw [e, h1] at this; cases this
  · rw [show i.n.toNat = p + 2 by omega, h2] at this; cases this
theorem tgt_one : ∀ (a : Nat) (i : Ins) (x : Int), c.ins[a]? = some i → h[a]? = some x → 0 ≤ x → isJ i → ¬ ((p : Int) < i.n ∧ i.n < (p + 1 : Nat)) := by
  intro a i x hi hx h0 hj hh
  omega
theorem on {a : Nat} {i : Ins} {x : Int} (g : Good l c h) (hi : c.ins[a]? = some i) (hx : h[a]? = some x) (h0 : 0 ≤ x) (h17 : i.op ≠ 17) (h20 : i.op ≠ 20) : h[a + 1]? = some (x - tk l i + lv l i) ∧ 0 ≤ x - tk l i + lv l i ∧ tk l i ≤ x := by
  obtain ⟨ho, hd⟩ := g.step a i x hi hx h0
  have hm : ((a + 1 : Nat) : Int) ∈ nextI i a := by
    unfold nextI
    rw [if_neg h17]
    split
    · simp
    · simp
  obtain ⟨q, e, hq⟩ := hd _ hm
  have := Int.ofNat_inj.1 e
  subst this
  have := ho.1
  have := lv_nonneg l i
  exact ⟨hq, by omega, ho.1⟩
theorem tk_of {i : Ins} {op : Int} (h : i.op = op) (h1 : op ≠ 19) (h2 : op ≠ 20) : tk l i = takes op ∧ lv l i = leaves op := by
  subst h
  simp [tk, lv, h1, h2]
theorem ok_low {i : Ins} {x : Int} (h1 : tk l i ≤ x) (h2 : x ≤ 4096) (h3 : i.op ≠ 20) (h4 : i.op ≠ 24) : okAt l i x := ⟨h1, h2, fun h => absurd h h3, fun h => absurd h h4⟩
theorem done_on {i : Ins} {b : Nat} {x y : Int} (h1 : tk l i ≤ x) (h2 : x ≤ 4096) (h3 : i.op ≠ 20) (h4 : i.op ≠ 24) (h17 : i.op ≠ 17) (h18 : i.op ≠ 18) (hy : h[b + 1]? = some y) (e : y = x - tk l i + lv l i) : Done l i b x h := by
  refine ⟨ok_low h1 h2 h3 h4, fun q hq => ?_⟩
  unfold nextI at hq
  rw [if_neg h17, if_neg h18, if_neg h3] at hq
  simp at hq
  exact ⟨b + 1, by omega, by rw [hy, e]⟩
theorem two_none (S : Seen c h R T) (g : Good l c h) {i j : Ins} {x y : Int} (hi : c.ins[p]? = some i) (hj : c.ins[p + 1]? = some j) (hT : T (p + 1) = false) (hx : h[p]? = some x) (h0 : 0 ≤ x) (hy : h[p + 2]? = some y) (e : y = x) : Step l c h p 2 [] := by
  have hlt := (List.getElem?_eq_some_iff.1 hj).1
  refine ⟨by omega, by omega, by simp, tgt_two S hT, .inl ⟨rfl, .inr ⟨x, h0, hx, by rw [hy, e]⟩⟩, ?_⟩
  rw [wsum_two hi hj]
  have := wt_pos c.ins.length i
  simp [wsum]
  omega
theorem two_push (S : Seen c h R T) (g : Good l c h) {i j : Ins} {x y n : Int} (hi : c.ins[p]? = some i) (hj : c.ins[p + 1]? = some j) (hT : T (p + 1) = false) (hx : h[p]? = some x) (h0 : 0 ≤ x) (h1 : x ≤ 4096) (hy : h[p + 2]? = some y) (e : y = x + 1) : Step l c h p 2 [pushI n] := by
  have hlt := (List.getElem?_eq_some_iff.1 hj).1
  have ht : tk l (pushI n) = 0 ∧ lv l (pushI n) = 1 := by
    have := tk_of (l := l) (i := pushI n) (op := 1) rfl (by omega) (by omega)
    exact ⟨this.1.trans (by decide), this.2.trans (by decide)⟩
  refine ⟨by omega, by omega, by simp, tgt_two S hT, .inr ⟨x, _, rfl, h0, hx, ?_, may_push _ _ _, fun hj => ?_⟩, ?_⟩
  · exact done_on (b := p + 2 - 1) (y := y) (by omega) h1 (by simp [pushI]) (by simp [pushI]) (by simp [pushI]) (by simp [pushI]) (by rw [show p + 2 - 1 + 1 = p + 2 by omega]; exact hy) (by omega)
  · simp [isJ, pushI] at hj
  · rw [wsum_two hi hj]
    have := wt_pos c.ins.length i
    have := wt_pos c.ins.length j
    have hw : wt (c.ins.length - 2 + 1) (pushI n) = 1 := by simp [wt, isJ, pushI]
    have hv : mvI p 2 1 (pushI n) = pushI n := by simp [mvI, isJ, pushI]
    simp only [List.length_cons, List.length_nil, Nat.zero_add, List.map_cons, List.map_nil, hv, wsum, List.sum_cons, List.sum_nil, Nat.add_zero, hw]
    omega
theorem singleP_step (S : Seen c h R T) (g : Good l c h) (o : OwnOk l c) (hp : p < c.ins.length) (hr : (singleP R c.ins p (insAt c.ins p)).rule ≠ 0) : Step l c h p (singleP R c.ins p (insAt c.ins p)).n (singleP R c.ins p (insAt c.ins p)).put := by
  obtain ⟨i, hi⟩ : ∃ i, c.ins[p]? = some i := ⟨_, List.getElem?_eq_getElem hp⟩
  obtain ⟨x, hx⟩ : ∃ x, h[p]? = some x := ⟨_, List.getElem?_eq_getElem (by rw [g.len]; exact hp)⟩
  have hii : insAt c.ins p = i := by simp [insAt, hi]
  rw [hii] at hr ⊢
  have hm := o.may i (List.mem_of_getElem? hi)
  have hS := S.reach p x hx
  unfold singleP at hr ⊢
  split
  · rename_i hR
    have hx1 : x = -1 := by
      rcases g.reach p x hx with h | h
      · exact h
      · rw [hR] at hS; have := hS.2 h.1; cases this
    subst hx1
    refine ⟨by simp, by simp only; omega, by simp, tgt_one, .inl ⟨rfl, .inl ⟨rfl, hx⟩⟩, ?_⟩
    simp only
    rw [wsum_one hi]
    have := wt_pos c.ins.length i
    simp [wsum]
    omega
  · rename_i hR
    have h0 : 0 ≤ x := hS.1 (by simpa using hR)
    obtain ⟨ho, hd⟩ := g.step p i x hi hx h0
    rw [if_neg hR] at hr
    split
    · rename_i h2
      obtain ⟨q, e, hq⟩ := hd i.n (by unfold nextI; rw [if_pos h2.1]; simp)
      have : q = p + 1 := by omega
      subst this
      have ht := tk_of (l := l) h2.1 (by omega) (by omega)
      have t1 : takes 17 = 0 := by decide
      have t2 : leaves 17 = 0 := by decide
      refine ⟨by simp, by simp only; omega, by simp, tgt_one, .inl ⟨rfl, .inr ⟨x, h0, hx, ?_⟩⟩, ?_⟩
      · simp only
        rw [hq]
        congr 1
        omega
      · simp only
        rw [wsum_one hi]
        have := wt_pos c.ins.length i
        simp [wsum]
        omega
    · rename_i h2
      rw [if_neg h2] at hr
      split
      · rename_i h3
        obtain ⟨q, e, hq⟩ := hd ((p + 1 : Nat) : Int) (by unfold nextI; rw [if_neg (by omega), if_pos h3.1]; simp)
        have := Int.ofNat_inj.1 e
        subst this
        have ht := tk_of (l := l) h3.1 (by omega) (by omega)
        have t1 : takes 18 = 1 := by decide
        have t2 : leaves 18 = 0 := by decide
        have d1 := tk_of (l := l) (i := ⟨25, 0, 0⟩) (op := 25) rfl (by omega) (by omega)
        have d2 : takes 25 = 1 := by decide
        have d3 : leaves 25 = 0 := by decide
        have := ho.1
        refine ⟨by simp, by simp only; omega, by simp, tgt_one, .inr ⟨x, _, rfl, h0, hx, ?_, may_drop _ _, fun hj => by simp [isJ] at hj⟩, ?_⟩
        · simp only
          refine done_on (b := p + 1 - 1) (by omega) ho.2.1 (by simp) (by simp) (by simp) (by simp) (by rw [show p + 1 - 1 + 1 = p + 1 by omega]; exact hq) (by omega)
        · simp only
          rw [wsum_one hi]
          have hjj : isJ i := .inr h3.1
          have := may_rng hm hjj
          simp [wsum, mvI, isJ, wt]
          have h18 := h3.1
          simp [h18]
          omega
      · rename_i h3
        rw [if_neg h3] at hr
        split
        · rename_i h4
          obtain ⟨hj, ht17, htn⟩ := h4
          have hrg := may_rng hm hj
          have htl : i.n.toNat < c.ins.length := by omega
          obtain ⟨t, ht⟩ : ∃ t, c.ins[i.n.toNat]? = some t := ⟨_, List.getElem?_eq_getElem htl⟩
          simp only [ht, Option.getD_some] at ht17 htn ⊢
          have hmt := o.may t (List.mem_of_getElem? ht)
          have hrt := may_rng hmt (.inl ht17)
          have hmem : i.n ∈ nextI i p := by
            unfold isJ at hj
            unfold nextI
            rcases hj with e | e
            · rw [if_pos e]; simp
            · rw [if_neg (by omega), if_pos e]; simp
          obtain ⟨q, e, hq⟩ := hd i.n hmem
          have hqe : i.n.toNat = q := by omega
          rw [hqe] at ht
          have hnn : 0 ≤ x - tk l i + lv l i := by have := ho.1; have := lv_nonneg l i; omega
          obtain ⟨ho2, hd2⟩ := g.step q t _ ht hq hnn
          obtain ⟨r, e2, hr2⟩ := hd2 t.n (by unfold nextI; rw [if_pos ht17]; simp)
          have tt := tk_of (l := l) ht17 (by omega) (by omega)
          have t1 : takes 17 = 0 := by decide
          have t2 : leaves 17 = 0 := by decide
          have same : tk l ⟨i.op, t.n, 0⟩ = tk l i ∧ lv l ⟨i.op, t.n, 0⟩ = lv l i := by
            unfold isJ at hj
            rcases hj with e | e <;> simp [tk, lv, e]
          have ok4 : okAt l ⟨i.op, t.n, 0⟩ x := by
            obtain ⟨a1, a2, a3, a4⟩ := ho
            exact ⟨by rw [same.1]; exact a1, a2, fun h => by rw [same.1]; exact a3 h, a4⟩
          have nx4 : ∀ q' ∈ nextI ⟨i.op, t.n, 0⟩ (p + 1 - 1), ∃ r' : Nat, q' = r' ∧ h[r']? = some (x - tk l ⟨i.op, t.n, 0⟩ + lv l ⟨i.op, t.n, 0⟩) := by
            intro q' hq'
            rw [same.1, same.2]
            unfold nextI at hq'
            simp only at hq'
            split at hq'
            · simp at hq'
              refine ⟨r, by omega, ?_⟩
              rw [hr2]
              congr 1
              omega
            · split at hq'
              · simp only [List.mem_cons, List.not_mem_nil, or_false] at hq'
                rcases hq' with hq' | hq'
                · obtain ⟨s, e3, hs⟩ := hd ((p + 1 : Nat) : Int) (by unfold nextI; rw [if_neg (by assumption), if_pos (by assumption)]; simp)
                  exact ⟨s, by omega, hs⟩
                · refine ⟨r, by omega, ?_⟩
                  rw [hr2]
                  congr 1
                  omega
              · unfold isJ at hj
                omega
          refine ⟨by omega, by omega, by simp, tgt_one, ?_, ?_⟩
          · exact .inr ⟨x, _, rfl, h0, hx, ⟨ok4, nx4⟩, may_jump _ _ hj hrt.1 hrt.2, fun _ => by omega⟩
          · rw [wsum_one hi]
            have hj2 : isJ (⟨i.op, t.n, 0⟩ : Ins) := hj
            have hmv : mvI p 1 1 ⟨i.op, t.n, 0⟩ = ⟨i.op, t.n, 0⟩ := by
              unfold mvI mvP
              rw [if_pos hj2]
              simp only
              congr 1
              split
              · rfl
              · rw [if_neg (by omega)]; omega
            simp only [List.length_cons, List.length_nil, Nat.zero_add, List.map_cons, List.map_nil, hmv, wsum, List.sum_cons, List.sum_nil, Nat.add_zero]
            unfold wt
            rw [if_pos hj2, if_pos hj]
            simp only
            omega
        · rename_i h4
          rw [if_neg h4] at hr
          exact absurd rfl hr
theorem chg_ite {q : Prop} [Decidable q] {a b : Chg} {M : Chg → Prop} (h1 : q → M a) (h2 : ¬ q → M b) : M (if q then a else b) := by
  by_cases h : q
  · rw [if_pos h]; exact h1 h
  · rw [if_neg h]; exact h2 h
set_option maxHeartbeats 1000000 in
theorem pairP_step (S : Seen c h R T) (g : Good l c h) (o : OwnOk l c) (hp : p < c.ins.length) (hRp : R p = true) (hr : (pairP (insAt c.ins p) (jAt T c.ins p) (kAt T c.ins p)).rule ≠ 0) :
    Step l c h p (pairP (insAt c.ins p) (jAt T c.ins p) (kAt T c.ins p)).n (pairP (insAt c.ins p) (jAt T c.ins p) (kAt T c.ins p)).put := by
  obtain ⟨i, hi⟩ : ∃ i, c.ins[p]? = some i := ⟨_, List.getElem?_eq_getElem hp⟩
  obtain ⟨x, hx⟩ : ∃ x, h[p]? = some x := ⟨_, List.getElem?_eq_getElem (by rw [g.len]; exact hp)⟩
  have hii : insAt c.ins p = i := by simp [insAt, hi]
  rw [hii] at hr ⊢
  have hm := o.may i (List.mem_of_getElem? hi)
  have h0 : 0 ≤ x := (S.reach p x hx).1 hRp
  obtain ⟨ho, hd⟩ := g.step p i x hi hx h0
  have hx1 := ho.2.1
  have hjs : ∀ op : Int, op ≠ 0 → (jAt T c.ins p).op = op → T (p + 1) = false ∧ c.ins[p + 1]? = some (jAt T c.ins p) := fun op h1 h2 => jAt_some (by rw [h2]; exact h1)
  have hks : ∀ op : Int, op ≠ 0 → (kAt T c.ins p).op = op → T (p + 2) = false ∧ c.ins[p + 2]? = some (kAt T c.ins p) := fun op h1 h2 => kAt_some (by rw [h2]; exact h1)
  generalize jAt T c.ins p = j at hr hjs ⊢
  generalize kAt T c.ins p = k at hr hks ⊢
  have v1 : takes 1 = 0 ∧ leaves 1 = 1 := by decide
  have v2 : takes 2 = 0 ∧ leaves 2 = 1 := by decide
  have v3 : takes 3 = 1 ∧ leaves 3 = 0 := by decide
  have v7 : takes 7 = 2 ∧ leaves 7 = 1 := by decide
  have v8 : takes 8 = 2 ∧ leaves 8 = 1 := by decide
  have v9 : takes 9 = 2 ∧ leaves 9 = 1 := by decide
  have v10 : takes 10 = 2 ∧ leaves 10 = 1 := by decide
  have v11 : takes 11 = 2 ∧ leaves 11 = 1 := by decide
  have v12 : takes 12 = 2 ∧ leaves 12 = 1 := by decide
  have v13 : takes 13 = 2 ∧ leaves 13 = 1 := by decide
  have v14 : takes 14 = 2 ∧ leaves 14 = 1 := by decide
  have v15 : takes 15 = 1 ∧ leaves 15 = 1 := by decide
  have v16 : takes 16 = 1 ∧ leaves 16 = 1 := by decide
  have v18 : takes 18 = 1 ∧ leaves 18 = 0 := by decide
  have v23 : takes 23 = 1 ∧ leaves 23 = 0 := by decide
  have v25 : takes 25 = 1 ∧ leaves 25 = 0 := by decide
  have v6 : takes 6 = 0 ∧ leaves 6 = 0 := by decide
  -- i, then j: what the heights are
  have go : ∀ (oi oj : Int), i.op = oi → j.op = oj → oi ≠ 17 → oi ≠ 19 → oi ≠ 20 → oj ≠ 0 → oj ≠ 17 → oj ≠ 19 → oj ≠ 20 →
      T (p + 1) = false ∧ c.ins[p + 1]? = some j ∧ h[p + 1]? = some (x - takes oi + leaves oi) ∧ 0 ≤ x - takes oi + leaves oi ∧ h[p + 2]? = some (x - takes oi + leaves oi - takes oj + leaves oj) ∧ takes oj ≤ x - takes oi + leaves oi := by
    intro oi oj ei ej a1 a2 a3 b0 b1 b2 b3
    obtain ⟨k1, k2⟩ := hjs oj b0 ej
    have ti := tk_of (l := l) ei a2 a3
    have tj := tk_of (l := l) ej b2 b3
    obtain ⟨q1, q2, q3⟩ := on g hi hx h0 (by omega) (by omega)
    rw [ti.1, ti.2] at q1 q2
    obtain ⟨r1, r2, r3⟩ := on g k2 q1 q2 (by omega) (by omega)
    rw [tj.1, tj.2] at r1
    rw [tj.1] at r3
    exact ⟨k1, k2, q1, q2, r1, r3⟩
  let M : Chg → Prop := fun X => X.rule ≠ 0 → Step l c h p X.n X.put
  revert hr
  show M (pairP i j k)
  unfold pairP
  refine chg_ite (fun e _ => ?_) fun e1 => ?_
  · skip
    obtain ⟨k1, k2, _, _, k3, _⟩ := go 1 16 e.1 e.2 (by omega) (by omega) (by omega) (by omega) (by omega) (by omega) (by omega)
    exact two_push S g hi k2 k1 hx h0 hx1 k3 (by omega)
  refine chg_ite (fun e _ => ?_) fun e2 => ?_
  · skip
    obtain ⟨k1, k2, _, _, k3, _⟩ := go 1 15 e.1 e.2 (by omega) (by omega) (by omega) (by omega) (by omega) (by omega) (by omega)
    exact two_push S g hi k2 k1 hx h0 hx1 k3 (by omega)
  refine chg_ite (fun e _ => ?_) fun e3 => ?_
  · skip
    obtain ⟨k1, k2, m1, m2, k3, _⟩ := go 1 1 e.1 e.2.1 (by omega) (by omega) (by omega) (by omega) (by omega) (by omega) (by omega)
    have hk : ∃ ok : Int, k.op = ok ∧ takes ok = 2 ∧ leaves ok = 1 ∧ ok ≠ 0 ∧ ok ≠ 17 ∧ ok ≠ 19 ∧ ok ≠ 20 := by
      have := e.2.2
      unfold leftP at this
      by_cases q7 : k.op = 7
      · exact ⟨7, q7, v7.1, v7.2, by omega, by omega, by omega, by omega⟩
      by_cases q8 : k.op = 8
      · exact ⟨8, q8, v8.1, v8.2, by omega, by omega, by omega, by omega⟩
      by_cases q9 : k.op = 9
      · exact ⟨9, q9, v9.1, v9.2, by omega, by omega, by omega, by omega⟩
      by_cases q12 : k.op = 12
      · exact ⟨12, q12, v12.1, v12.2, by omega, by omega, by omega, by omega⟩
      by_cases q13 : k.op = 13
      · exact ⟨13, q13, v13.1, v13.2, by omega, by omega, by omega, by omega⟩
      by_cases q14 : k.op = 14
      · exact ⟨14, q14, v14.1, v14.2, by omega, by omega, by omega, by omega⟩
      by_cases q10 : k.op = 10
      · exact ⟨10, q10, v10.1, v10.2, by omega, by omega, by omega, by omega⟩
      by_cases q11 : k.op = 11
      · exact ⟨11, q11, v11.1, v11.2, by omega, by omega, by omega, by omega⟩
      rw [if_neg q7, if_neg q8, if_neg q9, if_neg q12, if_neg q13, if_neg q14] at this
      split at this
      · simp at this
      · simp at this
    obtain ⟨ok, ek, t1, t2, n0, n17, n19, n20⟩ := hk
    obtain ⟨f1, f2⟩ := hks ok n0 ek
    have hlt := (List.getElem?_eq_some_iff.1 f2).1
    obtain ⟨s1, s2, s3⟩ := on g f2 k3 (by omega) (by omega) (by omega)
    have tk3 := tk_of (l := l) ek n19 n20
    have ht : ∀ n, tk l (pushI n) = 0 ∧ lv l (pushI n) = 1 := fun n => by
      have := tk_of (l := l) (i := pushI n) (op := 1) rfl (by omega) (by omega)
      exact ⟨this.1.trans (by decide), this.2.trans (by decide)⟩
    refine ⟨by simp, by simp only; omega, by simp, tgt_three S k1 f1, .inr ⟨x, _, rfl, h0, hx, ?_, may_push _ _ _, fun hj => by simp [isJ, pushI] at hj⟩, ?_⟩
    · have := ht ((leftP k.op i.n j.n).getD 0)
      simp only
      refine done_on (b := p + 3 - 1) (by omega) hx1 (by simp [pushI]) (by simp [pushI]) (by simp [pushI]) (by simp [pushI]) (by rw [show p + 3 - 1 + 1 = p + 2 + 1 by omega]; exact s1) (by omega)
    · simp only
      rw [wsum_three hi k2 f2]
      have := wt_pos c.ins.length i
      have := wt_pos c.ins.length j
      have := wt_pos c.ins.length k
      have hw : wt (c.ins.length - 3 + 1) (pushI ((leftP k.op i.n j.n).getD 0)) = 1 := by simp [wt, isJ, pushI]
      have hv : mvI p 3 1 (pushI ((leftP k.op i.n j.n).getD 0)) = pushI ((leftP k.op i.n j.n).getD 0) := by simp [mvI, isJ, pushI]
      simp only [List.length_cons, List.length_nil, Nat.zero_add, List.map_cons, List.map_nil, hv, wsum, List.sum_cons, List.sum_nil, Nat.add_zero, hw]
      omega
  refine chg_ite (fun e _ => ?_) fun e4 => ?_
  · skip
    rcases e with ⟨e | e, ej⟩
    · obtain ⟨k1, k2, _, _, k3, _⟩ := go 1 25 e ej (by omega) (by omega) (by omega) (by omega) (by omega) (by omega) (by omega)
      exact two_none S g hi k2 k1 hx h0 k3 (by omega)
    · obtain ⟨k1, k2, _, _, k3, _⟩ := go 2 25 e ej (by omega) (by omega) (by omega) (by omega) (by omega) (by omega) (by omega)
      exact two_none S g hi k2 k1 hx h0 k3 (by omega)
  refine chg_ite (fun e _ => ?_) fun e5 => ?_
  · skip
    rcases e with ⟨e, _, ej | ej⟩
    · obtain ⟨k1, k2, _, _, k3, _⟩ := go 1 7 e ej (by omega) (by omega) (by omega) (by omega) (by omega) (by omega) (by omega)
      exact two_none S g hi k2 k1 hx h0 k3 (by omega)
    · obtain ⟨k1, k2, _, _, k3, _⟩ := go 1 8 e ej (by omega) (by omega) (by omega) (by omega) (by omega) (by omega) (by omega)
      exact two_none S g hi k2 k1 hx h0 k3 (by omega)
  refine chg_ite (fun e _ => ?_) fun e6 => ?_
  · skip
    rcases e with ⟨e, _, ej | ej⟩
    · obtain ⟨k1, k2, _, _, k3, _⟩ := go 1 9 e ej (by omega) (by omega) (by omega) (by omega) (by omega) (by omega) (by omega)
      exact two_none S g hi k2 k1 hx h0 k3 (by omega)
    · obtain ⟨k1, k2, _, _, k3, _⟩ := go 1 10 e ej (by omega) (by omega) (by omega) (by omega) (by omega) (by omega) (by omega)
      exact two_none S g hi k2 k1 hx h0 k3 (by omega)
  refine chg_ite (fun e _ => ?_) fun e7 => ?_
  · skip
    obtain ⟨k1, k2, _, _, k3, _⟩ := go 2 3 e.1 e.2.1 (by omega) (by omega) (by omega) (by omega) (by omega) (by omega) (by omega)
    exact two_none S g hi k2 k1 hx h0 k3 (by omega)
  refine chg_ite (fun e _ => ?_) fun e8 => ?_
  · skip
    obtain ⟨k1, k2, m1, m2, k3, m3⟩ := go 1 18 e.1 e.2.1 (by omega) (by omega) (by omega) (by omega) (by omega) (by omega) (by omega)
    have hlt := (List.getElem?_eq_some_iff.1 k2).1
    have hmj := o.may j (List.mem_of_getElem? k2)
    have hjj : isJ j := .inr e.2.1
    have hrj := may_rng hmj hjj
    obtain ⟨_, hdj⟩ := g.step (p + 1) j _ k2 m1 m2
    obtain ⟨q, eq, hq⟩ := hdj j.n (by unfold nextI; rw [if_neg (by omega), if_pos e.2.1]; simp)
    have tj := tk_of (l := l) e.2.1 (by omega) (by omega)
    have tn := tk_of (l := l) (i := ⟨17, j.n, 0⟩) (op := 17) rfl (by omega) (by omega)
    have v17 : takes 17 = 0 ∧ leaves 17 = 0 := by decide
    refine ⟨by simp, by simp only; omega, by simp, tgt_two S k1, .inr ⟨x, _, rfl, h0, hx, ⟨ok_low (by omega) hx1 (by simp) (by simp), fun q' hq' => ?_⟩, may_jump _ _ (.inl rfl) hrj.1 hrj.2, fun _ => ?_⟩, ?_⟩
    · unfold nextI at hq'
      simp at hq'
      refine ⟨q, by omega, ?_⟩
      rw [hq]
      congr 1
      omega
    · exact tgt_two S k1 (p + 1) j _ k2 m1 m2 hjj
    · simp only
      rw [wsum_two hi k2]
      have hw := wt_mv (put := [(⟨17, j.n, 0⟩ : Ins)]) (p := p) (n := 2) (len := c.ins.length) (by omega) (by simp) (by simp) ⟨17, j.n, 0⟩
      have hw2 : wt c.ins.length ⟨17, j.n, 0⟩ = wt c.ins.length j := by
        have h1 : isJ (⟨17, j.n, 0⟩ : Ins) := .inl rfl
        unfold wt
        rw [if_pos h1, if_pos hjj]
      have := wt_pos c.ins.length i
      simp only [List.map_cons, List.map_nil, wsum, List.sum_cons, List.sum_nil, Nat.add_zero]
      omega
  refine chg_ite (fun e _ => ?_) fun e9 => ?_
  · skip
    obtain ⟨k1, k2, _, _, k3, _⟩ := go 1 18 e.1 e.2 (by omega) (by omega) (by omega) (by omega) (by omega) (by omega) (by omega)
    exact two_none S g hi k2 k1 hx h0 k3 (by omega)
  refine chg_ite (fun e _ => ?_) fun e10 => ?_
  · skip
    obtain ⟨k1, k2, _, _, k3, _⟩ := go 1 23 e.1 e.2.2 (by omega) (by omega) (by omega) (by omega) (by omega) (by omega) (by omega)
    exact two_none S g hi k2 k1 hx h0 k3 (by omega)
  refine chg_ite (fun e _ => ?_) fun e11 => ?_
  · skip
    obtain ⟨k1, k2, _, _, k3, _⟩ := go 6 6 e.1 e.2.1 (by omega) (by omega) (by omega) (by omega) (by omega) (by omega) (by omega)
    have hlt := (List.getElem?_eq_some_iff.1 k2).1
    have hmj := o.may j (List.mem_of_getElem? k2)
    obtain ⟨iop, inn, im⟩ := i
    obtain ⟨jop, jn, jm⟩ := j
    simp only at e
    obtain ⟨rfl, rfl, rfl, e64⟩ := e
    have tn := tk_of (l := l) (i := ⟨6, inn, im + jm⟩) (op := 6) rfl (by omega) (by omega)
    refine ⟨by simp, by simp only; omega, by simp, tgt_two S k1, .inr ⟨x, _, rfl, h0, hx, ?_, may_clear _ _ hm hmj e64, fun hj => by simp [isJ] at hj⟩, ?_⟩
    · simp only
      exact done_on (b := p + 2 - 1) (by omega) hx1 (by simp) (by simp) (by simp) (by simp) (by rw [show p + 2 - 1 + 1 = p + 2 by omega]; exact k3) (by omega)
    · simp only
      rw [wsum_two hi k2]
      simp [wsum, mvI, isJ, wt]
  exact fun h => absurd rfl h
theorem ruleP_step (S : Seen c h R T) (g : Good l c h) (o : OwnOk l c) (hp : p < c.ins.length) (hr : (ruleP R T c.ins p).rule ≠ 0) : Step l c h p (ruleP R T c.ins p).n (ruleP R T c.ins p).put := by
  unfold ruleP at hr ⊢
  split
  · exact singleP_step S g o hp ‹_›
  · rename_i h1
    rw [if_neg h1] at hr
    refine pairP_step S g o hp ?_ hr
    cases hR : R p
    · refine absurd ?_ h1
      simp [singleP, hR]
    · rfl
end
end Go.Proofs.YthiflgncldmkjaaDoor
set_option linter.unusedVariables false
set_option linter.unusedSimpArgs false
set_option maxRecDepth 100000
namespace Go.Proofs.YthiflgncldmkjaaDoor
open Go.Ri

theorem Reach.ins {c c' : Code} (e : c.ins = c'.ins) {a : Nat} (h : Reach c a) : Reach c' a := by
  induction h with
  | zero => exact .zero
  | step hr hi hp ih => exact .step ih (e ▸ hi) hp
def bareC (L : List Ins) : Code := ⟨L, 0, 0, false⟩
open Classical in
noncomputable def reachL (L : List Ins) (a : Nat) : Bool := decide (Reach (bareC L) a)
open Classical in
noncomputable def targL (L : List Ins) (t : Nat) : Bool := decide (∃ a i, Reach (bareC L) a ∧ L[a]? = some i ∧ isJ i ∧ i.n = (t : Nat))
theorem reachL_iff {L : List Ins} {c : Code} (e : c.ins = L) {a : Nat} : reachL L a = true ↔ Reach c a := by
  unfold reachL
  rw [@decide_eq_true_iff _ (Classical.propDecidable _)]
  exact ⟨fun h => h.ins e.symm, fun h => h.ins e⟩
theorem targL_iff {L : List Ins} {t : Nat} : targL L t = true ↔ ∃ a i, Reach (bareC L) a ∧ L[a]? = some i ∧ isJ i ∧ i.n = (t : Nat) := by
  unfold targL
  rw [@decide_eq_true_iff _ (Classical.propDecidable _)]
noncomputable def fitP (L : List Ins) (p : Nat) : Chg := ruleP (reachL L) (targL L) L p
noncomputable def firstP (L : List Ins) : Nat → Nat → Option Nat
  | 0, _ => none
  | k + 1, p => if (fitP L p).rule = 0 then firstP L k (p + 1) else some p
noncomputable def onceP (L : List Ins) : Option (List Ins) := (firstP L L.length 0).map fun p => doneP L p (fitP L p).n (fitP L p).put
theorem firstP_some {L : List Ins} : ∀ {k p q : Nat}, firstP L k p = some q → p ≤ q ∧ q < p + k ∧ (fitP L q).rule ≠ 0 ∧ ∀ r, p ≤ r → r < q → (fitP L r).rule = 0
  | 0, p, q, h => by cases h
  | k + 1, p, q, h => by
    unfold firstP at h
    split at h
    · rename_i h0
      obtain ⟨h1, h2, h3, h4⟩ := firstP_some h
      refine ⟨by omega, by omega, h3, fun r hr hr2 => ?_⟩
      by_cases e : r = p
      · rw [e]; exact h0
      · exact h4 r (by omega) hr2
    · rename_i h0
      cases h
      exact ⟨Nat.le_refl _, by omega, h0, fun r hr hr2 => by omega⟩
theorem firstP_none {L : List Ins} : ∀ {k p : Nat}, firstP L k p = none → ∀ r, p ≤ r → r < p + k → (fitP L r).rule = 0
  | 0, p, h, r, h1, h2 => by omega
  | k + 1, p, h, r, h1, h2 => by
    unfold firstP at h
    split at h
    · by_cases e : r = p
      · rw [e]; assumption
      · exact firstP_none h r (by omega) (by omega)
    · cases h
theorem firstP_at {L : List Ins} {q : Nat} (h1 : (fitP L q).rule ≠ 0) : ∀ (k p : Nat), p ≤ q → q < p + k → (∀ r, p ≤ r → r < q → (fitP L r).rule = 0) → firstP L k p = some q
  | 0, p, h2, h3, _ => by omega
  | k + 1, p, h2, h3, h4 => by
    unfold firstP
    by_cases e : p = q
    · subst e; rw [if_neg h1]
    · rw [if_pos (h4 p (Nat.le_refl _) (by omega))]
      exact firstP_at h1 k (p + 1) (by omega) (by omega) fun r hr hr2 => h4 r (by omega) hr2
theorem firstP_no {L : List Ins} : ∀ (k p : Nat), (∀ r, p ≤ r → r < p + k → (fitP L r).rule = 0) → firstP L k p = none
  | 0, p, _ => rfl
  | k + 1, p, h => by
    unfold firstP
    rw [if_pos (h p (Nat.le_refl _) (by omega))]
    exact firstP_no k (p + 1) fun r hr hr2 => h r (by omega) (by omega)

def Snd (l : List Code) (c : Code) : Prop := OwnOk l c ∧ ∃ h, Good l c h
theorem seen_of {l : List Code} {c : Code} {h : List Int} (g : Good l c h) : Seen c h (reachL c.ins) (targL c.ins) := by
  refine ⟨fun a x hx => ?_, fun a i x hi hx h0 hj => ?_⟩
  · rw [reachL_iff rfl]
    refine ⟨fun hr => ?_, fun h0 => ?_⟩
    · obtain ⟨y, hy, h0⟩ := g.at_reach hr
      rw [hx] at hy
      cases hy
      exact h0
    · rcases g.reach a x hx with h | h
      · omega
      · exact h.2
  · rcases g.reach a x hx with h | ⟨_, hr⟩
    · omega
    · refine targL_iff.2 ⟨a, i, Reach.ins (c := c) (c' := bareC c.ins) rfl hr, hi, hj, ?_⟩
      -- a target is a number of a place
      obtain ⟨_, hd⟩ := g.step a i x hi hx h0
      obtain ⟨q, e, _⟩ := hd i.n (by unfold isJ at hj; unfold nextI; rcases hj with e | e; rw [if_pos e]; simp; rw [if_neg (by omega), if_pos e]; simp)
      omega
theorem fit_step {l : List Code} {c : Code} {h : List Int} (g : Good l c h) (o : OwnOk l c) {p : Nat} (hp : p < c.ins.length) (hr : (fitP c.ins p).rule ≠ 0) : Step l c h p (fitP c.ins p).n (fitP c.ins p).put :=
  ruleP_step (seen_of g) g o hp hr
theorem fit_zero {L : List Ins} {p : Nat} (h : (fitP L p).rule = 0) : reachL L p = true := by
  cases hR : reachL L p
  · unfold fitP ruleP singleP at h
    simp [hR] at h
  · rfl
theorem once_snd {l : List Code} {c : Code} (s : Snd l c) {L : List Ins} (h : onceP c.ins = some L) : Snd l { c with ins := L } ∧ wsum L.length L < wsum c.ins.length c.ins ∧ L.length ≤ c.ins.length := by
  obtain ⟨o, hs, g⟩ := s
  simp only [onceP, Option.map_eq_some_iff] at h
  obtain ⟨p, hp, rfl⟩ := h
  obtain ⟨_, h1, h2, h3⟩ := firstP_some hp
  have hpl : p < c.ins.length := by omega
  have S := fit_step g o hpl h2
  refine ⟨⟨S.may g o fun a ha => ?_, _, S.good g o.some_⟩, S.down, by rw [S.len]; have := S.small; have := S.bound; omega⟩
  have := fit_zero (h3 a (by omega) ha)
  exact g.at_reach ((reachL_iff rfl).1 this)
inductive Makes : List Ins → List Ins → Prop where
  | stop {L : List Ins} : onceP L = none → Makes L L
  | more {L L1 L2 : List Ins} : onceP L = some L1 → Makes L1 L2 → Makes L L2
theorem Makes.one {L A B : List Ins} (h : Makes L A) (k : Makes L B) : A = B := by
  induction h with
  | stop h0 =>
    cases k with
    | stop _ => rfl
    | more h1 _ => rw [h0] at h1; cases h1
  | more h0 _ ih =>
    cases k with
    | stop h1 => rw [h0] at h1; cases h1
    | more h1 k => rw [h0] at h1; cases h1; exact ih k
theorem Makes.last {L A : List Ins} (h : Makes L A) : onceP A = none := by
  induction h with
  | stop h => exact h
  | more _ _ ih => exact ih
theorem Makes.snd {l : List Code} {L A : List Ins} (h : Makes L A) : ∀ {c : Code}, c.ins = L → Snd l c → Snd l { c with ins := A } ∧ A.length ≤ L.length := by
  induction h with
  | stop _ => rintro c rfl s; exact ⟨s, Nat.le_refl _⟩
  | more h0 _ ih =>
    rintro c rfl s
    obtain ⟨s1, _, hl⟩ := once_snd s h0
    obtain ⟨s2, hl2⟩ := ih (c := { c with ins := _ }) rfl s1
    exact ⟨s2, by omega⟩
structure Alike (l l' : List Code) : Prop where
  len : l.length = l'.length
  at_ : ∀ k : Nat, (l[k]?).map (fun c => (c.params, c.answers)) = (l'[k]?).map (fun c => (c.params, c.answers))
theorem Alike.refl (l : List Code) : Alike l l := ⟨rfl, fun _ => rfl⟩
theorem Alike.symm {l l' : List Code} (h : Alike l l') : Alike l' l := ⟨h.len.symm, fun k => (h.at_ k).symm⟩
theorem Alike.trans {l l' l'' : List Code} (h : Alike l l') (k : Alike l' l'') : Alike l l'' := ⟨h.len.trans k.len, fun j => (h.at_ j).trans (k.at_ j)⟩
theorem Alike.set {l : List Code} {k : Nat} {c : Code} (hc : l[k]? = some c) (L : List Ins) : Alike l (l.set k { c with ins := L }) := by
  refine ⟨by simp, fun j => ?_⟩
  by_cases e : k = j
  · subst e
    rw [List.getElem?_set_self (List.getElem?_eq_some_iff.1 hc).1, hc]
    rfl
  · rw [List.getElem?_set_ne e]
theorem Alike.params {l l' : List Code} (h : Alike l l') (n : Int) : paramsAt l n = paramsAt l' n := by
  have := h.at_ n.toNat
  unfold paramsAt
  cases h1 : l[n.toNat]? <;> cases h2 : l'[n.toNat]? <;> simp [h1, h2] at this ⊢
  exact this.1
theorem Alike.answers {l l' : List Code} (h : Alike l l') (n : Int) : answersAt l n = answersAt l' n := by
  have := h.at_ n.toNat
  unfold answersAt
  cases h1 : l[n.toNat]? <;> cases h2 : l'[n.toNat]? <;> simp [h1, h2] at this ⊢
  exact this.2
theorem Alike.may {l l' : List Code} (h : Alike l l') (c : Code) (i : Ins) : mayI l c i = mayI l' c i := by
  unfold mayI
  rw [h.len, h.params]
theorem Alike.tk {l l' : List Code} (h : Alike l l') (i : Ins) : Go.Proofs.YthiflgncldmkjaaDoor.tk l i = Go.Proofs.YthiflgncldmkjaaDoor.tk l' i := rfl
theorem Alike.lv {l l' : List Code} (h : Alike l l') (i : Ins) : Go.Proofs.YthiflgncldmkjaaDoor.lv l i = Go.Proofs.YthiflgncldmkjaaDoor.lv l' i := by
  unfold Go.Proofs.YthiflgncldmkjaaDoor.lv
  rw [h.answers]
theorem Alike.done {l l' : List Code} (h : Alike l l') {i : Ins} {a : Nat} {x : Int} {hs : List Int} (d : Done l i a x hs) : Done l' i a x hs :=
  ⟨d.1, fun p hp => by obtain ⟨q, e, hq⟩ := d.2 p hp; exact ⟨q, e, by rw [← h.lv]; exact hq⟩⟩
theorem Alike.good {l l' : List Code} (h : Alike l l') {c : Code} {hs : List Int} (g : Good l c hs) : Good l' c hs :=
  ⟨g.len, g.zero, fun a i x hi hx h0 => h.done (g.step a i x hi hx h0), g.reach⟩
theorem Alike.own {l l' : List Code} (h : Alike l l') {c : Code} (o : OwnOk l c) : OwnOk l' c :=
  ⟨o.some_, o.few, o.cells, o.params, fun i hi => by rw [← h.may]; exact o.may i hi⟩
theorem Alike.snd {l l' : List Code} (h : Alike l l') {c : Code} (s : Snd l c) : Snd l' c := ⟨h.own s.1, s.2.imp fun _ g => h.good g⟩
end Go.Proofs.YthiflgncldmkjaaDoor
set_option linter.unusedVariables false
set_option linter.unusedSimpArgs false
set_option maxRecDepth 100000
namespace Go.Proofs.YthiflgncldmkjaaDoor
open Go.Ri

def ChgAt (N : Nat) (H : AH) (v : AV) (c : Chg) : Prop := ∃ s, v = .agg [.int .i64 (c.rule : Nat), .int .i64 (c.n : Nat), s] ∧ Row H s 3 (c.put.map insC) ∧ ∀ b o n d, s = .slice (some (b, o)) n d → N ≤ b
theorem ChgAt.none (N : Nat) (H : AH) (a b : Nat) : ChgAt N H (.agg [.int .i64 (a : Nat), .int .i64 (b : Nat), .slice none 0 (.kn 0)]) ⟨a, b, []⟩ := ⟨_, rfl, Row.nil _ _, fun _ _ _ _ h => by cases h⟩
theorem ChgAt.low {N M : Nat} {H : AH} {v : AV} {c : Chg} (h : ChgAt N H v c) (hM : M ≤ N) : ChgAt M H v c := by
  obtain ⟨s, h1, h2, h3⟩ := h
  exact ⟨s, h1, h2, fun b o n d e => Nat.le_trans hM (h3 b o n d e)⟩
theorem Row.keepN {N : Nat} {H H' : AH} {s : AV} {k : Nat} {l : List (List AV)} (h : Row H s k l) (hN : ∀ b o n d, s = .slice (some (b, o)) n d → N ≤ b) (hs : ∀ b B, N ≤ b → H.m b = some B → H'.m b = some B) : Row H' s k l := by
  rcases h.is with h1 | ⟨a, c, rfl, h2⟩
  · exact ⟨h.len, .inl h1⟩
  refine ⟨h.len, .inr ⟨a, c, rfl, h2.imp id ?_⟩⟩
  rintro ⟨b, o, B, rfl, hB, r⟩
  exact ⟨b, o, B, rfl, hs _ _ (hN b o _ _ rfl) hB, r⟩
theorem ChgAt.keep {N : Nat} {H H' : AH} {v : AV} {c : Chg} (h : ChgAt N H v c) (hs : ∀ b B, N ≤ b → H.m b = some B → H'.m b = some B) : ChgAt N H' v c := by
  obtain ⟨s, h1, h2, h3⟩ := h
  exact ⟨s, h1, Row.keepN h2 h3 hs, h3⟩
theorem row_one {H : AH} {b : Nat} {B : Blk} {i : Ins} (h : H.m b = some B) (hc : B.cells = insC i) : Row H (.slice (some (b, 0)) 1 (.kn 1)) 3 [insC i] := by
  refine ⟨fun x hx => by simp at hx; subst hx; rfl, .inr ⟨_, _, rfl, .inr ⟨b, 0, B, rfl, h, by rw [hc]; simp [insC], fun k hk => ?_⟩⟩⟩
  have : k = 0 := by simpa using hk
  subst this
  rw [hc]
  rfl
theorem ChgAt.made {N : Nat} {H : AH} {cs : List AV} {e : TypeId} {b : Nat} {B : Blk} {i : Ins} (a n : Nat) (hN : N ≤ H.next) (hb : b < H.next) (hc : cs = insC i) {v : AV} (hv : v = .agg [.int .i64 (a : Nat), .int .i64 (n : Nat), .slice (some (H.next, 0)) 1 (.kn 1)]) : ChgAt N ((H.new cs e).put b B) v ⟨a, n, [i]⟩ := by
  subst hv
  refine ⟨_, rfl, row_one (b := H.next) (B := ⟨cs, e, true⟩) ?_ hc, fun b o n d e => by cases e; exact hN⟩
  simp only [put_m, new_m, if_true]
  rw [if_neg (by omega)]
theorem jumps_spec (d : Nat) (H : AH) (i : Ins) : RT (d + 1) 101 [.agg (insC i)] H = some (.bool (decide (isJ i)), H.new (insC i) 29) := by
  rw [R101]
  unfold F101
  have hin : insC i = [.int .i64 i.op, .int .i64 i.n, .int .i64 i.m] := rfl
  rw [hin]
  by_cases h17 : i.op = 17
  · simp -implicitDefEqProofs only [go_sem, Nat.reduceAdd, Nat.reduceMul, Nat.reduceLT, Nat.reduceLeDiff, Nat.reduceEqDiff, Nat.reduceBEq, reduceCtorEq, Int.reduceLT, Int.reduceLE, Int.reduceEq, Int.reduceGT, Int.reduceGE, Int.reduceToNat, Int.reduceNeg, decide_eq_true h17]
    simp [isJ, h17]
  · by_cases h18 : i.op = 18
    · simp -implicitDefEqProofs only [go_sem, Nat.reduceAdd, Nat.reduceMul, Nat.reduceLT, Nat.reduceLeDiff, Nat.reduceEqDiff, Nat.reduceBEq, reduceCtorEq, Int.reduceLT, Int.reduceLE, Int.reduceEq, Int.reduceGT, Int.reduceGE, Int.reduceToNat, Int.reduceNeg, decide_eq_false h17, decide_eq_true h18]
      simp [isJ, h18]
    · simp -implicitDefEqProofs only [go_sem, Nat.reduceAdd, Nat.reduceMul, Nat.reduceLT, Nat.reduceLeDiff, Nat.reduceEqDiff, Nat.reduceBEq, reduceCtorEq, Int.reduceLT, Int.reduceLE, Int.reduceEq, Int.reduceGT, Int.reduceGE, Int.reduceToNat, Int.reduceNeg, decide_eq_false h17, decide_eq_false h18]
      simp [isJ, h17, h18]

def unaryP (i j : Ins) : Chg :=
  if i.op = 1 ∧ j.op = 16 then ⟨5, 2, [pushI (IntKind.i64.wrap (0 - i.n))]⟩
  else if i.op = 1 ∧ j.op = 15 then ⟨5, 2, [pushI (truthI (decide (i.n = 0)))]⟩
  else ⟨0, 0, []⟩
def tripleP (i j k : Ins) : Chg := if i.op = 1 ∧ j.op = 1 ∧ (leftP k.op i.n j.n).isSome = true then ⟨6, 3, [pushI ((leftP k.op i.n j.n).getD 0)]⟩ else ⟨0, 0, []⟩
def idleP (i j : Ins) : Nat :=
  if (i.op = 1 ∨ i.op = 2) ∧ j.op = 25 then 7
  else if i.op = 1 ∧ i.n = 0 ∧ (j.op = 7 ∨ j.op = 8) then 8
  else if i.op = 1 ∧ i.n = 1 ∧ (j.op = 9 ∨ j.op = 10) then 8
  else if i.op = 2 ∧ j.op = 3 ∧ i.n = j.n then 9
  else 0
def restP (i j : Ins) : Chg :=
  if i.op = 1 ∧ j.op = 18 ∧ i.n = 0 then ⟨10, 2, [⟨17, j.n, 0⟩]⟩
  else if i.op = 1 ∧ j.op = 18 then ⟨10, 2, []⟩
  else if i.op = 1 ∧ i.n ≠ 0 ∧ j.op = 23 then ⟨11, 2, []⟩
  else if i.op = 6 ∧ j.op = 6 ∧ j.n = i.n + i.m ∧ i.m + j.m ≤ 64 then ⟨12, 2, [⟨6, i.n, i.m + j.m⟩]⟩
  else ⟨0, 0, []⟩
theorem pairP_eq (i j k : Ins) : pairP i j k = if (unaryP i j).rule ≠ 0 then unaryP i j else if (tripleP i j k).rule ≠ 0 then tripleP i j k else if idleP i j ≠ 0 then ⟨idleP i j, 2, []⟩ else restP i j := by
  unfold pairP unaryP
  by_cases h1 : i.op = 1 ∧ j.op = 16
  · rw [if_pos h1, if_pos h1]; rfl
  rw [if_neg h1, if_neg h1]
  by_cases h2 : i.op = 1 ∧ j.op = 15
  · rw [if_pos h2, if_pos h2]; rfl
  rw [if_neg h2, if_neg h2, if_neg (show ¬ ((⟨0, 0, []⟩ : Chg).rule ≠ 0) by simp)]
  unfold tripleP
  by_cases h3 : i.op = 1 ∧ j.op = 1 ∧ (leftP k.op i.n j.n).isSome = true
  · rw [if_pos h3, if_pos h3]; rfl
  rw [if_neg h3, if_neg h3, if_neg (show ¬ ((⟨0, 0, []⟩ : Chg).rule ≠ 0) by simp)]
  unfold idleP
  by_cases h4 : (i.op = 1 ∨ i.op = 2) ∧ j.op = 25
  · rw [if_pos h4, if_pos h4]; rfl
  rw [if_neg h4, if_neg h4]
  by_cases h5 : i.op = 1 ∧ i.n = 0 ∧ (j.op = 7 ∨ j.op = 8)
  · rw [if_pos h5, if_pos h5]; rfl
  rw [if_neg h5, if_neg h5]
  by_cases h6 : i.op = 1 ∧ i.n = 1 ∧ (j.op = 9 ∨ j.op = 10)
  · rw [if_pos h6, if_pos h6]; rfl
  rw [if_neg h6, if_neg h6]
  by_cases h7 : i.op = 2 ∧ j.op = 3 ∧ i.n = j.n
  · rw [if_pos h7, if_pos h7]; rfl
  rw [if_neg h7, if_neg h7]
  rfl

theorem neg_spec (d : Nat) (n : Int) (H : AH) : RT (d + 1) 111 [.int .i64 n] H = some (.int .i64 (IntKind.i64.wrap (0 - n)), H) := by
  rw [R111]
  unfold F111
  simp -implicitDefEqProofs only [go_sem, Nat.reduceAdd, Nat.reduceMul, Nat.reduceLT, Nat.reduceLeDiff, Nat.reduceEqDiff, Nat.reduceBEq, reduceCtorEq, Int.reduceLT, Int.reduceLE, Int.reduceEq, Int.reduceGT, Int.reduceGE, Int.reduceToNat, Int.reduceNeg]
theorem bs22i (op n m : Int) : nBuildSlice Tryd.prog 22 1 [(0, .agg [.int .i64 op, .int .i64 n, .int .i64 m])] = some ⟨[.int .i64 op, .int .i64 n, .int .i64 m], 29, slTo 1 1⟩ := by kernel_rfl
theorem unary_spec (d : Nat) {H : AH} (hw : H.wf) (i j : Ins) : Ret (RT (d + 2) 105 [.agg (insC i), .agg (insC j)] H) fun r => Ext H.next H r.2 ∧ ChgAt H.next r.2 r.1 (unaryP i j) := by
  rw [R105]
  unfold F105
  obtain ⟨io, inn, im⟩ := i
  obtain ⟨jo, jn, jm⟩ := j
  have hi : ∀ a b c, insC ⟨a, b, c⟩ = [.int .i64 a, .int .i64 b, .int .i64 c] := fun _ _ _ => rfl
  have hx3 : Ext H.next H (((H.new (insC ⟨io, inn, im⟩) 29).new (insC ⟨jo, jn, jm⟩) 29).new [.int .i64 0, .int .i64 0, .slice none 0 (.kn 0)] 108) := (((Ext.refl hw).new _ _).new _ _).new _ _
  rw [hi, hi] at *
  have n1 : ¬ H.next = H.next + 1 + 1 := by omega
  have n2 : ¬ H.next = H.next + 1 := by omega
  have n3 : ¬ H.next + 1 = H.next + 1 + 1 := by omega
  have n4 : ¬ H.next + 1 + 1 = H.next + 1 + 1 + 1 := by omega
  have hput := fun B => hx3.put (b := H.next + 1 + 1) (by omega) (by simp) B
  have hx4 := fun cs e => hx3.new cs e
  have hput4 := fun cs e B => (hx4 cs e).put (b := H.next + 1 + 1) (by omega) (by simp) B
  have no : ¬ (io = 1 ∧ jo = 16) → ¬ (io = 1 ∧ jo = 15) → unaryP ⟨io, inn, im⟩ ⟨jo, jn, jm⟩ = ⟨0, 0, []⟩ := fun h1 h2 => by
    simp only [unaryP]
    rw [if_neg h1, if_neg h2]
  by_cases h1 : io = 1
  · subst h1
    by_cases h16 : jo = 16
    · subst h16
      simp -implicitDefEqProofs only [go_sem, Nat.reduceAdd, Nat.reduceMul, Nat.reduceLT, Nat.reduceLeDiff, Nat.reduceEqDiff, Nat.reduceBEq, reduceCtorEq, Int.reduceLT, Int.reduceLE, Int.reduceEq, Int.reduceGT, Int.reduceGE, Int.reduceToNat, Int.reduceNeg, n1, n2, n3, n4, neg_spec, bs22i]
      refine .mk ⟨hput4 _ _ _, ?_⟩
      exact ChgAt.made 5 2 (by simp only [put_next, new_next]; omega) (by simp) rfl rfl
    · by_cases h15 : jo = 15
      · subst h15
        have hu : unaryP ⟨1, inn, im⟩ ⟨15, jn, jm⟩ = ⟨5, 2, [pushI (truthI (decide (inn = 0)))]⟩ := by simp [unaryP]
        rw [hu]
        by_cases h0 : inn = 0
        · rw [decide_eq_true h0]
          simp -implicitDefEqProofs only [go_sem, Nat.reduceAdd, Nat.reduceMul, Nat.reduceLT, Nat.reduceLeDiff, Nat.reduceEqDiff, Nat.reduceBEq, reduceCtorEq, Int.reduceLT, Int.reduceLE, Int.reduceEq, Int.reduceGT, Int.reduceGE, Int.reduceToNat, Int.reduceNeg, n1, n2, n3, n4, decide_eq_true h0, bs22i]
          refine .mk ⟨hput4 _ _ _, ?_⟩
          exact ChgAt.made 5 2 (by simp only [put_next, new_next]; omega) (by simp) rfl rfl
        · rw [decide_eq_false h0]
          simp -implicitDefEqProofs only [go_sem, Nat.reduceAdd, Nat.reduceMul, Nat.reduceLT, Nat.reduceLeDiff, Nat.reduceEqDiff, Nat.reduceBEq, reduceCtorEq, Int.reduceLT, Int.reduceLE, Int.reduceEq, Int.reduceGT, Int.reduceGE, Int.reduceToNat, Int.reduceNeg, n1, n2, n3, n4, decide_eq_false h0, bs22i]
          refine .mk ⟨hput4 _ _ _, ?_⟩
          exact ChgAt.made 5 2 (by simp only [put_next, new_next]; omega) (by simp) rfl rfl
      · rw [no (fun h => h16 h.2) (fun h => h15 h.2)]
        simp -implicitDefEqProofs only [go_sem, Nat.reduceAdd, Nat.reduceMul, Nat.reduceLT, Nat.reduceLeDiff, Nat.reduceEqDiff, Nat.reduceBEq, reduceCtorEq, Int.reduceLT, Int.reduceLE, Int.reduceEq, Int.reduceGT, Int.reduceGE, Int.reduceToNat, Int.reduceNeg, n1, n2, n3, n4, decide_eq_false h16, decide_eq_false h15, F105_J0]
        exact .mk ⟨hput _, ChgAt.none _ _ 0 0⟩
  · rw [no (fun h => h1 h.1) (fun h => h1 h.1)]
    simp -implicitDefEqProofs only [go_sem, Nat.reduceAdd, Nat.reduceMul, Nat.reduceLT, Nat.reduceLeDiff, Nat.reduceEqDiff, Nat.reduceBEq, reduceCtorEq, Int.reduceLT, Int.reduceLE, Int.reduceEq, Int.reduceGT, Int.reduceGE, Int.reduceToNat, Int.reduceNeg, n1, n2, n3, n4, decide_eq_false h1, F105_J0]
    exact .mk ⟨hput _, ChgAt.none _ _ 0 0⟩
end Go.Proofs.YthiflgncldmkjaaDoor
set_option linter.unusedVariables false
set_option linter.unusedSimpArgs false
set_option maxRecDepth 100000
namespace Go.Proofs.YthiflgncldmkjaaDoor
open Go.Ri

theorem add_spec (d : Nat) (a b : Int) (H : AH) : RT (d + 1) 125 [.int .i64 a, .int .i64 b] H = some (.int .i64 (IntKind.i64.wrap (a + b)), H) := by
  rw [R125]
  unfold F125
  simp -implicitDefEqProofs only [go_sem, Nat.reduceAdd, Nat.reduceMul, Nat.reduceLT, Nat.reduceLeDiff, Nat.reduceEqDiff, Nat.reduceBEq, reduceCtorEq, Int.reduceLT, Int.reduceLE, Int.reduceEq, Int.reduceGT, Int.reduceGE, Int.reduceToNat, Int.reduceNeg]
theorem subp_spec (d : Nat) (a b : Int) (H : AH) : RT (d + 1) 126 [.int .i64 a, .int .i64 b] H = some (.int .i64 (IntKind.i64.wrap (a - b)), H) := by
  rw [R126]
  unfold F126
  simp -implicitDefEqProofs only [go_sem, Nat.reduceAdd, Nat.reduceMul, Nat.reduceLT, Nat.reduceLeDiff, Nat.reduceEqDiff, Nat.reduceBEq, reduceCtorEq, Int.reduceLT, Int.reduceLE, Int.reduceEq, Int.reduceGT, Int.reduceGE, Int.reduceToNat, Int.reduceNeg]
theorem mul_spec (d : Nat) (a b : Int) (H : AH) : RT (d + 1) 127 [.int .i64 a, .int .i64 b] H = some (.int .i64 (IntKind.i64.wrap (a * b)), H) := by
  rw [R127]
  unfold F127
  simp -implicitDefEqProofs only [go_sem, Nat.reduceAdd, Nat.reduceMul, Nat.reduceLT, Nat.reduceLeDiff, Nat.reduceEqDiff, Nat.reduceBEq, reduceCtorEq, Int.reduceLT, Int.reduceLE, Int.reduceEq, Int.reduceGT, Int.reduceGE, Int.reduceToNat, Int.reduceNeg]
theorem div_spec (d : Nat) (a b : Int) (H : AH) : RT (d + 1) 128 [.int .i64 a, .int .i64 b] H = some (if b = 0 then .tuple [.int .i64 0, .int .i64 11] else .tuple [.int .i64 (IntKind.i64.wrap (a.tdiv b)), .int .i64 0], H) := by
  rw [R128]
  unfold F128
  by_cases h : b = 0
  · simp -implicitDefEqProofs only [go_sem, Nat.reduceAdd, Nat.reduceMul, Nat.reduceLT, Nat.reduceLeDiff, Nat.reduceEqDiff, Nat.reduceBEq, reduceCtorEq, Int.reduceLT, Int.reduceLE, Int.reduceEq, Int.reduceGT, Int.reduceGE, Int.reduceToNat, Int.reduceNeg, decide_eq_true h, if_pos h]
  · have hq := aBin_quo Tryd.prog 2 .i64 a b h
    simp -implicitDefEqProofs only [go_sem, Nat.reduceAdd, Nat.reduceMul, Nat.reduceLT, Nat.reduceLeDiff, Nat.reduceEqDiff, Nat.reduceBEq, reduceCtorEq, Int.reduceLT, Int.reduceLE, Int.reduceEq, Int.reduceGT, Int.reduceGE, Int.reduceToNat, Int.reduceNeg, decide_eq_false h, if_neg h, hq]
theorem mod_spec (d : Nat) (a b : Int) (H : AH) : RT (d + 1) 129 [.int .i64 a, .int .i64 b] H = some (if b = 0 then .tuple [.int .i64 0, .int .i64 11] else .tuple [.int .i64 (a.tmod b), .int .i64 0], H) := by
  rw [R129]
  unfold F129
  by_cases h : b = 0
  · simp -implicitDefEqProofs only [go_sem, Nat.reduceAdd, Nat.reduceMul, Nat.reduceLT, Nat.reduceLeDiff, Nat.reduceEqDiff, Nat.reduceBEq, reduceCtorEq, Int.reduceLT, Int.reduceLE, Int.reduceEq, Int.reduceGT, Int.reduceGE, Int.reduceToNat, Int.reduceNeg, decide_eq_true h, if_pos h]
  · have hq := aBin_rem Tryd.prog 2 .i64 a b h
    simp -implicitDefEqProofs only [go_sem, Nat.reduceAdd, Nat.reduceMul, Nat.reduceLT, Nat.reduceLeDiff, Nat.reduceEqDiff, Nat.reduceBEq, reduceCtorEq, Int.reduceLT, Int.reduceLE, Int.reduceEq, Int.reduceGT, Int.reduceGE, Int.reduceToNat, Int.reduceNeg, decide_eq_false h, if_neg h, hq]
theorem truth2_spec (d : Nat) (b : Bool) (H : AH) : RT (d + 1) 136 [.bool b] H = some (.tuple [.int .i64 (truthI b), .bool true], H) := by
  rw [R136]
  unfold F136
  cases b
  · simp -implicitDefEqProofs only [go_sem, Nat.reduceEqDiff, Nat.reduceBEq, reduceCtorEq]
    rfl
  · simp -implicitDefEqProofs only [go_sem, Nat.reduceEqDiff, Nat.reduceBEq, reduceCtorEq]
    rfl
theorem callV_at (call : CallF) (f : Nat) (v : AV) (H : AH) : callV call (.func f []) [v] H = call f [v] H := rfl
theorem two_spec (d : Nat) (op a b : Int) (H : AH) : Ret (RT (d + 2) 124 [.int .i64 op, .int .i64 a, .int .i64 b] H) fun r => r.2 = H ∧ ((∃ x, leftP op a b = some x ∧ r.1 = .tuple [.int .i64 x, .bool true]) ∨ (leftP op a b = none ∧ ∃ y, r.1 = .tuple [.int .i64 y, .bool false])) := by
  rw [R124]
  unfold F124
  by_cases h7 : op = 7
  · subst h7
    simp -implicitDefEqProofs only [go_sem, Nat.reduceAdd, Nat.reduceMul, Nat.reduceLT, Nat.reduceLeDiff, Nat.reduceEqDiff, Nat.reduceBEq, reduceCtorEq, Int.reduceLT, Int.reduceLE, Int.reduceEq, Int.reduceGT, Int.reduceGE, Int.reduceToNat, Int.reduceNeg, add_spec]
    exact .mk ⟨rfl, .inl ⟨_, rfl, rfl⟩⟩
  by_cases h8 : op = 8
  · subst h8
    simp -implicitDefEqProofs only [go_sem, Nat.reduceAdd, Nat.reduceMul, Nat.reduceLT, Nat.reduceLeDiff, Nat.reduceEqDiff, Nat.reduceBEq, reduceCtorEq, Int.reduceLT, Int.reduceLE, Int.reduceEq, Int.reduceGT, Int.reduceGE, Int.reduceToNat, Int.reduceNeg, subp_spec]
    exact .mk ⟨rfl, .inl ⟨_, rfl, rfl⟩⟩
  by_cases h9 : op = 9
  · subst h9
    simp -implicitDefEqProofs only [go_sem, Nat.reduceAdd, Nat.reduceMul, Nat.reduceLT, Nat.reduceLeDiff, Nat.reduceEqDiff, Nat.reduceBEq, reduceCtorEq, Int.reduceLT, Int.reduceLE, Int.reduceEq, Int.reduceGT, Int.reduceGE, Int.reduceToNat, Int.reduceNeg, mul_spec]
    exact .mk ⟨rfl, .inl ⟨_, rfl, rfl⟩⟩
  by_cases h10 : op = 10
  · subst h10
    by_cases hb : b = 0
    · simp -implicitDefEqProofs only [go_sem, Nat.reduceAdd, Nat.reduceMul, Nat.reduceLT, Nat.reduceLeDiff, Nat.reduceEqDiff, Nat.reduceBEq, reduceCtorEq, Int.reduceLT, Int.reduceLE, Int.reduceEq, Int.reduceGT, Int.reduceGE, Int.reduceToNat, Int.reduceNeg, div_spec, if_pos hb]
      exact .mk ⟨rfl, .inr ⟨by simp [leftP, hb], _, rfl⟩⟩
    · simp -implicitDefEqProofs only [go_sem, Nat.reduceAdd, Nat.reduceMul, Nat.reduceLT, Nat.reduceLeDiff, Nat.reduceEqDiff, Nat.reduceBEq, reduceCtorEq, Int.reduceLT, Int.reduceLE, Int.reduceEq, Int.reduceGT, Int.reduceGE, Int.reduceToNat, Int.reduceNeg, div_spec, if_neg hb]
      exact .mk ⟨rfl, .inl ⟨_, by simp [leftP, hb], rfl⟩⟩
  by_cases h11 : op = 11
  · subst h11
    by_cases hb : b = 0
    · simp -implicitDefEqProofs only [go_sem, Nat.reduceAdd, Nat.reduceMul, Nat.reduceLT, Nat.reduceLeDiff, Nat.reduceEqDiff, Nat.reduceBEq, reduceCtorEq, Int.reduceLT, Int.reduceLE, Int.reduceEq, Int.reduceGT, Int.reduceGE, Int.reduceToNat, Int.reduceNeg, mod_spec, if_pos hb]
      exact .mk ⟨rfl, .inr ⟨by simp [leftP, hb], _, rfl⟩⟩
    · simp -implicitDefEqProofs only [go_sem, Nat.reduceAdd, Nat.reduceMul, Nat.reduceLT, Nat.reduceLeDiff, Nat.reduceEqDiff, Nat.reduceBEq, reduceCtorEq, Int.reduceLT, Int.reduceLE, Int.reduceEq, Int.reduceGT, Int.reduceGE, Int.reduceToNat, Int.reduceNeg, mod_spec, if_neg hb]
      exact .mk ⟨rfl, .inl ⟨_, by simp [leftP, hb], rfl⟩⟩
  by_cases h12 : op = 12
  · subst h12
    simp -implicitDefEqProofs only [go_sem, Nat.reduceAdd, Nat.reduceMul, Nat.reduceLT, Nat.reduceLeDiff, Nat.reduceEqDiff, Nat.reduceBEq, reduceCtorEq, Int.reduceLT, Int.reduceLE, Int.reduceEq, Int.reduceGT, Int.reduceGE, Int.reduceToNat, Int.reduceNeg, callV_at, truth2_spec]
    exact .mk ⟨rfl, .inl ⟨_, rfl, rfl⟩⟩
  by_cases h13 : op = 13
  · subst h13
    simp -implicitDefEqProofs only [go_sem, Nat.reduceAdd, Nat.reduceMul, Nat.reduceLT, Nat.reduceLeDiff, Nat.reduceEqDiff, Nat.reduceBEq, reduceCtorEq, Int.reduceLT, Int.reduceLE, Int.reduceEq, Int.reduceGT, Int.reduceGE, Int.reduceToNat, Int.reduceNeg, callV_at, truth2_spec]
    exact .mk ⟨rfl, .inl ⟨_, rfl, rfl⟩⟩
  by_cases h14 : op = 14
  · subst h14
    simp -implicitDefEqProofs only [go_sem, Nat.reduceAdd, Nat.reduceMul, Nat.reduceLT, Nat.reduceLeDiff, Nat.reduceEqDiff, Nat.reduceBEq, reduceCtorEq, Int.reduceLT, Int.reduceLE, Int.reduceEq, Int.reduceGT, Int.reduceGE, Int.reduceToNat, Int.reduceNeg, callV_at, truth2_spec]
    exact .mk ⟨rfl, .inl ⟨_, rfl, rfl⟩⟩
  simp -implicitDefEqProofs only [go_sem, Nat.reduceAdd, Nat.reduceMul, Nat.reduceLT, Nat.reduceLeDiff, Nat.reduceEqDiff, Nat.reduceBEq, reduceCtorEq, Int.reduceLT, Int.reduceLE, Int.reduceEq, Int.reduceGT, Int.reduceGE, Int.reduceToNat, Int.reduceNeg, decide_eq_false h7, decide_eq_false h8, decide_eq_false h9, decide_eq_false h10, decide_eq_false h11, decide_eq_false h12, decide_eq_false h13, decide_eq_false h14]
  exact .mk ⟨rfl, .inr ⟨by simp [leftP, h7, h8, h9, h10, h11, h12, h13, h14], _, rfl⟩⟩

theorem idle_spec (d : Nat) {H : AH} (hw : H.wf) (i j : Ins) : Ret (RT (d + 1) 107 [.agg (insC i), .agg (insC j)] H) fun r => Ext H.next H r.2 ∧ r.1 = .int .i64 (idleP i j : Nat) := by
  rw [R107]
  unfold F107
  obtain ⟨io, inn, im⟩ := i
  obtain ⟨jo, jn, jm⟩ := j
  have hi : ∀ a b c, insC ⟨a, b, c⟩ = [.int .i64 a, .int .i64 b, .int .i64 c] := fun _ _ _ => rfl
  have hx : Ext H.next H ((H.new (insC ⟨io, inn, im⟩) 29).new (insC ⟨jo, jn, jm⟩) 29) := ((Ext.refl hw).new _ _).new _ _
  rw [hi, hi] at *
  have n2 : ¬ H.next = H.next + 1 := by omega
  unfold idleP
  simp only
  by_cases h1 : io = 1
  · subst h1
    by_cases h25 : jo = 25
    · subst h25
      simp -implicitDefEqProofs only [go_sem, Nat.reduceAdd, Nat.reduceMul, Nat.reduceLT, Nat.reduceLeDiff, Nat.reduceEqDiff, Nat.reduceBEq, reduceCtorEq, Int.reduceLT, Int.reduceLE, Int.reduceEq, Int.reduceGT, Int.reduceGE, Int.reduceToNat, Int.reduceNeg, n2]
      exact .mk ⟨hx, rfl⟩
    by_cases h0 : inn = 0
    · subst h0
      by_cases h7 : jo = 7
      · subst h7
        simp -implicitDefEqProofs only [go_sem, Nat.reduceAdd, Nat.reduceMul, Nat.reduceLT, Nat.reduceLeDiff, Nat.reduceEqDiff, Nat.reduceBEq, reduceCtorEq, Int.reduceLT, Int.reduceLE, Int.reduceEq, Int.reduceGT, Int.reduceGE, Int.reduceToNat, Int.reduceNeg, n2]
        exact .mk ⟨hx, rfl⟩
      by_cases h8 : jo = 8
      · subst h8
        simp -implicitDefEqProofs only [go_sem, Nat.reduceAdd, Nat.reduceMul, Nat.reduceLT, Nat.reduceLeDiff, Nat.reduceEqDiff, Nat.reduceBEq, reduceCtorEq, Int.reduceLT, Int.reduceLE, Int.reduceEq, Int.reduceGT, Int.reduceGE, Int.reduceToNat, Int.reduceNeg, n2]
        exact .mk ⟨hx, rfl⟩
      simp -implicitDefEqProofs only [go_sem, Nat.reduceAdd, Nat.reduceMul, Nat.reduceLT, Nat.reduceLeDiff, Nat.reduceEqDiff, Nat.reduceBEq, reduceCtorEq, Int.reduceLT, Int.reduceLE, Int.reduceEq, Int.reduceGT, Int.reduceGE, Int.reduceToNat, Int.reduceNeg, n2, decide_eq_false h25, decide_eq_false h7, decide_eq_false h8]
      exact .mk ⟨hx, by simp [h25, h7, h8]⟩
    · by_cases h01 : inn = 1
      · subst h01
        by_cases h9 : jo = 9
        · subst h9
          simp -implicitDefEqProofs only [go_sem, Nat.reduceAdd, Nat.reduceMul, Nat.reduceLT, Nat.reduceLeDiff, Nat.reduceEqDiff, Nat.reduceBEq, reduceCtorEq, Int.reduceLT, Int.reduceLE, Int.reduceEq, Int.reduceGT, Int.reduceGE, Int.reduceToNat, Int.reduceNeg, n2]
          exact .mk ⟨hx, rfl⟩
        by_cases h10 : jo = 10
        · subst h10
          simp -implicitDefEqProofs only [go_sem, Nat.reduceAdd, Nat.reduceMul, Nat.reduceLT, Nat.reduceLeDiff, Nat.reduceEqDiff, Nat.reduceBEq, reduceCtorEq, Int.reduceLT, Int.reduceLE, Int.reduceEq, Int.reduceGT, Int.reduceGE, Int.reduceToNat, Int.reduceNeg, n2]
          exact .mk ⟨hx, rfl⟩
        simp -implicitDefEqProofs only [go_sem, Nat.reduceAdd, Nat.reduceMul, Nat.reduceLT, Nat.reduceLeDiff, Nat.reduceEqDiff, Nat.reduceBEq, reduceCtorEq, Int.reduceLT, Int.reduceLE, Int.reduceEq, Int.reduceGT, Int.reduceGE, Int.reduceToNat, Int.reduceNeg, n2, decide_eq_false h25, decide_eq_false h9, decide_eq_false h10]
        exact .mk ⟨hx, by simp [h25, h9, h10]⟩
      · simp -implicitDefEqProofs only [go_sem, Nat.reduceAdd, Nat.reduceMul, Nat.reduceLT, Nat.reduceLeDiff, Nat.reduceEqDiff, Nat.reduceBEq, reduceCtorEq, Int.reduceLT, Int.reduceLE, Int.reduceEq, Int.reduceGT, Int.reduceGE, Int.reduceToNat, Int.reduceNeg, n2, decide_eq_false h25, decide_eq_false h0, decide_eq_false h01]
        exact .mk ⟨hx, by simp [h25, h0, h01]⟩
  · by_cases h2 : io = 2
    · subst h2
      by_cases h25 : jo = 25
      · subst h25
        simp -implicitDefEqProofs only [go_sem, Nat.reduceAdd, Nat.reduceMul, Nat.reduceLT, Nat.reduceLeDiff, Nat.reduceEqDiff, Nat.reduceBEq, reduceCtorEq, Int.reduceLT, Int.reduceLE, Int.reduceEq, Int.reduceGT, Int.reduceGE, Int.reduceToNat, Int.reduceNeg, n2]
        exact .mk ⟨hx, rfl⟩
      by_cases h3 : jo = 3
      · subst h3
        by_cases he : inn = jn
        · simp -implicitDefEqProofs only [go_sem, Nat.reduceAdd, Nat.reduceMul, Nat.reduceLT, Nat.reduceLeDiff, Nat.reduceEqDiff, Nat.reduceBEq, reduceCtorEq, Int.reduceLT, Int.reduceLE, Int.reduceEq, Int.reduceGT, Int.reduceGE, Int.reduceToNat, Int.reduceNeg, n2, decide_eq_true he]
          exact .mk ⟨hx, by simp [he]⟩
        · simp -implicitDefEqProofs only [go_sem, Nat.reduceAdd, Nat.reduceMul, Nat.reduceLT, Nat.reduceLeDiff, Nat.reduceEqDiff, Nat.reduceBEq, reduceCtorEq, Int.reduceLT, Int.reduceLE, Int.reduceEq, Int.reduceGT, Int.reduceGE, Int.reduceToNat, Int.reduceNeg, n2, decide_eq_false he]
          exact .mk ⟨hx, by simp [he]⟩
      · simp -implicitDefEqProofs only [go_sem, Nat.reduceAdd, Nat.reduceMul, Nat.reduceLT, Nat.reduceLeDiff, Nat.reduceEqDiff, Nat.reduceBEq, reduceCtorEq, Int.reduceLT, Int.reduceLE, Int.reduceEq, Int.reduceGT, Int.reduceGE, Int.reduceToNat, Int.reduceNeg, n2, decide_eq_false h25, decide_eq_false h3]
        exact .mk ⟨hx, by simp [h25, h3]⟩
    · simp -implicitDefEqProofs only [go_sem, Nat.reduceAdd, Nat.reduceMul, Nat.reduceLT, Nat.reduceLeDiff, Nat.reduceEqDiff, Nat.reduceBEq, reduceCtorEq, Int.reduceLT, Int.reduceLE, Int.reduceEq, Int.reduceGT, Int.reduceGE, Int.reduceToNat, Int.reduceNeg, n2, decide_eq_false h1, decide_eq_false h2]
      exact .mk ⟨hx, by simp [h1, h2]⟩
theorem chg_eq {N : Nat} {H : AH} {v : AV} {c c' : Chg} (e : c = c') (h : ChgAt N H v c') : ChgAt N H v c := e ▸ h
theorem rest_spec (d : Nat) {H : AH} (hw : H.wf) {i j : Ins} (hiok : i.Ok) (hjok : j.Ok) (hsm : i.op = 6 → 0 ≤ i.n ∧ i.n ≤ 65536 ∧ 0 ≤ i.m ∧ i.m ≤ 64) (hsmj : j.op = 6 → 0 ≤ j.m ∧ j.m ≤ 64) : Ret (RT (d + 1) 108 [.agg (insC i), .agg (insC j)] H) fun r => Ext H.next H r.2 ∧ ChgAt H.next r.2 r.1 (restP i j) := by
  rw [R108]
  unfold F108
  obtain ⟨io, inn, im⟩ := i
  obtain ⟨jo, jn, jm⟩ := j
  have hi : ∀ a b c, insC ⟨a, b, c⟩ = [.int .i64 a, .int .i64 b, .int .i64 c] := fun _ _ _ => rfl
  have hx3 : Ext H.next H (((H.new (insC ⟨io, inn, im⟩) 29).new (insC ⟨jo, jn, jm⟩) 29).new [.int .i64 0, .int .i64 0, .slice none 0 (.kn 0)] 108) := (((Ext.refl hw).new _ _).new _ _).new _ _
  rw [hi, hi] at *
  simp only at hsm hsmj
  have n1 : ¬ H.next = H.next + 1 + 1 := by omega
  have n2 : ¬ H.next = H.next + 1 := by omega
  have n3 : ¬ H.next + 1 = H.next + 1 + 1 := by omega
  have n4 : ¬ H.next + 1 + 1 = H.next + 1 + 1 + 1 := by omega
  have hput := fun B => hx3.put (b := H.next + 1 + 1) (by omega) (by simp) B
  have hx4 := fun cs e => hx3.new cs e
  have hput4 := fun cs e B => (hx4 cs e).put (b := H.next + 1 + 1) (by omega) (by simp) B
  have no : restP ⟨io, inn, im⟩ ⟨jo, jn, jm⟩ = ⟨0, 0, []⟩ → ChgAt H.next ((((H.new [.int .i64 io, .int .i64 inn, .int .i64 im] 29).new [.int .i64 jo, .int .i64 jn, .int .i64 jm] 29).new [.int .i64 0, .int .i64 0, .slice none 0 (.kn 0)] 108).put (H.next + 1 + 1) ⟨[.int .i64 0, .int .i64 0, .slice none 0 (.kn 0)], 108, true⟩) (.agg [.int .i64 0, .int .i64 0, .slice none 0 (.kn 0)]) (restP ⟨io, inn, im⟩ ⟨jo, jn, jm⟩) := fun e => chg_eq e (ChgAt.none _ _ 0 0)
  by_cases h1 : io = 1
  · subst h1
    by_cases h18 : jo = 18
    · subst h18
      by_cases h0 : inn = 0
      · subst h0
        simp -implicitDefEqProofs only [go_sem, Nat.reduceAdd, Nat.reduceMul, Nat.reduceLT, Nat.reduceLeDiff, Nat.reduceEqDiff, Nat.reduceBEq, reduceCtorEq, Int.reduceLT, Int.reduceLE, Int.reduceEq, Int.reduceGT, Int.reduceGE, Int.reduceToNat, Int.reduceNeg, n1, n2, n3, n4, bs22i]
        refine .mk ⟨hput4 _ _ _, ?_⟩
        have e : restP ⟨1, 0, im⟩ ⟨18, jn, jm⟩ = ⟨10, 2, [⟨17, jn, 0⟩]⟩ := by simp [restP]
        exact chg_eq e (ChgAt.made 10 2 (by simp only [put_next, new_next]; omega) (by simp) rfl rfl)
      · simp -implicitDefEqProofs only [go_sem, Nat.reduceAdd, Nat.reduceMul, Nat.reduceLT, Nat.reduceLeDiff, Nat.reduceEqDiff, Nat.reduceBEq, reduceCtorEq, Int.reduceLT, Int.reduceLE, Int.reduceEq, Int.reduceGT, Int.reduceGE, Int.reduceToNat, Int.reduceNeg, n1, n2, n3, n4, decide_eq_false h0]
        refine .mk ⟨hput _, ?_⟩
        have e : restP ⟨1, inn, im⟩ ⟨18, jn, jm⟩ = ⟨10, 2, []⟩ := by simp [restP, h0]
        exact chg_eq e (ChgAt.none _ _ 10 2)
    · by_cases h0 : inn = 0
      · subst h0
        simp -implicitDefEqProofs only [go_sem, Nat.reduceAdd, Nat.reduceMul, Nat.reduceLT, Nat.reduceLeDiff, Nat.reduceEqDiff, Nat.reduceBEq, reduceCtorEq, Int.reduceLT, Int.reduceLE, Int.reduceEq, Int.reduceGT, Int.reduceGE, Int.reduceToNat, Int.reduceNeg, n1, n2, n3, n4, decide_eq_false h18]
        exact .mk ⟨hput _, no (by simp [restP, h18])⟩
      · by_cases h23 : jo = 23
        · subst h23
          simp -implicitDefEqProofs only [go_sem, Nat.reduceAdd, Nat.reduceMul, Nat.reduceLT, Nat.reduceLeDiff, Nat.reduceEqDiff, Nat.reduceBEq, reduceCtorEq, Int.reduceLT, Int.reduceLE, Int.reduceEq, Int.reduceGT, Int.reduceGE, Int.reduceToNat, Int.reduceNeg, n1, n2, n3, n4, decide_eq_false h0]
          refine .mk ⟨hput _, ?_⟩
          have e : restP ⟨1, inn, im⟩ ⟨23, jn, jm⟩ = ⟨11, 2, []⟩ := by simp [restP, h0]
          exact chg_eq e (ChgAt.none _ _ 11 2)
        · simp -implicitDefEqProofs only [go_sem, Nat.reduceAdd, Nat.reduceMul, Nat.reduceLT, Nat.reduceLeDiff, Nat.reduceEqDiff, Nat.reduceBEq, reduceCtorEq, Int.reduceLT, Int.reduceLE, Int.reduceEq, Int.reduceGT, Int.reduceGE, Int.reduceToNat, Int.reduceNeg, n1, n2, n3, n4, decide_eq_false h18, decide_eq_false h0, decide_eq_false h23]
          exact .mk ⟨hput _, no (by simp [restP, h18, h23])⟩
  · by_cases h6 : io = 6
    · subst h6
      have hs := hsm rfl
      by_cases j6 : jo = 6
      · subst j6
        have hsj := hsmj rfl
        have hw1 : IntKind.i64.wrap (inn + im) = inn + im := wrap_id (by unfold InI; omega)
        have hw2 : IntKind.i64.wrap (im + jm) = im + jm := wrap_id (by unfold InI; omega)
        by_cases he : jn = inn + im
        · by_cases h64 : im + jm ≤ 64
          · simp -implicitDefEqProofs only [go_sem, Nat.reduceAdd, Nat.reduceMul, Nat.reduceLT, Nat.reduceLeDiff, Nat.reduceEqDiff, Nat.reduceBEq, reduceCtorEq, Int.reduceLT, Int.reduceLE, Int.reduceEq, Int.reduceGT, Int.reduceGE, Int.reduceToNat, Int.reduceNeg, n1, n2, n3, n4, hw1, decide_eq_true he, hw2, decide_eq_true h64, bs22i]
            refine .mk ⟨hput4 _ _ _, ?_⟩
            have e : restP ⟨6, inn, im⟩ ⟨6, jn, jm⟩ = ⟨12, 2, [⟨6, inn, im + jm⟩]⟩ := by
              unfold restP
              rw [if_neg (fun h => absurd h.1 (by simp)), if_neg (fun h => absurd h.1 (by simp)), if_neg (fun h => absurd h.1 (by simp)), if_pos ⟨rfl, rfl, he, h64⟩]
            exact chg_eq e (ChgAt.made 12 2 (by simp only [put_next, new_next]; omega) (by simp) rfl rfl)
          · simp -implicitDefEqProofs only [go_sem, Nat.reduceAdd, Nat.reduceMul, Nat.reduceLT, Nat.reduceLeDiff, Nat.reduceEqDiff, Nat.reduceBEq, reduceCtorEq, Int.reduceLT, Int.reduceLE, Int.reduceEq, Int.reduceGT, Int.reduceGE, Int.reduceToNat, Int.reduceNeg, n1, n2, n3, n4, hw1, decide_eq_true he, hw2, decide_eq_false h64]
            exact .mk ⟨hput _, no (by simp [restP, h64])⟩
        · simp -implicitDefEqProofs only [go_sem, Nat.reduceAdd, Nat.reduceMul, Nat.reduceLT, Nat.reduceLeDiff, Nat.reduceEqDiff, Nat.reduceBEq, reduceCtorEq, Int.reduceLT, Int.reduceLE, Int.reduceEq, Int.reduceGT, Int.reduceGE, Int.reduceToNat, Int.reduceNeg, n1, n2, n3, n4, hw1, decide_eq_false he]
          exact .mk ⟨hput _, no (by simp [restP, he])⟩
      · simp -implicitDefEqProofs only [go_sem, Nat.reduceAdd, Nat.reduceMul, Nat.reduceLT, Nat.reduceLeDiff, Nat.reduceEqDiff, Nat.reduceBEq, reduceCtorEq, Int.reduceLT, Int.reduceLE, Int.reduceEq, Int.reduceGT, Int.reduceGE, Int.reduceToNat, Int.reduceNeg, n1, n2, n3, n4, decide_eq_false j6]
        exact .mk ⟨hput _, no (by simp [restP, j6])⟩
    · simp -implicitDefEqProofs only [go_sem, Nat.reduceAdd, Nat.reduceMul, Nat.reduceLT, Nat.reduceLeDiff, Nat.reduceEqDiff, Nat.reduceBEq, reduceCtorEq, Int.reduceLT, Int.reduceLE, Int.reduceEq, Int.reduceGT, Int.reduceGE, Int.reduceToNat, Int.reduceNeg, n1, n2, n3, n4, decide_eq_false h1, decide_eq_false h6]
      exact .mk ⟨hput _, no (by simp [restP, h1, h6])⟩
end Go.Proofs.YthiflgncldmkjaaDoor
set_option linter.unusedVariables false
set_option linter.unusedSimpArgs false
set_option maxRecDepth 100000
namespace Go.Proofs.YthiflgncldmkjaaDoor
open Go.Ri

def BoolRow (H : AH) (v : AV) (l : List Bool) : Prop := Row H v 1 (l.map fun b => [.bool b])
theorem BoolRow.at {H : AH} {v : AV} {l : List Bool} (h : BoolRow H v l) {i : Nat} (hi : i < l.length) : ∃ p, (∀ k, idxSl v (.int k (i : Nat)) 1 = some (.ptr (some p))) ∧ ldOne (.ptr (some p)) H = some (.bool l[i]) := by
  obtain ⟨b, o, h1, _, h3⟩ := Row.at h (i := i) (by simpa using hi)
  have := h3 0 (by omega)
  simp only [List.getElem_map, Nat.add_zero, List.getElem?_cons_zero] at this
  exact ⟨(b, o), h1, this⟩
def CapOk (s : AV) : Prop := ∃ p n c, s = .slice (some p) n c ∧ (c = .op 3 ∨ ∃ m, c = .kn m ∧ n ≤ m)
def bAt (l : List Bool) (i : Nat) : Bool := (l[i]?).getD false
structure Sight (H : AH) (k : Nat) (s : AV) (L : List Ins) (R T : List Bool) : Prop where
  blk : ∃ r t, H.m k = some ⟨[s, r, t], 148, true⟩ ∧ BoolRow H r R ∧ BoolRow H t T
  row : Row H s 3 (L.map insC)
  cap : CapOk s
  lenR : R.length = L.length
  lenT : T.length = L.length
theorem Sight.mono {H H' : AH} {k : Nat} {s : AV} {L : List Ins} {R T : List Bool} (h : Sight H k s L R T) (hs : H.sub H') : Sight H' k s L R T := by
  obtain ⟨r, t, h1, h2, h3⟩ := h.blk
  exact ⟨⟨r, t, hs _ _ h1, Row.mono h2 hs, Row.mono h3 hs⟩, h.row.mono hs, h.cap, h.lenR, h.lenT⟩
theorem Sight.alen {H : AH} {k : Nat} {s : AV} {L : List Ins} {R T : List Bool} (h : Sight H k s L R T) : aLen Tryd.prog 22 s = some (.int .i64 (L.length : Nat)) := by
  rw [h.row.alen ysl22.under, List.length_map]
theorem Sight.ins {H : AH} {k : Nat} {s : AV} {L : List Ins} {R T : List Bool} (h : Sight H k s L R T) {i : Nat} (hi : i < L.length) :
    ∃ b o, (∀ kd, idxSl s (.int kd (i : Nat)) 3 = some (.ptr (some (b, o)))) ∧ ldAgg (.ptr (some (b, o))) 3 H = some (.agg (insC L[i])) := by
  obtain ⟨b, o, e1, e2, _⟩ := h.row.at (i := i) (by simpa using hi)
  simp only [List.getElem_map] at e2
  exact ⟨b, o, e1, e2⟩

theorem Row.sub_cut {H : AH} {s : AV} {k : Nat} {l : List (List AV)} (h : Row H s k l) (hc : ∃ p n c, s = .slice (some p) n c ∧ (c = .op k ∨ ∃ m, c = .kn m ∧ n ≤ m)) {a n : Nat} (hn : 0 < n) (ha : a + n ≤ l.length) :
    ∃ p c, slSl s k (some (.int .i64 (a : Nat))) (some (.int .i64 ((a + n : Nat) : Int))) (some (.int .i64 ((a + n : Nat) : Int))) = some (.slice (some p) n c) ∧ Row H (.slice (some p) n c) k ((l.drop a).take n) := by
  obtain ⟨p, m, c, rfl, hcap⟩ := hc
  have hlen : ∀ x ∈ (l.drop a).take n, x.length = k := fun x hx => h.len x (List.mem_of_mem_drop (List.mem_of_mem_take hx))
  have hll : ((l.drop a).take n).length = n := by simp; omega
  rcases h.is with ⟨e, _⟩ | ⟨q, c', e, hr⟩
  · cases e
  · cases e
    rcases hr with rfl | ⟨b, o, B, e, hB, hle, hat⟩
    · simp at ha; omega
    · cases e
      have hmx : ∀ y : Nat, (a + n ≤ y) → bnd (.int .i64 ((a + n : Nat) : Int)) y = some (a + n) := fun y hy => bnd_nat .i64 hy
      have hb : bnds l.length c.known (some (.int .i64 (a : Nat))) (some (.int .i64 ((a + n : Nat) : Int))) (some (.int .i64 ((a + n : Nat) : Int))) = some (a, a + n, some (a + n)) := by
        unfold bnds
        simp only
        rw [hmx _ (by rcases hcap with rfl | ⟨m, rfl, hm⟩; simpa [Cap.known] using ha; simp [Cap.known]; omega)]
        simp only [Option.bind_some]
        rw [hmx _ (Nat.le_refl _)]
        simp only [Option.bind_some]
        rw [bnd_nat .i64 (by omega)]
        rfl
      rw [slSl_ptr _ _ _ _ _ _ _ (by rcases hcap with rfl | ⟨m, rfl, _⟩; exact .inl rfl; exact .inr rfl), hb]
      simp only [Option.bind_some, Option.some.injEq]
      have row : ∀ p c, p = (b, o + a * k) → Row H (.slice (some p) n c) k ((l.drop a).take n) := by
        rintro p c rfl
        refine ⟨hlen, .inr ⟨_, c, by rw [hll], .inr ⟨b, o + a * k, B, rfl, hB, ?_, fun i hi => ?_⟩⟩⟩
        · rw [hll]
          have : (a + n) * k ≤ l.length * k := Nat.mul_le_mul_right _ ha
          rw [Nat.add_mul] at this
          omega
        · rw [hll] at hi
          have := hat (a + i) (by omega)
          rw [Nat.add_mul, ← Nat.add_assoc] at this
          rw [this]
          simp
      unfold cutAt
      by_cases h0 : a = 0
      · subst h0
        rw [if_pos rfl]
        simp only [Nat.zero_add]
        exact ⟨_, _, rfl, row _ _ (by simp)⟩
      · rw [if_neg h0, if_pos (by omega)]
        rw [show a + n - a = n by omega]
        exact ⟨_, _, rfl, row _ _ rfl⟩

def partOk (T : List Bool) (L : List Ins) (a n : Nat) : Prop := a + n ≤ L.length ∧ ∀ j, 1 ≤ j → j < n → bAt T (a + j) = false
theorem part_spec (d : Nat) {H : AH} {k : Nat} {s : AV} {L : List Ins} {R T : List Bool} (S : Sight H k s L R T) {a n : Nat} (ha : a < L.length) (hn : 1 ≤ n) (hn3 : n ≤ 3) (hL : L.length ≤ 1000000) :
    Ret (RT (d + 1) 104 [.ptr (some (k, 0)), .int .i64 (a : Nat), .int .i64 (n : Nat)] H) fun r => r.2 = H ∧ ((partOk T L a n ∧ ∃ p c, r.1 = .slice (some p) n c ∧ Row H r.1 3 (((L.drop a).take n).map insC)) ∨ (¬ partOk T L a n ∧ r.1 = .slice none 0 (.kn 0))) := by
  rw [R104]
  unfold F104
  obtain ⟨r, t, hb, hR, hTr⟩ := S.blk
  have hsub : IntKind.i64.wrap (((L.length : Nat) : Int) - ((a : Nat) : Int)) = ((L.length - a : Nat) : Int) := by
    rw [wrap_id (by unfold InI; omega)]; omega
  by_cases hfit : a + n ≤ L.length
  · have hc : decide (((n : Nat) : Int) > ((L.length - a : Nat) : Int)) = false := decide_eq_false (by omega)
    simp -implicitDefEqProofs only [go_sem, Nat.reduceAdd, Nat.reduceMul, Nat.reduceLT, Nat.reduceLeDiff, Nat.reduceEqDiff, Nat.reduceBEq, reduceCtorEq, Int.reduceLT, Int.reduceLE, Int.reduceEq, Int.reduceGT, Int.reduceGE, Int.reduceToNat, Int.reduceNeg, hb, S.alen, hsub, hc]
    refine Ret.then (Q' := fun r => r.2.2 = H ∧ r.2.1 0 = .ptr (some (k, 0)) ∧ r.2.1 1 = .int .i64 (a : Nat) ∧ r.2.1 2 = .int .i64 (n : Nat) ∧ r.2.1 6 = .slice none 0 (.kn 0) ∧ ((r.1 = .exit 0 ∧ partOk T L a n) ∨ (r.1 = .ret ∧ ¬ partOk T L a n)))
      (Ret.upTo (n := n - 1) (fun i t => t.2 = H ∧ t.1 0 = .ptr (some (k, 0)) ∧ t.1 1 = .int .i64 (a : Nat) ∧ t.1 2 = .int .i64 (n : Nat) ∧ t.1 6 = .slice none 0 (.kn 0) ∧ t.1 7 = .int .i64 ((i + 1 : Nat) : Int) ∧ ∀ j, 1 ≤ j → j < i + 1 → bAt T (a + j) = false) (by unfold big; omega) ⟨rfl, ?_, ?_, ?_, ?_, ?_, fun j h1 h2 => by omega⟩ ?_ ?_) ?_
    · simp -implicitDefEqProofs only [go_sem, Nat.reduceEqDiff, Nat.reduceBEq, reduceCtorEq]
    · simp -implicitDefEqProofs only [go_sem, Nat.reduceEqDiff, Nat.reduceBEq, reduceCtorEq]
    · simp -implicitDefEqProofs only [go_sem, Nat.reduceEqDiff, Nat.reduceBEq, reduceCtorEq]
    · simp -implicitDefEqProofs only [go_sem, Nat.reduceEqDiff, Nat.reduceBEq, reduceCtorEq]
    · simp -implicitDefEqProofs only [go_sem, Nat.reduceEqDiff, Nat.reduceBEq, reduceCtorEq]
      rfl
    · rintro i ⟨T1, H1⟩ hi ⟨hH, t0, t1, t2, t6, t7, hdone⟩
      simp only at hH t0 t1 t2 t6 t7
      subst hH
      have hcmp : decide (((i + 1 : Nat) : Int) < ((n : Nat) : Int)) = true := decide_eq_true (by omega)
      have hw : IntKind.i64.wrap (((a : Nat) : Int) + ((i + 1 : Nat) : Int)) = ((a + (i + 1) : Nat) : Int) := by
        rw [wrap_id (by unfold InI; omega)]; omega
      have hlt : a + (i + 1) < T.length := by rw [S.lenT]; omega
      obtain ⟨p, e1, e2⟩ := hTr.at hlt
      have hba : bAt T (a + (i + 1)) = T[a + (i + 1)] := by unfold bAt; rw [List.getElem?_eq_getElem hlt]; rfl
      unfold F104_L0
      cases hv : T[a + (i + 1)]
      · rw [hv] at e2
        simp -implicitDefEqProofs only [go_sem, Nat.reduceAdd, Nat.reduceMul, Nat.reduceLT, Nat.reduceLeDiff, Nat.reduceEqDiff, Nat.reduceBEq, reduceCtorEq, Int.reduceLT, Int.reduceLE, Int.reduceEq, Int.reduceGT, Int.reduceGE, Int.reduceToNat, Int.reduceNeg, t0, t1, t2, t7, hcmp, hb, hw, e1, e2, wrapS (i := i + 1) (by omega)]
        refine .mk (.inl ⟨rfl, rfl, ?_, ?_, ?_, ?_, ?_, fun j h1 h2 => ?_⟩)
        · simp -implicitDefEqProofs only [go_sem, Nat.reduceEqDiff, Nat.reduceBEq, reduceCtorEq, t0]
        · simp -implicitDefEqProofs only [go_sem, Nat.reduceEqDiff, Nat.reduceBEq, reduceCtorEq, t1]
        · simp -implicitDefEqProofs only [go_sem, Nat.reduceEqDiff, Nat.reduceBEq, reduceCtorEq, t2]
        · simp -implicitDefEqProofs only [go_sem, Nat.reduceEqDiff, Nat.reduceBEq, reduceCtorEq, t6]
        · simp -implicitDefEqProofs only [go_sem, Nat.reduceEqDiff, Nat.reduceBEq, reduceCtorEq]
        · by_cases e : j = i + 1
          · subst e; rw [hba, hv]
          · exact hdone j h1 (by omega)
      · rw [hv] at e2
        simp -implicitDefEqProofs only [go_sem, Nat.reduceAdd, Nat.reduceMul, Nat.reduceLT, Nat.reduceLeDiff, Nat.reduceEqDiff, Nat.reduceBEq, reduceCtorEq, Int.reduceLT, Int.reduceLE, Int.reduceEq, Int.reduceGT, Int.reduceGE, Int.reduceToNat, Int.reduceNeg, t0, t1, t2, t7, hcmp, hb, hw, e1, e2]
        refine .mk (.inr ⟨by simp, rfl, ?_, ?_, ?_, ?_, .inr ⟨rfl, fun h => ?_⟩⟩)
        · simp -implicitDefEqProofs only [go_sem, Nat.reduceEqDiff, Nat.reduceBEq, reduceCtorEq, t0]
        · simp -implicitDefEqProofs only [go_sem, Nat.reduceEqDiff, Nat.reduceBEq, reduceCtorEq, t1]
        · simp -implicitDefEqProofs only [go_sem, Nat.reduceEqDiff, Nat.reduceBEq, reduceCtorEq, t2]
        · simp -implicitDefEqProofs only [go_sem, Nat.reduceEqDiff, Nat.reduceBEq, reduceCtorEq, t6]
        · have := h.2 (i + 1) (by omega) (by omega)
          rw [hba, hv] at this
          cases this
    · rintro ⟨T1, H1⟩ ⟨hH, t0, t1, t2, t6, t7, hdone⟩
      simp only at hH t0 t1 t2 t6 t7
      subst hH
      rw [show n - 1 + 1 = n by omega] at t7 hdone
      have hcmp : decide (((n : Nat) : Int) < ((n : Nat) : Int)) = false := decide_eq_false (by omega)
      unfold F104_L0
      simp -implicitDefEqProofs only [go_sem, Nat.reduceAdd, Nat.reduceMul, Nat.reduceLT, Nat.reduceLeDiff, Nat.reduceEqDiff, Nat.reduceBEq, reduceCtorEq, Int.reduceLT, Int.reduceLE, Int.reduceEq, Int.reduceGT, Int.reduceGE, Int.reduceToNat, Int.reduceNeg, t2, t7, hcmp]
      refine .mk ⟨by simp, rfl, ?_, ?_, ?_, ?_, .inl ⟨rfl, hfit, hdone⟩⟩
      · simp -implicitDefEqProofs only [go_sem, Nat.reduceEqDiff, Nat.reduceBEq, reduceCtorEq, t0]
      · simp -implicitDefEqProofs only [go_sem, Nat.reduceEqDiff, Nat.reduceBEq, reduceCtorEq, t1]
      · simp -implicitDefEqProofs only [go_sem, Nat.reduceEqDiff, Nat.reduceBEq, reduceCtorEq, t2]
      · simp -implicitDefEqProofs only [go_sem, Nat.reduceEqDiff, Nat.reduceBEq, reduceCtorEq, t6]
    · rintro ⟨e, T1, H1⟩ ⟨hH, t0, t1, t2, t6, ⟨rfl, hok⟩ | ⟨rfl, hno⟩⟩
      · simp only at hH t0 t1 t2 t6
        subst hH
        have hw : IntKind.i64.wrap (((a : Nat) : Int) + ((n : Nat) : Int)) = ((a + n : Nat) : Int) := by
          rw [wrap_id (by unfold InI; omega)]; omega
        obtain ⟨p, c, h1, h2⟩ := Row.sub_cut S.row S.cap (a := a) (n := n) (by omega) (by simpa using hfit)
        simp -implicitDefEqProofs only [go_sem, Nat.reduceAdd, Nat.reduceMul, Nat.reduceLT, Nat.reduceLeDiff, Nat.reduceEqDiff, Nat.reduceBEq, reduceCtorEq, Int.reduceLT, Int.reduceLE, Int.reduceEq, Int.reduceGT, Int.reduceGE, Int.reduceToNat, Int.reduceNeg, t0, t1, t2, hb, hw, h1]
        refine .mk ⟨rfl, .inl ⟨hok, p, c, rfl, ?_⟩⟩
        rw [List.map_take, List.map_drop]
        exact h2
      · simp only at hH t0 t1 t2 t6
        subst hH
        simp -implicitDefEqProofs only [go_sem, Nat.reduceAdd, Nat.reduceMul, Nat.reduceLT, Nat.reduceLeDiff, Nat.reduceEqDiff, Nat.reduceBEq, reduceCtorEq, Int.reduceLT, Int.reduceLE, Int.reduceEq, Int.reduceGT, Int.reduceGE, Int.reduceToNat, Int.reduceNeg, t6]
        exact .mk ⟨rfl, .inr ⟨hno, rfl⟩⟩
  · have hc : decide (((n : Nat) : Int) > ((L.length - a : Nat) : Int)) = true := decide_eq_true (by omega)
    simp -implicitDefEqProofs only [go_sem, Nat.reduceAdd, Nat.reduceMul, Nat.reduceLT, Nat.reduceLeDiff, Nat.reduceEqDiff, Nat.reduceBEq, reduceCtorEq, Int.reduceLT, Int.reduceLE, Int.reduceEq, Int.reduceGT, Int.reduceGE, Int.reduceToNat, Int.reduceNeg, hb, S.alen, hsub, hc]
    exact .mk ⟨rfl, .inr ⟨fun h => hfit h.1, rfl⟩⟩
theorem nil_eql (v : AV) : (∃ p n c, v = .slice (some p) n c) → aBin Tryd.prog .eql 22 v (.slice none 0 (.kn 0)) = some (.bool false) := by
  rintro ⟨p, n, c, rfl⟩
  kernel_rfl
theorem nil_eql0 : aBin Tryd.prog .eql 22 (.slice none 0 (.kn 0)) (.slice none 0 (.kn 0)) = some (.bool true) := by kernel_rfl
end Go.Proofs.YthiflgncldmkjaaDoor
set_option linter.unusedVariables false
set_option linter.unusedSimpArgs false
set_option maxRecDepth 100000
namespace Go.Proofs.YthiflgncldmkjaaDoor
open Go.Ri

structure Plain (L : List Ins) : Prop where
  ok : ∀ i ∈ L, i.Ok
  few : L.length ≤ 65536
  jump : ∀ i ∈ L, isJ i → 0 ≤ i.n ∧ i.n < (L.length : Nat) ∧ i.m = 0
  clear : ∀ i ∈ L, i.op = 6 → 0 ≤ i.n ∧ i.n ≤ 65536 ∧ 0 ≤ i.m ∧ i.m ≤ 64
theorem jump_m {l : List Code} {c : Code} {i : Ins} (hm : mayI l c i = true) (hj : isJ i) : i.m = 0 := by
  unfold isJ at hj
  unfold mayI at hm
  split at hm
  · cases hm
  · rename_i h
    have h' : (lineOf i.op i.n i.m).isNone = false := by cases hh : (lineOf i.op i.n i.m).isNone <;> simp_all
    unfold lineOf at h'
    have hn : nums i.op = 1 := by rcases hj with e | e <;> rw [e] <;> decide
    rw [hn] at h'
    split at h'
    · simp at h'
    · split at h'
      · simp at h'
      · rename_i h2
        exact Classical.byContradiction fun h => h2 (.inr ⟨by omega, h⟩)
theorem clear_rng {l : List Code} {c : Code} {i : Ins} (hc : 0 ≤ c.cells ∧ c.cells ≤ 65536) (hm : mayI l c i = true) (h6 : i.op = 6) : 0 ≤ i.n ∧ i.n ≤ 65536 ∧ 0 ≤ i.m ∧ i.m ≤ 64 := by
  unfold mayI at hm
  split at hm
  · cases hm
  · simp [h6, within] at hm
    omega
theorem OwnOk.plain {l : List Code} {c : Code} (o : OwnOk l c) (hok : ∀ i ∈ c.ins, i.Ok) : Plain c.ins :=
  ⟨hok, o.few, fun i hi hj => ⟨(may_rng (o.may i hi) hj).1, (may_rng (o.may i hi) hj).2, jump_m (o.may i hi) hj⟩, fun i hi h6 => clear_rng o.cells (o.may i hi) h6⟩

theorem insAt_eq {L : List Ins} {a : Nat} (h : a < L.length) : insAt L a = L[a] := by
  unfold insAt
  rw [List.getElem?_eq_getElem h]
  rfl
theorem leftP_none0 (a b : Int) : leftP 0 a b = none := by simp [leftP]
theorem pairP_zero (i j k : Ins) (h : j.op = 0) : pairP i j k = ⟨0, 0, []⟩ := by simp [pairP, h]
theorem tripleP_zero (i j k : Ins) (h : k.op = 0) : tripleP i j k = ⟨0, 0, []⟩ := by simp [tripleP, h, leftP_none0]

set_option maxHeartbeats 1000000 in
theorem triple_spec (d : Nat) {H : AH} (hw : H.wf) {k : Nat} {s : AV} {L : List Ins} {R T : List Bool} (S : Sight H k s L R T) (hL : L.length ≤ 65536) {a : Nat} (ha : a + 1 < L.length) (hT : bAt T (a + 1) = false) :
    Ret (RT (d + 3) 106 [.ptr (some (k, 0)), .int .i64 (a : Nat)] H) fun r => Ext H.next H r.2 ∧ ChgAt H.next r.2 r.1 (tripleP L[a] L[a + 1] (if bAt T (a + 2) = true then I0 else insAt L (a + 2))) := by
  rw [R106]
  unfold F106
  have hx : Ext H.next H (H.new [.int .i64 0, .int .i64 0, .slice none 0 (.kn 0)] 108) := (Ext.refl hw).new _ _
  have S1 := S.mono (hx.sub hw)
  have hput := fun B => hx.put (b := H.next) (Nat.le_refl _) (by simp) B
  have hput4 := fun cs e B => (hx.new cs e).put (b := H.next) (Nat.le_refl _) (by simp only [new_next]; omega) B
  have n1 : ¬ H.next = H.next + 1 := by omega
  obtain ⟨⟨v, H2⟩, h104, hH, hr⟩ := part_spec (d + 1) S1 (a := a) (n := 3) (by omega) (by omega) (by omega) (by omega)
  simp only at hH hr
  subst hH
  rw [show ((3 : Nat) : Int) = 3 from rfl] at h104
  rcases hr with ⟨⟨hle, hnt⟩, p, c, rfl, hrow⟩ | ⟨hno, rfl⟩
  · have h2 := hnt 2 (by omega) (by omega)
    rw [if_neg (by rw [h2]; simp), insAt_eq (show a + 2 < L.length by omega)]
    have hlen : (((L.drop a).take 3).map insC).length = 3 := by simp; omega
    obtain ⟨b0, o0, e0, _, f0⟩ := hrow.at (i := 0) (by omega)
    obtain ⟨b1, o1, e1, _, f1⟩ := hrow.at (i := 1) (by omega)
    obtain ⟨b2, o2, e2, _, f2⟩ := hrow.at (i := 2) (by omega)
    have e0 := e0 .i64
    have e1 := e1 .i64
    have e2 := e2 .i64
    rw [Int.natCast_zero] at e0
    rw [Int.natCast_one] at e1
    rw [show ((2 : Nat) : Int) = 2 from rfl] at e2
    have f00 := f0 0 (by omega)
    have f01 := f0 1 (by omega)
    have f10 := f1 0 (by omega)
    have f11 := f1 1 (by omega)
    have f20 := f2 0 (by omega)
    simp only [List.getElem_map, List.getElem_take, List.getElem_drop, insC, List.getElem?_cons_zero, List.getElem?_cons_succ, Nat.add_zero] at f00 f01 f10 f11 f20
    have hne : aBin Tryd.prog .eql 22 (.slice (some p) 3 c) (.slice none 0 (.kn 0)) = some (.bool false) := nil_eql _ ⟨_, _, _, rfl⟩
    by_cases p0 : L[a].op = 1
    · by_cases p1 : L[a + 1].op = 1
      · obtain ⟨⟨w, H3⟩, h124, hH3, hr3⟩ := two_spec d L[a + 2].op L[a].n L[a + 1].n (H.new [.int .i64 0, .int .i64 0, .slice none 0 (.kn 0)] 108)
        simp only at hH3 hr3
        subst hH3
        rcases hr3 with ⟨x, hx1, rfl⟩ | ⟨hx1, y, rfl⟩
        · simp -implicitDefEqProofs only [go_sem, Nat.reduceAdd, Nat.reduceMul, Nat.reduceLT, Nat.reduceLeDiff, Nat.reduceEqDiff, Nat.reduceBEq, reduceCtorEq, Int.reduceLT, Int.reduceLE, Int.reduceEq, Int.reduceGT, Int.reduceGE, Int.reduceToNat, Int.reduceNeg, h104, hne, e0, e1, e2, f00, f01, f10, f11, f20, decide_eq_true p0, decide_eq_true p1, h124, n1, bs22i]
          refine .mk ⟨hput4 _ _ _, ?_⟩
          have e : tripleP L[a] L[a + 1] L[a + 2] = ⟨6, 3, [pushI x]⟩ := by simp [tripleP, p0, p1, hx1]
          exact chg_eq e (ChgAt.made 6 3 (by simp only [put_next, new_next]; omega) (by simp) rfl rfl)
        · simp -implicitDefEqProofs only [go_sem, Nat.reduceAdd, Nat.reduceMul, Nat.reduceLT, Nat.reduceLeDiff, Nat.reduceEqDiff, Nat.reduceBEq, reduceCtorEq, Int.reduceLT, Int.reduceLE, Int.reduceEq, Int.reduceGT, Int.reduceGE, Int.reduceToNat, Int.reduceNeg, h104, hne, e0, e1, e2, f00, f01, f10, f11, f20, decide_eq_true p0, decide_eq_true p1, h124, n1]
          refine .mk ⟨hput _, ?_⟩
          have e : tripleP L[a] L[a + 1] L[a + 2] = ⟨0, 0, []⟩ := by simp [tripleP, hx1]
          exact chg_eq e (ChgAt.none _ _ 0 0)
      · simp -implicitDefEqProofs only [go_sem, Nat.reduceAdd, Nat.reduceMul, Nat.reduceLT, Nat.reduceLeDiff, Nat.reduceEqDiff, Nat.reduceBEq, reduceCtorEq, Int.reduceLT, Int.reduceLE, Int.reduceEq, Int.reduceGT, Int.reduceGE, Int.reduceToNat, Int.reduceNeg, h104, hne, e0, e1, f00, f10, decide_eq_true p0, decide_eq_false p1, n1]
        refine .mk ⟨hput _, ?_⟩
        have e : tripleP L[a] L[a + 1] L[a + 2] = ⟨0, 0, []⟩ := by simp [tripleP, p1]
        exact chg_eq e (ChgAt.none _ _ 0 0)
    · simp -implicitDefEqProofs only [go_sem, Nat.reduceAdd, Nat.reduceMul, Nat.reduceLT, Nat.reduceLeDiff, Nat.reduceEqDiff, Nat.reduceBEq, reduceCtorEq, Int.reduceLT, Int.reduceLE, Int.reduceEq, Int.reduceGT, Int.reduceGE, Int.reduceToNat, Int.reduceNeg, h104, hne, e0, f00, decide_eq_false p0, n1]
      refine .mk ⟨hput _, ?_⟩
      have e : tripleP L[a] L[a + 1] L[a + 2] = ⟨0, 0, []⟩ := by simp [tripleP, p0]
      exact chg_eq e (ChgAt.none _ _ 0 0)
  · simp -implicitDefEqProofs only [go_sem, Nat.reduceAdd, Nat.reduceMul, Nat.reduceLT, Nat.reduceLeDiff, Nat.reduceEqDiff, Nat.reduceBEq, reduceCtorEq, Int.reduceLT, Int.reduceLE, Int.reduceEq, Int.reduceGT, Int.reduceGE, Int.reduceToNat, Int.reduceNeg, h104, nil_eql0, n1]
    refine .mk ⟨hput _, ?_⟩
    refine chg_eq (tripleP_zero _ _ _ ?_) (ChgAt.none _ _ 0 0)
    by_cases h2 : bAt T (a + 2) = true
    · rw [if_pos h2]; rfl
    · rw [if_neg h2]
      unfold insAt
      rw [List.getElem?_eq_none]
      · rfl
      · refine Nat.le_of_not_lt fun hlt => hno ⟨by omega, fun j h1 h3 => ?_⟩
        have : j = 1 ∨ j = 2 := by omega
        rcases this with rfl | rfl
        · exact hT
        · simpa using h2
end Go.Proofs.YthiflgncldmkjaaDoor
