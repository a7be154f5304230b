/- Part 5 of the proof that: Any codes are made short, or refused, as the document says (PeepMakes): for every input the law returns true, and the input reads as it did. Condition: the two tables of package code start as the program's text lays them (the row's own). -/
import Derived.Test.YthiflgncldmkjaaDoorBV84
set_option linter.unusedVariables false
set_option linter.unusedSimpArgs false
set_option maxRecDepth 100000
namespace Go.Proofs.YthiflgncldmkjaaDoor
open Go.Ri
attribute [local congr] bind_lazy jn_lazy

theorem done_ok {l : List Code} {c : Code} {L' : List Ins} (hs : Snd l c) (hok : ∀ i ∈ c.ins, i.Ok) (h : onceP c.ins = some L') : ∀ i ∈ L', i.Ok := by
  have P := hs.1.plain hok
  obtain ⟨s1, _⟩ := once_snd hs h
  obtain ⟨o, hh, g⟩ := hs
  simp only [onceP, Option.map_eq_some_iff] at h
  obtain ⟨i, hi, rfl⟩ := h
  obtain ⟨_, hil, hr, _⟩ := firstP_some hi
  have St := fit_step g o (by omega) hr
  have hpok := put_ok (R := reachL c.ins) (T := targL c.ins) P i
  intro j hj
  unfold doneP at hj
  rw [List.mem_map] at hj
  obtain ⟨q, hq, rfl⟩ := hj
  have hqok : q.Ok := by
    simp only [List.mem_append] at hq
    rcases hq with (hq | hq) | hq
    · exact hok q (List.mem_of_mem_take hq)
    · exact hpok q hq
    · exact hok q (List.mem_of_mem_drop hq)
  have hb1 := St.bound
  have hb2 := St.small
  have hL := P.few
  unfold mvI
  split
  · refine ⟨hqok.op, ?_, hqok.m⟩
    have := hqok.n
    unfold InI mvP at *
    simp only
    split
    · omega
    · split <;> omega
  · exact hqok
theorem jumps_before {l : List Code} {c : Code} (hs : Snd l c) (hok : ∀ i ∈ c.ins, i.Ok) {p : Nat} (hp : firstP c.ins c.ins.length 0 = some p) :
    ∀ i ∈ c.ins.take p ++ (fitP c.ins p).put ++ c.ins.drop (p + (fitP c.ins p).n), isJ i → -70000 ≤ i.n ∧ i.n ≤ 200000 := by
  intro i hi hj
  have ho : onceP c.ins = some (doneP c.ins p (fitP c.ins p).n (fitP c.ins p).put) := by simp [onceP, hp]
  have hk := done_ok hs hok ho
  obtain ⟨s1, _, hlen⟩ := once_snd hs ho
  have P1 := s1.1.plain hk
  have hm : mvI p (fitP c.ins p).n (fitP c.ins p).put.length i ∈ doneP c.ins p (fitP c.ins p).n (fitP c.ins p).put := by
    unfold doneP
    exact List.mem_map_of_mem hi
  have hj' : isJ (mvI p (fitP c.ins p).n (fitP c.ins p).put.length i) := by
    unfold isJ at hj ⊢
    rw [mvI_op]
    exact hj
  have h1 := P1.jump _ hm hj'
  have hf := P1.few
  have hfew := (hs.1.plain hok).few
  obtain ⟨_, hpl, hr, _⟩ := firstP_some hp
  obtain ⟨o, hh, g⟩ := hs
  have St := fit_step g o (by omega) hr
  have hb := St.bound
  simp only at h1 hf hb
  unfold mvI at h1
  rw [if_pos hj] at h1
  simp only at h1
  have h2 := h1.1
  have h3 := h1.2.1
  unfold mvP at h2 h3
  split at h2
  · rw [if_pos ‹_›] at h3; omega
  · rw [if_neg ‹_›] at h3
    split at h2
    · omega
    · rw [if_neg ‹_›] at h3; omega
structure Set74 (H Hq : AH) (q4 q6 q8 : Nat) (s hv tg : AV) (c : Code) (h : List Int) (Tg : List Bool) : Prop where
  wf : Hq.wf
  ext : Ext H.next H Hq
  n4 : H.next ≤ q4
  n46 : q4 < q6
  n68 : q6 < q8
  n8 : q8 < Hq.next
  b4 : ∃ a b e f, Hq.m q4 = some ⟨[a, b, e, f], 24, true⟩
  b6 : Hq.m q6 = some ⟨[s, hv, tg], 141, true⟩
  b8 : Hq.m q8 = some ⟨[s, .int .i64 c.cells, .int .i64 c.params, .bool c.answers], 24, true⟩
  view : Vw Hq s hv tg c.ins h Tg
  cap : CapOk s
  reach : hAt h = reachL c.ins
  targ : bAt Tg = targL c.ins
structure ISr (Hq : AH) (q4 q6 q8 : Nat) (L : List Ins) (i : Nat) (t : St) : Prop where
  t4 : t.1 4 = .ptr (some (q4, 0))
  t5 : t.1 5 = .bool false
  t6 : t.1 6 = .ptr (some (q6, 0))
  t8 : t.1 8 = .ptr (some (q8, 0))
  t9 : t.1 9 = .int .i64 (i : Nat)
  ext : Ext Hq.next Hq t.2
  none : ∀ j, j < i → (fitP L j).rule = 0
def ESr (H Hq : AH) (q4 q6 q8 : Nat) (c : Code) (r : Ex × St) : Prop :=
  (r.1 = .exit 0 ∧ onceP c.ins = none ∧ ISr Hq q4 q6 q8 c.ins c.ins.length r.2) ∨
  (r.1 = .ret ∧ r.2.1 4 = .ptr (some (q4, 0)) ∧ r.2.1 5 = .bool true ∧ Ext H.next H r.2.2 ∧ ∃ L' v, onceP c.ins = some L' ∧ Own H.next 3 29 r.2.2 v (insF L') ∧ r.2.2.m q4 = some ⟨[v, .int .i64 c.cells, .int .i64 c.params, .bool c.answers], 24, true⟩)
set_option maxHeartbeats 4000000 in
theorem rsearch (d : Nat) {H Hq : AH} {q4 q6 q8 : Nat} {s hv tg : AV} {l : List Code} {c : Code} {h : List Int} {Tg : List Bool} (S : Set74 H Hq q4 q6 q8 s hv tg c h Tg) (hs : Snd l c) (hok : ∀ i ∈ c.ins, i.Ok)
    {T : Tm} {H1 : AH} (h0 : ISr Hq q4 q6 q8 c.ins 0 (T, H1)) : Ret (Ri.iter big (F74_L2 (RT (d + 5)) (Ri.iter big)) (T, H1)) (ESr H Hq q4 q6 q8 c) := by
  obtain ⟨hw, hxq, hn4, h46, h68, h8, ⟨z0, z1, z2, z3, hb4⟩, hb6, hb8, V, hcap, hR, hT⟩ := S
  have P := hs.1.plain hok
  have hL := P.few
  have hal : aLen Tryd.prog 22 s = some (.int .i64 (c.ins.length : Nat)) := by rw [V.row.alen ysl22.under, List.length_map]
  refine Ret.upTo (n := c.ins.length) (ISr Hq q4 q6 q8 c.ins) (by unfold big; omega) h0 ?_ ?_
  · rintro i ⟨T1, H2⟩ hi ⟨t4, t5, t6, t8, t9, hx, hnone⟩
    simp only at t4 t5 t6 t8 t9 hx
    have hcmp : decide (((i : Nat) : Int) < ((c.ins.length : Nat) : Int)) = true := decide_eq_true (by omega)
    have hb62 : H2.m q6 = some ⟨[s, hv, tg], 141, true⟩ := by rw [hx.low _ (by omega)]; exact hb6
    obtain ⟨⟨v, H3⟩, h99, hx3, hrl⟩ := rrule_spec d hx.wf (V.mono (hx.sub hw)) P hi
    simp only at hx3 hrl
    have hfit : ruleP (hAt h) (bAt Tg) c.ins i = fitP c.ins i := by unfold fitP; rw [hR, hT]
    rw [hfit] at hrl
    obtain ⟨sv, rfl, hrow, hlow⟩ := hrl
    have hx13 : Ext Hq.next Hq H3 := hx.trans hx3 hx.next
    have hwi := wrapS (i := i) (by omega)
    unfold F74_L2
    by_cases hr : (fitP c.ins i).rule = 0
    · have hr0 : decide ((((fitP c.ins i).rule : Nat) : Int) = 0) = true := decide_eq_true (by omega)
      simp -implicitDefEqProofs only [go_sem, Nat.reduceAdd, Nat.reduceMul, Nat.reduceLT, Nat.reduceLeDiff, Nat.reduceEqDiff, Nat.reduceBEq, reduceCtorEq, Int.reduceLT, Int.reduceLE, Int.reduceEq, Int.reduceGT, Int.reduceGE, Int.reduceToNat, Int.reduceNeg, t6, t9, hb62, hal, hcmp, h99, hr0, hwi]
      refine .mk (.inl ⟨rfl, ?_, ?_, ?_, ?_, ?_, hx13, fun j hj => ?_⟩)
      · simp -implicitDefEqProofs only [go_sem, Nat.reduceEqDiff, Nat.reduceBEq, reduceCtorEq, t4]
      · simp -implicitDefEqProofs only [go_sem, Nat.reduceEqDiff, Nat.reduceBEq, reduceCtorEq, t5]
      · simp -implicitDefEqProofs only [go_sem, Nat.reduceEqDiff, Nat.reduceBEq, reduceCtorEq, t6]
      · simp -implicitDefEqProofs only [go_sem, Nat.reduceEqDiff, Nat.reduceBEq, reduceCtorEq, t8]
      · simp -implicitDefEqProofs only [go_sem, Nat.reduceEqDiff, Nat.reduceBEq, reduceCtorEq]
      · by_cases e : j = i
        · rw [e]; exact hr
        · exact hnone j (by omega)
    · have hr0 : decide ((((fitP c.ins i).rule : Nat) : Int) = 0) = false := decide_eq_false (by omega)
      have hfirst : firstP c.ins c.ins.length 0 = some i := firstP_at hr c.ins.length 0 (Nat.zero_le _) (by omega) (fun r _ h => hnone r h)
      have hjb := jumps_before hs hok hfirst
      obtain ⟨o, hh, g⟩ := id hs
      have St := fit_step g o hi hr
      have hb1 := St.bound
      have hb2 := St.small
      have ho : onceP c.ins = some (doneP c.ins i (fitP c.ins i).n (fitP c.ins i).put) := by simp [onceP, hfirst]
      -- the three parts
      have V3 := V.mono (hx13.sub hw)
      obtain ⟨va, hca, hra⟩ := Row.to_cut V3.row hcap (a := i) (by rw [List.length_map]; omega)
      obtain ⟨hal1, has1⟩ := hra.src
      have htk : ((c.ins.map insC).take i).flatten = insF (c.ins.take i) := by unfold insF; rw [List.map_take]
      rw [htk] at has1
      have hlt1 : ((c.ins.map insC).take i).length = i := by simp; omega
      rw [hlt1] at hal1 has1
      have hlim : ∀ x y : Nat, x ≤ 140000 → y ≤ 140000 → (x * 3 + y * 3) * 24 ≤ 140737488355328 * 3 := fun x y hx hy => by omega
      obtain ⟨⟨va', H4⟩, hap1, ho1, hx4, _⟩ := app_own (x := va) (ds := insF (c.ins.take i)) ysl22 ysl22.seq (Own.nil H3.next 3 29 H3) (Ext.refl hx13.wf) hal1 has1 (by rw [insF_len]; simp; omega) (by rw [insF_len]; simp; omega)
      simp only [List.nil_append] at ho1 hx4
      obtain ⟨hal2, has2⟩ := (hrow.mono (hx4.sub hx13.wf)).src
      rw [List.length_map] at hal2 has2
      have hpl1 : (fitP c.ins i).put.length ≤ 65536 := by omega
      obtain ⟨⟨vb, H5⟩, hap2, ho2, hx5, _⟩ := app_own (x := sv) (ds := insF (fitP c.ins i).put) ysl22 ysl22.seq ho1 hx4 hal2 has2 (insF_len _) (by rw [insF_len, insF_len]; exact hlim _ _ (by simp; omega) (by omega))
      simp only at ho2 hx5
      have hb65 : H5.m q6 = some ⟨[s, hv, tg], 141, true⟩ := by rw [hx5.low _ (by have := hx13.next; omega), hx13.low _ (by omega)]; exact hb6
      have hx15 : Ext Hq.next Hq H5 := hx13.trans hx5 hx13.next
      have V5 := V.mono (hx15.sub hw)
      obtain ⟨vc, hcc, hrc⟩ := Row.from_cut V5.row hcap (a := i + (fitP c.ins i).n) (by rw [List.length_map]; exact hb1)
      obtain ⟨hal3, has3⟩ := hrc.src
      rw [insF_drop] at has3
      rw [List.length_drop, List.length_map] at hal3 has3
      obtain ⟨⟨vd, H6⟩, hap3, ho3, hx6, _⟩ := app_own (x := vc) (ds := insF (c.ins.drop (i + (fitP c.ins i).n))) ysl22 ysl22.seq ho2 hx5 hal3 has3 (by rw [insF_len, List.length_drop]) (by rw [List.length_append, insF_len, insF_len, insF_len, ← Nat.add_mul]; exact hlim _ _ (by simp; omega) (by simp; omega))
      simp only at ho3 hx6
      rw [← insF_append, ← insF_append] at ho3
      have hx16 : Ext Hq.next Hq H6 := hx13.trans hx6 hx13.next
      have hwa : IntKind.i64.wrap (((i : Nat) : Int) + ((fitP c.ins i).n : Nat)) = ((i + (fitP c.ins i).n : Nat) : Int) := by rw [wrap_id (by unfold InI; omega)]; omega
      have hpa : aLen Tryd.prog 22 sv = some (.int .i64 ((fitP c.ins i).put.length : Nat)) := by rw [hrow.alen ysl22.under, List.length_map]
      have hb63 : H3.m q6 = some ⟨[s, hv, tg], 141, true⟩ := by rw [hx13.low _ (by omega)]; exact hb6
      have hAl : (c.ins.take i ++ (fitP c.ins i).put ++ c.ins.drop (i + (fitP c.ins i).n)).length ≤ 70000 := by simp; omega
      simp -implicitDefEqProofs only [go_sem, Nat.reduceAdd, Nat.reduceMul, Nat.reduceLT, Nat.reduceLeDiff, Nat.reduceEqDiff, Nat.reduceBEq, reduceCtorEq, Int.reduceLT, Int.reduceLE, Int.reduceEq, Int.reduceGT, Int.reduceGE, Int.reduceToNat, Int.reduceNeg, t6, t9, hb62, hal, hcmp, h99, hr0, hb63, hca, hap1, hap2, hb65, hwa, hcc, hap3]
      refine Ret.then (mv_loop (d + 4) hx16.wf (q4 := q4) (q8 := q8) (Own.insRow ho3) hpa hAl (p := i) (n := (fitP c.ins i).n) (by omega) (by omega) hjb ⟨?_, ?_, ?_, ?_, ?_, ?_, ?_, Ext.refl hx16.wf, ?_⟩) ?_
      · simp -implicitDefEqProofs only [go_sem, Nat.reduceEqDiff, Nat.reduceBEq, reduceCtorEq, t4]
      · simp -implicitDefEqProofs only [go_sem, Nat.reduceEqDiff, Nat.reduceBEq, reduceCtorEq, t8]
      · simp -implicitDefEqProofs only [go_sem, Nat.reduceEqDiff, Nat.reduceBEq, reduceCtorEq, t9]
      · simp -implicitDefEqProofs only [go_sem, Nat.reduceEqDiff, Nat.reduceBEq, reduceCtorEq]
      · simp -implicitDefEqProofs only [go_sem, Nat.reduceEqDiff, Nat.reduceBEq, reduceCtorEq]
      · simp -implicitDefEqProofs only [go_sem, Nat.reduceEqDiff, Nat.reduceBEq, reduceCtorEq]
      · simp -implicitDefEqProofs only [go_sem, Nat.reduceEqDiff, Nat.reduceBEq, reduceCtorEq]
        rfl
      · simp -implicitDefEqProofs only [go_sem, Nat.reduceEqDiff, Nat.reduceBEq, reduceCtorEq]
        exact Own.nil _ _ _ _
      rintro ⟨e, T7, H7⟩ ⟨rfl, u4, u8, u9, _, _, _, _, hx7, ho7⟩
      simp only at u4 u8 u9 hx7 ho7
      rw [List.take_of_length_le (Nat.le_refl _)] at ho7
      have hdone : (c.ins.take i ++ (fitP c.ins i).put ++ c.ins.drop (i + (fitP c.ins i).n)).map (mvI i (fitP c.ins i).n (fitP c.ins i).put.length) = doneP c.ins i (fitP c.ins i).n (fitP c.ins i).put := rfl
      rw [hdone] at ho7
      have hn6 := hx16.next
      have hn7 := hx7.next
      have hb87 : H7.m q8 = some ⟨[s, .int .i64 c.cells, .int .i64 c.params, .bool c.answers], 24, true⟩ := by rw [hx7.low _ (by omega), hx16.low _ (by omega)]; exact hb8
      have hb47 : H7.m q4 = some ⟨[z0, z1, z2, z3], 24, true⟩ := by rw [hx7.low _ (by omega), hx16.low _ (by omega)]; exact hb4
      have n48 : ¬ q4 = q8 := by omega
      have n84 : ¬ q8 = q4 := by omega
      have hx17 : Ext H.next H H7 := hxq.trans (hx16.trans hx7 (by omega)) (by omega)
      have hxF := fun B1 B2 => (hx17.put (b := q8) (by omega) (by omega) B1).put (b := q4) hn4 (by simp only [put_next]; omega) B2
      obtain ⟨pv, nv, cv, hv7⟩ := ho7.shape
      have hoF : ∀ B1 B2, Own H.next 3 29 ((H7.put q8 B1).put q4 B2) (T7 14) (insF (doneP c.ins i (fitP c.ins i).n (fitP c.ins i).put)) := fun B1 B2 => (ho7.mono fun b hb c e => by
        obtain ⟨_, _, hbb⟩ := ho7.at (b := b) ⟨hb, c, e⟩
        simp only [put_m]
        rw [if_neg (by omega), if_neg (by omega)]).low (by omega)
      rw [hv7] at hoF
      simp -implicitDefEqProofs only [go_sem, Nat.reduceAdd, Nat.reduceMul, Nat.reduceLT, Nat.reduceLeDiff, Nat.reduceEqDiff, Nat.reduceBEq, reduceCtorEq, Int.reduceLT, Int.reduceLE, Int.reduceEq, Int.reduceGT, Int.reduceGE, Int.reduceToNat, Int.reduceNeg, u4, u8, hv7, hb87, n48, n84, hb47]
      refine .mk (.inr ⟨by simp, .inr ⟨rfl, ?_, ?_, hxF _ _, _, _, ho, hoF _ _, ?_⟩⟩)
      · simp -implicitDefEqProofs only [go_sem, Nat.reduceEqDiff, Nat.reduceBEq, reduceCtorEq, u4]
      · simp -implicitDefEqProofs only [go_sem, Nat.reduceEqDiff, Nat.reduceBEq, reduceCtorEq]
      · simp only [put_m, if_true]
  · rintro ⟨T1, H2⟩ ⟨t4, t5, t6, t8, t9, hx, hnone⟩
    simp only at t4 t5 t6 t8 t9 hx
    have hcmp : decide (((c.ins.length : Nat) : Int) < ((c.ins.length : Nat) : Int)) = false := decide_eq_false (by omega)
    have hb62 : H2.m q6 = some ⟨[s, hv, tg], 141, true⟩ := by rw [hx.low _ (by omega)]; exact hb6
    unfold F74_L2
    simp -implicitDefEqProofs only [go_sem, Nat.reduceAdd, Nat.reduceMul, Nat.reduceLT, Nat.reduceLeDiff, Nat.reduceEqDiff, Nat.reduceBEq, reduceCtorEq, Int.reduceLT, Int.reduceLE, Int.reduceEq, Int.reduceGT, Int.reduceGE, Int.reduceToNat, Int.reduceNeg, t6, t9, hb62, hal, hcmp]
    refine .mk ⟨by simp, .inl ⟨rfl, ?_, ?_, ?_, ?_, ?_, ?_, hx, hnone⟩⟩
    · simp [onceP, firstP_no c.ins.length 0 fun r _ h => hnone r (by omega)]
    · simp -implicitDefEqProofs only [go_sem, Nat.reduceEqDiff, Nat.reduceBEq, reduceCtorEq, t4]
    · simp -implicitDefEqProofs only [go_sem, Nat.reduceEqDiff, Nat.reduceBEq, reduceCtorEq, t5]
    · simp -implicitDefEqProofs only [go_sem, Nat.reduceEqDiff, Nat.reduceBEq, reduceCtorEq, t6]
    · simp -implicitDefEqProofs only [go_sem, Nat.reduceEqDiff, Nat.reduceBEq, reduceCtorEq, t8]
    · simp -implicitDefEqProofs only [go_sem, Nat.reduceEqDiff, Nat.reduceBEq, reduceCtorEq, t9]
end Go.Proofs.YthiflgncldmkjaaDoor
set_option linter.unusedVariables false
set_option linter.unusedSimpArgs false
set_option maxRecDepth 100000
namespace Go.Proofs.YthiflgncldmkjaaDoor
open Go.Ri
attribute [local congr] bind_lazy jn_lazy

set_option maxHeartbeats 2000000 in
theorem ronce_spec (d : Nat) {H : AH} (hw : H.wf) (hT : Tabs H) {ls : AV} {l : List Code} (hl : CodesRow H ls l) {k : Nat} (hk : k < l.length) (hs : Snd l l[k]) (hok : ∀ i ∈ l[k].ins, i.Ok)
    (hcap : ∀ b o s, (∀ kd, idxSl ls (.int kd (k : Nat)) 4 = some (.ptr (some (b, o)))) → ldOne (.ptr (some (b, o))) H = some s → CapOk s) :
    Ret (RT (d + 6) 74 [ls, .int .i64 (k : Nat)] H) fun r => Ext H.next H r.2 ∧ ((∃ L' v, onceP l[k].ins = some L' ∧ r.1 = .tuple [.agg [v, .int .i64 l[k].cells, .int .i64 l[k].params, .bool l[k].answers], .bool true] ∧ Own H.next 3 29 r.2 v (insF L')) ∨
      (onceP l[k].ins = none ∧ ∃ s, r.1 = .tuple [.agg [s, .int .i64 l[k].cells, .int .i64 l[k].params, .bool l[k].answers], .bool false])) := by
  rw [R74]
  unfold F74
  have x1 : Ext H.next H (H.new [.slice none 0 (.kn 0), .int .i64 0, .int .i64 0, .bool false] 24) := (Ext.refl hw).new _ _
  obtain ⟨⟨v, H2⟩, h98, x2, b, o, s, hv, tg, h, T, f1, f2, rfl, V, hR, hT'⟩ := of_spec d x1.wf (hT.ext x1 hT.two) (hl.mono (x1.sub hw)) hk hs hok
  simp only at x2 V
  obtain ⟨b', o', s', g1, g2, _, _, g5, _⟩ := codes_ins hl hk
  obtain ⟨rfl, rfl⟩ : b' = b ∧ o' = o := by
    have h1 := g1 .i64
    rw [f1 .i64] at h1
    cases h1
    exact ⟨rfl, rfl⟩
  have g5' := ldAgg_sub (x1.sub hw) g5
  obtain rfl : s' = s := by
    rw [g5'] at f2
    simp only [Option.some.injEq, AV.agg.injEq, List.cons.injEq] at f2
    exact f2.1
  have hc := hcap _ _ _ g1 g2
  have x12 : Ext H.next H H2 := x1.trans x2 (Nat.le_succ _)
  have hlt : H.next < H2.next := x2.next
  have x3 : Ext H2.next H2 (H2.new [s', hv, tg] 141) := (Ext.refl x2.wf).new _ _
  have f3 := ldAgg_sub (x3.sub x2.wf) (ldAgg_sub (x2.sub x1.wf) f2)
  obtain ⟨pp, hpp⟩ : ∃ q, q = (b', o') := ⟨_, rfl⟩
  rw [← hpp] at f1 f3
  have hb2 : H2.m H.next = some ⟨[.slice none 0 (.kn 0), .int .i64 0, .int .i64 0, .bool false], 24, true⟩ := by rw [x2.low _ (Nat.lt_succ_self _)]; simp
  have n1 : ¬ H.next = H2.next := by omega
  have n2 : ¬ H.next = H2.next + 1 := by omega
  have n3 : ¬ H2.next = H2.next + 1 := by omega
  have x4 : Ext H2.next H2 ((H2.new [s', hv, tg] 141).new [s', .int .i64 l[k].cells, .int .i64 l[k].params, .bool l[k].answers] 24) := x3.new _ _
  have S : Set74 H ((H2.new [s', hv, tg] 141).new [s', .int .i64 l[k].cells, .int .i64 l[k].params, .bool l[k].answers] 24) H.next H2.next (H2.next + 1) s' hv tg l[k] h T :=
    ⟨x4.wf, x12.trans x4 x12.next, Nat.le_refl _, hlt, Nat.lt_succ_self _, by simp only [new_next]; omega, ⟨_, _, _, _, by simp only [new_m, new_next]; rw [if_neg n2, if_neg n1]; exact hb2⟩, by simp [n3], by simp, V.mono (x4.sub x2.wf), hc, hR, hT'⟩
  have hnp : ∀ cs cs' : List AV, ((H2.new [s', hv, tg] 141).new cs 24).put (H2.next + 1) ⟨cs', 24, true⟩ = (H2.new [s', hv, tg] 141).new cs' 24 := fun cs cs' => new_put (H2.new [s', hv, tg] 141) _ _ _ _
  simp -implicitDefEqProofs only [go_sem, Nat.reduceAdd, Nat.reduceMul, Nat.reduceLT, Nat.reduceLeDiff, Nat.reduceEqDiff, Nat.reduceBEq, reduceCtorEq, Int.reduceLT, Int.reduceLE, Int.reduceEq, Int.reduceGT, Int.reduceGE, Int.reduceToNat, Int.reduceNeg, h98, new_put, f1, f3, hnp]
  refine Ret.then (rsearch d S hs hok ⟨?_, ?_, ?_, ?_, ?_, Ext.refl x4.wf, fun j hj => absurd hj (Nat.not_lt_zero _)⟩) ?_
  · simp -implicitDefEqProofs only [go_sem, Nat.reduceEqDiff, Nat.reduceBEq, reduceCtorEq]
  · simp -implicitDefEqProofs only [go_sem, Nat.reduceEqDiff, Nat.reduceBEq, reduceCtorEq]
  · simp -implicitDefEqProofs only [go_sem, Nat.reduceEqDiff, Nat.reduceBEq, reduceCtorEq]
  · simp -implicitDefEqProofs only [go_sem, Nat.reduceEqDiff, Nat.reduceBEq, reduceCtorEq]
  · simp -implicitDefEqProofs only [go_sem, Nat.reduceEqDiff, Nat.reduceBEq, reduceCtorEq]
    rfl
  rintro ⟨e, T7, H7⟩ (⟨he, ho, u4, u5, u6, u8, u9, hx7, _⟩ | ⟨he, u4, u5, hx7, L', vv, ho, hown, hb4⟩)
  · simp only at he u4 u5 u6 u8 u9 hx7
    subst he
    have hb87 : H7.m (H2.next + 1) = some ⟨[s', .int .i64 l[k].cells, .int .i64 l[k].params, .bool l[k].answers], 24, true⟩ := by rw [hx7.low _ S.n8]; exact S.b8
    have hb47 : H7.m H.next = some ⟨[.slice none 0 (.kn 0), .int .i64 0, .int .i64 0, .bool false], 24, true⟩ := by rw [hx7.low _ (by simp; omega)]; simp [n1, n2, hb2]
    have hx17 : Ext H.next H H7 := S.ext.trans hx7 S.ext.next
    have hxF := fun B => hx17.put (b := H.next) (Nat.le_refl _) (by have := hx7.next; simp at this; omega) B
    simp -implicitDefEqProofs only [go_sem, Nat.reduceAdd, Nat.reduceMul, Nat.reduceLT, Nat.reduceLeDiff, Nat.reduceEqDiff, Nat.reduceBEq, reduceCtorEq, Int.reduceLT, Int.reduceLE, Int.reduceEq, Int.reduceGT, Int.reduceGE, Int.reduceToNat, Int.reduceNeg, u4, u8, hb87, hb47]
    exact .mk ⟨hxF _, .inr ⟨ho, _, rfl⟩⟩
  · simp only at he u4 u5 hx7 hown hb4
    subst he
    simp -implicitDefEqProofs only [go_sem, Nat.reduceAdd, Nat.reduceMul, Nat.reduceLT, Nat.reduceLeDiff, Nat.reduceEqDiff, Nat.reduceBEq, reduceCtorEq, Int.reduceLT, Int.reduceLE, Int.reduceEq, Int.reduceGT, Int.reduceGE, Int.reduceToNat, Int.reduceNeg, u4, u5, hb4]
    exact .mk ⟨hx7, .inl ⟨L', vv, ho, rfl, hown⟩⟩
end Go.Proofs.YthiflgncldmkjaaDoor
set_option linter.unusedVariables false
set_option linter.unusedSimpArgs false
set_option maxRecDepth 100000
namespace Go.Ri
def CapN (s : AV) : Prop := s = .empty ∨ ∃ p n c, s = .slice p n (.kn c) ∧ n ≤ c
theorem lay_slice2 {P : Program} {w : World} {k : Nat} (hk : 0 < k) {ρ : Ro} {H : AH} (h : Sim P ρ H w) (hro : H.ro) {Good : AH → List AV → Prop} (hmono : ∀ H H' x, Good H x → H.sub H' → Good H' x)
    {v : Value} {a : Addr} {len cap : Nat} (hv : v = .slice (some a) len cap) (hc : len ≤ cap)
    (hel : ∀ i, i < len → ∃ ci, w.cells? 0 (a.add (i * k)) k = some ci ∧ ∀ ρ H, Sim P ρ H w → H.ro → ∃ ρ' H' x, Lays P w ρ H ρ' H' ∧ relL ρ' x ci ∧ x.length = k ∧ x.all AV.isOne = true ∧ Good H' x) :
    ∃ ρ' H' s l, Lays P w ρ H ρ' H' ∧ rel ρ' s v ∧ Row H' s k l ∧ l.length = len ∧ (∀ x ∈ l, Good H' x) ∧ CapN s := by
  cases len with
  | zero => exact ⟨ρ, H, .empty, [], .refl h hro, ⟨a, cap, hv⟩, ⟨by simp, .inl ⟨rfl, rfl⟩⟩, rfl, by simp, .inl rfl⟩
  | succ n =>
    -- the elements
    have key : ∀ m, m ≤ n + 1 → ∃ (ρ' : Ro) (H' : AH) (l : List (List AV)) (vs : List Value), Lays P w ρ H ρ' H' ∧ l.length = m ∧ (∀ x ∈ l, x.length = k ∧ x.all AV.isOne = true ∧ Good H' x) ∧ relL ρ' l.flatten vs ∧ vs.length = m * k ∧ ∀ i v, vs[i]? = some v → w.cell? (a.add i) = some v := by
      intro m
      induction m with
      | zero => exact fun _ => ⟨ρ, H, [], [], .refl h hro, rfl, by simp, relL_nil _, by simp, by simp⟩
      | succ m ih =>
        intro hm
        obtain ⟨ρ1, H1, l, vs, hL, hl, hx, hr, hvl, hcell⟩ := ih (by omega)
        obtain ⟨ci, hci, hgo⟩ := hel m (by omega)
        obtain ⟨ρ2, H2, x, hL2, hr2, hxk, hx1, hg⟩ := hgo ρ1 H1 hL.sim hL.ro
        obtain ⟨hcl, hcc⟩ := cells_some hci
        refine ⟨ρ2, H2, l ++ [x], vs ++ ci, hL.trans hL2, by simp [hl], ?_, ?_, ?_, ?_⟩
        · intro y hy
          simp only [List.mem_append, List.mem_cons, List.not_mem_nil, or_false] at hy
          rcases hy with hy | rfl
          · obtain ⟨a1, a2, a3⟩ := hx y hy
            exact ⟨a1, a2, hmono _ _ _ a3 hL2.sub⟩
          · exact ⟨hxk, hx1, hg⟩
        · rw [List.flatten_append, List.flatten_cons, List.flatten_nil, List.append_nil]
          exact relL_append (relL_mono hL2.le _ hr) hr2
        · rw [List.length_append, hvl, hcl, Nat.succ_mul]
        · intro i u hi
          rw [List.getElem?_append] at hi
          split at hi
          · exact hcell i u hi
          · rename_i hge
            rw [hvl] at hi hge
            have hlt := (List.getElem?_eq_some_iff.1 hi).1
            obtain ⟨u', h1, h2⟩ := hcc (i - m * k) (by omega)
            rw [hi] at h1
            cases h1
            rw [add_add] at h2
            rw [show m * k + (i - m * k) = i by omega] at h2
            exact h2
    obtain ⟨ρ1, H1, l, vs, hL, hl, hx, hr, hvl, hcell⟩ := key (n + 1) (Nat.le_refl _)
    have hpos : 0 < (n + 1) * k := Nat.mul_pos (by omega) hk
    obtain ⟨u0, hu0⟩ : ∃ u, vs[0]? = some u := ⟨_, List.getElem?_eq_getElem (by omega)⟩
    obtain ⟨c, e, fr, hblk, hc0, hspot⟩ := cell_add (hcell 0 u0 hu0)
    have hcs : ∀ i v, vs[i]? = some v → c[a.off + i]? = some v := by
      intro i v hi
      obtain ⟨c', e', fr', hb', hc', _⟩ := cell_add (hcell i v hi)
      rw [hblk] at hb'
      cases hb'
      exact hc'
    have hend : a.off + vs.length ≤ c.size := by
      obtain ⟨u, hu⟩ : ∃ u, vs[vs.length - 1]? = some u := ⟨_, List.getElem?_eq_getElem (by omega)⟩
      have := (Array.getElem?_eq_some_iff.1 (hcs _ _ hu)).1
      omega
    have h1 : l.flatten.all AV.isOne = true := by
      rw [List.all_eq_true]
      intro y hy
      obtain ⟨x, hxl, hyx⟩ := List.mem_flatten.1 hy
      exact List.all_eq_true.1 (hx x hxl).2.1 y hyx
    obtain ⟨hs, hle, hro2, hsub⟩ := win_sound hL.sim hL.ro hblk hr h1 hcs hend
    have hlen : ∀ x ∈ l, x.length = k := fun x hxl => (hx x hxl).1
    have hfl := flat_len l hlen
    refine ⟨_, _, .slice (some (H1.next, 0)) (n + 1) (.kn cap), l, hL.trans ⟨hs, hle, hro2, hsub⟩, ?_, ?_, hl, fun x hxl => hmono _ _ _ (hx x hxl).2.2 hsub, .inr ⟨_, _, _, rfl, hc⟩⟩
    · refine ⟨some a, cap, ?_, rfl, hc, hv⟩
      have hsp := hspot rfl
      simp only [cAddr, winRo, if_true, Option.map_some, Nat.add_zero]
      cases a
      simp only at hsp
      subst hsp
      rfl
    · refine ⟨hlen, .inr ⟨some (H1.next, 0), .kn cap, by rw [hl], .inr ⟨H1.next, 0, ⟨l.flatten, e, false⟩, rfl, by simp [AH.win, setM_same], by simp only; omega, fun i hi => ?_⟩⟩⟩
      rw [Nat.zero_add]
      exact flat_at l hlen i hi
end Go.Ri

namespace Go.Proofs.YthiflgncldmkjaaDoor
open Go.Ri Go.ChangeShapes Go.WideShapes Go.ChangeAt Go.RowKit

def CodeAt2 (H : AH) (x : List AV) (c : Code) : Prop := CodeAt H x c ∧ ∀ s, x[0]? = some s → CapN s
def CapCodes (H : AH) (s : AV) : Prop := ∃ rows : List (List AV), Row H s 4 rows ∧ ∀ x ∈ rows, ∀ s, x[0]? = some s → CapN s
theorem CapCodes.nil (H : AH) : CapCodes H (.slice none 0 (.kn 0)) := ⟨[], .nil _ _, by simp⟩
section
variable {Hh : Type} {enc : TypeId × Value → Hh} {W : World} {base : Nat} {sp : Nat → Bool} {held : Bool}
theorem lay_ins2 {fuel : Nat} {v : Value} {x : DataW Hh × List MemPlace} {sp : Nat → Bool} (h : DataW.trod enc Tryd.prog W 0 sp held fuel 22 [v] = some x) {ρ : Ro} {H : AH} (hS : Sim Tryd.prog ρ H W) (hro : H.ro) :
    ∃ ρ' H' s l, Lays Tryd.prog W ρ H ρ' H' ∧ rel ρ' s v ∧ s.isOne = true ∧ InsRow H' s l ∧ l.length ≤ 9223372036854775807 ∧ l.length = lens x.1 ∧ CapN s := by
  rcases trod_sl ysl22.under h with ⟨hv, hx0⟩ | ⟨a, len, cap, m, hv, hx0, hc, hcm, hel⟩
  · cases hv
    exact ⟨ρ, H, .slice none 0 (.kn 0), [], .refl hS hro, ⟨none, 0, rfl, rfl, Nat.le_refl _, rfl⟩, rfl, ⟨.nil _ _, by simp⟩, by simp, hx0.symm, .inr ⟨_, _, _, rfl, Nat.le_refl _⟩⟩
  · cases hv
    rw [c29] at hel
    obtain ⟨ρ', H', s, l, hL, hr, hrow, hl, hg, hcap⟩ := lay_slice2 (k := 3) (by omega) hS hro (Good := fun _ x => ∃ i : Ins, i.Ok ∧ x = insC i) (fun _ _ _ h _ => h) rfl hc fun i hi => by
      obtain ⟨ci, y, h1, h2⟩ := hel i hi
      obtain ⟨ins, hok, rfl⟩ := trod_ins h2
      refine ⟨_, h1, fun ρ1 H1 hS1 hro1 => ⟨ρ1, H1, insC ins, .refl hS1 hro1, ?_, rfl, rfl, ins, hok, rfl⟩⟩
      exact relL_cons rfl (relL_cons rfl (relL_one rfl))
    have hone : s.isOne = true := by
      rcases hrow.is with ⟨rfl, _⟩ | ⟨a, c, rfl, _⟩ <;> rfl
    have hex : ∃ ll : List Ins, l = ll.map insC ∧ ∀ i ∈ ll, i.Ok := by
      clear hrow hL hr hl
      induction l with
      | nil => exact ⟨[], rfl, by simp⟩
      | cons y l ih =>
        obtain ⟨ll, rfl, hok⟩ := ih fun x hx => hg x (by simp [hx])
        obtain ⟨i, hi, rfl⟩ := hg y (by simp)
        exact ⟨i :: ll, rfl, by simpa using ⟨hi, hok⟩⟩
    obtain ⟨ll, rfl, hok⟩ := hex
    exact ⟨ρ', H', s, ll, hL, hr, hone, ⟨hrow, hok⟩, by rw [List.length_map] at hl; have : maxLen = 9223372036854775807 := (by decide); omega, by rw [List.length_map] at hl; omega, hcap⟩
theorem lay_code2 {fuel : Nat} {cs : List Value} {x : DataW Hh × List MemPlace} (h : DataW.trod enc Tryd.prog W 0 sp held fuel 24 cs = some x) {ρ : Ro} {H : AH} (hS : Sim Tryd.prog ρ H W) (hro : H.ro) :
    ∃ ρ' H' y c, Lays Tryd.prog W ρ H ρ' H' ∧ relL ρ' y cs ∧ y.length = 4 ∧ y.all AV.isOne = true ∧ CodeAt2 H' y c := by
  obtain ⟨hl, m, hf⟩ := trod_fields struct24 (by simp) h
  obtain ⟨y0, h0⟩ := hf 22 0 (by simp)
  obtain ⟨y1, h1⟩ := hf 3 1 (by simp)
  obtain ⟨y2, h2⟩ := hf 3 2 (by simp)
  obtain ⟨y3, h3⟩ := hf 4 3 (by simp)
  obtain ⟨b, eb, _, wb⟩ := DataW.trod_int under3 h1
  obtain ⟨c, ec, _, wc⟩ := DataW.trod_int under3 h2
  obtain ⟨d, ed, _⟩ := DataW.trod_bool under4 h3
  rw [cells3] at eb ec
  rw [c4] at ed
  have eb := one_of_take eb
  have ec := one_of_take ec
  have ed := one_of_take ed
  rw [c24] at hl
  match cs, hl with
  | [p, q, r, t], _ =>
    simp only [List.getElem?_cons_succ, List.getElem?_cons_zero, Option.some.injEq] at eb ec ed
    subst eb ec ed
    rw [c22] at h0
    obtain ⟨ρ', H', s, l, hL, hr, h1, hrow, hll, _, hcap⟩ := lay_ins2 (v := p) (by simpa using h0) hS hro
    refine ⟨ρ', H', [s, .int .i64 b, .int .i64 c, .bool d], ⟨l, b, c, d⟩, hL, relL_cons hr (relL_cons rfl (relL_cons rfl (relL_one rfl))), rfl, by simp only [List.all_cons, List.all_nil, h1, Bool.and_true, Bool.true_and]; rfl, ⟨s, rfl, hrow, inI_of_wf wb, inI_of_wf wc, hll⟩, fun s' h => by cases h; exact hcap⟩

theorem lay_codes2 {fuel : Nat} {v : Value} {x : DataW Hh × List MemPlace} (h : DataW.trod enc Tryd.prog W 0 sp held fuel 36 [v] = some x) {ρ : Ro} {H : AH} (hS : Sim Tryd.prog ρ H W) (hro : H.ro) :
    ∃ ρ' H' s l, Lays Tryd.prog W ρ H ρ' H' ∧ rel ρ' s v ∧ s.isOne = true ∧ CodesRow H' s l ∧ CapCodes H' s ∧ l.length = lens x.1 := by
  rcases trod_sl ysl36.under h with ⟨hv, hx0⟩ | ⟨a, len, cap, m, hv, hx0, hc, hcm, hel⟩
  · cases hv
    exact ⟨ρ, H, .slice none 0 (.kn 0), [], .refl hS hro, ⟨none, 0, rfl, rfl, Nat.le_refl _, rfl⟩, rfl, ⟨[], .nil _ _, ⟨rfl, by simp⟩, fun i h => by simp at h⟩, .nil _, hx0.symm⟩
  · cases hv
    rw [c24] at hel
    obtain ⟨ρ', H', s, l, hL, hr, hrow, hl, hg, _⟩ := lay_slice2 (k := 4) (by omega) hS hro (Good := fun H x => ∃ c : Code, CodeAt2 H x c) (fun _ _ _ ⟨c, hc⟩ hs => ⟨c, hc.1.mono hs, hc.2⟩) rfl hc fun i hi => by
      obtain ⟨ci, y, h1, h2⟩ := hel i hi
      refine ⟨_, h1, fun ρ1 H1 hS1 hro1 => ?_⟩
      obtain ⟨ρ2, H2, y, c, q1, q2, q3, q4, q5⟩ := lay_code2 h2 hS1 hro1
      exact ⟨ρ2, H2, y, q1, q2, q3, q4, c, q5⟩
    have hone : s.isOne = true := by
      rcases hrow.is with ⟨rfl, _⟩ | ⟨a, c, rfl, _⟩ <;> rfl
    have hex : ∃ ll : List Code, l.length = ll.length ∧ ∀ i (h : i < l.length) (h' : i < ll.length), CodeAt H' l[i] ll[i] := by
      clear hrow hL hr hl
      induction l with
      | nil => exact ⟨[], rfl, fun i h => by simp at h⟩
      | cons y l ih =>
        obtain ⟨ll, h1, h2⟩ := ih fun x hx => hg x (by simp [hx])
        obtain ⟨c, hc, _⟩ := hg y (by simp)
        refine ⟨c :: ll, by simp [h1], fun i h h' => ?_⟩
        cases i with
        | zero => exact hc
        | succ i => exact h2 i (by simpa using h) (by simpa using h')
    obtain ⟨ll, h1, h2⟩ := hex
    exact ⟨ρ', H', s, ll, hL, hr, hone, ⟨l, hrow, ⟨h1, by have : maxLen = 9223372036854775807 := (by decide); omega⟩, h2⟩, ⟨l, hrow, fun x hx => (hg x hx).elim fun _ hc => hc.2⟩, by omega⟩
end
end Go.Proofs.YthiflgncldmkjaaDoor
set_option linter.unusedVariables false
set_option linter.unusedSimpArgs false
set_option maxRecDepth 100000
namespace Go.Proofs.YthiflgncldmkjaaDoor
open Go.Ri
attribute [local congr] bind_lazy jn_lazy

def Safe (N : Nat) (H : AH) (s : AV) : Prop := ∀ b o n c, s = .slice (some (b, o)) n c → b < N ∨ ∃ B, H.m b = some B ∧ B.elem = 29
def MixCode (N : Nat) (H : AH) (x : List AV) (c : Code) : Prop :=
  ∃ s, x = [s, .int .i64 c.cells, .int .i64 c.params, .bool c.answers] ∧ InsRow H s c.ins ∧ InI c.cells ∧ InI c.params ∧ c.ins.length ≤ 9223372036854775807 ∧ CapOk s ∧ Safe N H s
def MixCodes (N : Nat) (H : AH) (v : AV) (l : List Code) : Prop := ∃ rows : List (List AV), Own N 4 24 H v rows.flatten ∧ (∀ x ∈ rows, x.length = 4) ∧ rows.length = l.length ∧ ∀ j (h1 : j < rows.length) (h2 : j < l.length), MixCode N H rows[j] l[j]
theorem MixCode.keep {N : Nat} {H H' : AH} {x : List AV} {c : Code} (h : MixCode N H x c) (hs : ∀ b B, H.m b = some B → (b < N ∨ B.elem = 29) → H'.m b = some B) : MixCode N H' x c := by
  obtain ⟨s, h1, ⟨h2, h2'⟩, h3, h4, h5, h6, h7⟩ := h
  refine ⟨s, h1, ⟨?_, h2'⟩, h3, h4, h5, h6, fun b o n c e => ?_⟩
  · rcases h2.is with q | ⟨a, c, rfl, q⟩
    · exact ⟨h2.len, .inl q⟩
    refine ⟨h2.len, .inr ⟨a, c, rfl, q.imp id ?_⟩⟩
    rintro ⟨b, o, B, rfl, hB, r⟩
    refine ⟨b, o, B, rfl, hs b B hB ?_, r⟩
    rcases h7 _ _ _ _ rfl with hb | ⟨B', hB', he⟩
    · exact .inl hb
    · rw [hB] at hB'
      cases hB'
      exact .inr he
  · rcases h7 b o n c e with hb | ⟨B', hB', he⟩
    · exact .inl hb
    · exact .inr ⟨B', hs b B' hB' (.inr he), he⟩
theorem MixCode.own {N M : Nat} {H : AH} {s : AV} {c : Code} (ho : Own M 3 29 H s (insF c.ins)) (h0 : 0 < c.ins.length) (hl : c.ins.length ≤ 9223372036854775807) (hok : ∀ i ∈ c.ins, i.Ok) (hc : InI c.cells) (hp : InI c.params) : MixCode N H [s, .int .i64 c.cells, .int .i64 c.params, .bool c.answers] c := by
  refine ⟨s, rfl, ⟨Own.insRow ho, hok⟩, hc, hp, hl, Own.capOk ho h0, fun b o n cc e => ?_⟩
  rcases ho with ⟨e', _⟩ | ⟨b', n', c', B, e', _, _, hb, hbe, _⟩
  · rw [e'] at e; cases e
  · rw [e'] at e; cases e
    exact .inr ⟨B, hb, hbe⟩
theorem MixCodes.keep {N : Nat} {H H' : AH} {v : AV} {l : List Code} (h : MixCodes N H v l) (hs : ∀ b B, H.m b = some B → (b < N ∨ B.elem = 29 ∨ At v b) → H'.m b = some B) : MixCodes N H' v l := by
  obtain ⟨rows, h1, h2, h3, h4⟩ := h
  refine ⟨rows, ?_, h2, h3, fun j a b => (h4 j a b).keep fun b B hB hc => hs b B hB (hc.imp id .inl)⟩
  rcases h1 with h1 | ⟨b, n, c, B, rfl, hc, hcl, hb, r⟩
  · exact .inl h1
  · exact .inr ⟨b, n, c, B, rfl, hc, hcl, hs b B hb (.inr (.inr ⟨_, _, rfl⟩)), r⟩
theorem MixCodes.mono {N : Nat} {H H' : AH} {v : AV} {l : List Code} (h : MixCodes N H v l) (hs : H.sub H') : MixCodes N H' v l := h.keep fun b B hB _ => hs b B hB
theorem MixCodes.row {N : Nat} {H : AH} {v : AV} {l : List Code} (h : MixCodes N H v l) (hl : l.length ≤ 9223372036854775807) : CodesRow H v l := by
  obtain ⟨rows, h1, h2, h3, h4⟩ := h
  refine ⟨rows, Own.row (by omega) h1 h2, ⟨h3, hl⟩, fun j a b => ?_⟩
  obtain ⟨s, e, hi, hc, hp, hlen, _⟩ := h4 j a b
  exact ⟨s, e, hi, hc, hp, hlen⟩
theorem MixCodes.cap {N : Nat} {H : AH} {v : AV} {l : List Code} (h : MixCodes N H v l) {k : Nat} (hk : k < l.length) : ∀ b o s, (∀ kd, idxSl v (.int kd (k : Nat)) 4 = some (.ptr (some (b, o)))) → ldOne (.ptr (some (b, o))) H = some s → CapOk s := by
  intro b o s e1 e2
  obtain ⟨rows, h1, h2, h3, h4⟩ := h
  have hrow : Row H v 4 rows := Own.row (by omega) h1 h2
  obtain ⟨b1, o1, f1, _, f3⟩ := hrow.at (i := k) (by omega)
  have f3 := f3 0 (by omega)
  obtain ⟨s', q1, _, _, _, _, q6, _⟩ := h4 k (by omega) hk
  have h1 := f1 .i64
  rw [e1 .i64] at h1
  cases h1
  rw [q1] at f3
  simp only [Nat.add_zero] at f3
  rw [e2] at f3
  cases f3
  exact q6
theorem MixCodes.upd {N : Nat} {H : AH} (hw : H.wf) {v : AV} {l : List Code} (h : MixCodes N H v l) {k : Nat} (hk : k < l.length) :
    ∃ b B, At v b ∧ N ≤ b ∧ b < H.next ∧ H.m b = some B ∧ B.rw_ = true ∧ B.elem = 24 ∧ k * 4 + 4 ≤ B.cells.length ∧ (∀ kd, idxSl v (.int kd (k : Nat)) 4 = some (.ptr (some (b, k * 4)))) ∧
      ∀ x c, MixCode N H x c → MixCodes N (H.put b ⟨B.cells.take (k * 4) ++ x ++ B.cells.drop (k * 4 + 4), B.elem, true⟩) v (l.set k c) := by
  obtain ⟨rows, h1, h2, h3, h4⟩ := h
  have hfl := flat_len rows h2
  obtain ⟨b, B, n, q1, q2, q3, q4, q5, q6, q7, q8, q9, q10⟩ := h1.blk hw (by rw [hfl]; omega)
  have hn : n = l.length := by omega
  subst hn
  have hel : B.elem = 24 := by
    rcases h1 with ⟨e, _⟩ | ⟨b', n', c', B', e, _, _, hb, hbe, _⟩
    · obtain ⟨_, _, e'⟩ := q1
      rw [e] at e'; cases e'
    · obtain ⟨_, _, e'⟩ := q1
      rw [e] at e'; cases e'
      rw [q4] at hb; cases hb
      exact hbe
  refine ⟨b, B, q1, q2, q3, q4, q5, hel, by omega, fun kd => q9 kd k hk, fun x c hx => ?_⟩
  have hx4 : x.length = 4 := by obtain ⟨s, e, _⟩ := hx; rw [e]; rfl
  have hst : ∀ b' B', H.m b' = some B' → (b' < N ∨ B'.elem = 29) → (H.put b ⟨B.cells.take (k * 4) ++ x ++ B.cells.drop (k * 4 + 4), B.elem, true⟩).m b' = some B' := fun b' B' hB' hc => by
    have hne : b' ≠ b := by
      rintro rfl
      rw [q4] at hB'
      cases hB'
      rcases hc with hc | hc
      · omega
      · rw [hel] at hc; cases hc
    simp only [put_m]
    rw [if_neg hne]
    exact hB'
  refine ⟨rows.set k x, ?_, fun y hy => ?_, by simp [h3], fun j a1 a2 => ?_⟩
  · have o2 := q10 ⟨B.cells.take (k * 4) ++ x ++ B.cells.drop (k * 4 + 4), B.elem, true⟩ rfl rfl (by simp; omega)
    have hci : List.take (l.length * 4) (B.cells.take (k * 4) ++ x ++ B.cells.drop (k * 4 + 4)) = (rows.set k x).flatten := by
      rw [flat_set (sz := 4) _ h2 k (by omega), ← q8]
      have := take_mid B.cells x (l.length * 4) (k * 4) (by omega) q7
      rw [hx4] at this
      exact this
    simp only at o2
    rw [hci] at o2
    exact o2
  · rcases List.mem_or_eq_of_mem_set hy with h | rfl
    · exact h2 y h
    · exact hx4
  · by_cases e : k = j
    · subst e
      simp only [List.getElem_set_self]
      exact hx.keep hst
    · simp only [List.getElem_set_ne e]
      exact (h4 j (by simpa using a1) (by simpa using a2)).keep hst
theorem row_eq {H : AH} {s : AV} {k : Nat} {l l' : List (List AV)} (h : Row H s k l) (h' : Row H s k l') : l = l' := by
  obtain ⟨a1, a2⟩ := h.src
  obtain ⟨b1, b2⟩ := h'.src
  rw [a1] at b1
  have hl : l.length = l'.length := Option.some.inj b1
  rw [← hl, a2] at b2
  have hf : l.flatten = l'.flatten := Option.some.inj b2
  refine List.ext_getElem hl fun i h1 h2 => ?_
  rw [← flat_at l h.len i h1, ← flat_at l' h'.len i h2, hf]
theorem capOk_of {H : AH} {s : AV} {L : List Ins} (hc : CapN s) (hr : InsRow H s L) (h0 : 0 < L.length) : CapOk s ∧ ∀ b o n c, s = .slice (some (b, o)) n c → ∃ B, H.m b = some B := by
  rcases hr.1.is with ⟨_, e⟩ | ⟨a, c, rfl, q⟩
  · have h2 := congrArg List.length e
    rw [List.length_map, List.length_nil] at h2
    omega
  rcases q with e | ⟨b, o, B, rfl, hB, _⟩
  · have h2 := congrArg List.length e
    rw [List.length_map, List.length_nil] at h2
    omega
  · refine ⟨?_, fun b' o' n' c' e => by cases e; exact ⟨B, hB⟩⟩
    rcases hc with e | ⟨p, n, c', e, hle⟩
    · cases e
    · cases e
      exact ⟨_, _, _, rfl, .inr ⟨c', rfl, hle⟩⟩
theorem MixCodes.start {H : AH} (hw : H.wf) {ls : AV} {l : List Code} (hl : CodesRow H ls l) (hc : CapCodes H ls) (h0 : ∀ k (hk : k < l.length), 0 < l[k].ins.length) (hb : l.length ≤ 1000) {H1 : AH} (hx : Ext H.next H H1) :
    Ret (aAppend Tryd.prog 36 36 (.slice none 0 (.kn 0)) ls H1) fun r => MixCodes H.next r.2 r.1 l ∧ Ext H.next H r.2 := by
  obtain ⟨rows, hr, ⟨hn, _⟩, hco⟩ := hl
  obtain ⟨rows', hr', hcap⟩ := hc
  obtain rfl := row_eq hr hr'
  have hsub := hx.sub hw
  obtain ⟨s1, s2⟩ := (hr.mono hsub).src
  have hfl := flat_len rows hr.len
  refine (app_own (x := ls) (ds := rows.flatten) ysl36 ysl36.seq (Own.nil H.next 4 24 H1) hx s1 s2 hfl (by rw [hfl, hn]; simp; omega)).mono ?_
  rintro ⟨v, H2⟩ ⟨k1, k2, _⟩
  simp only at k1 k2
  rw [List.nil_append] at k1
  refine ⟨⟨rows, k1, hr.len, hn, fun j a b => ?_⟩, k2⟩
  obtain ⟨s, e, hi, c1, c2, c3⟩ := hco j a b
  obtain ⟨hc1, hc2⟩ := capOk_of (hcap _ (List.getElem_mem a) s (by rw [e]; rfl)) hi (h0 j b)
  refine ⟨s, e, ⟨hi.1.mono (k2.sub hw), hi.2⟩, c1, c2, c3, hc1, fun b o n c e => ?_⟩
  obtain ⟨B, hB⟩ := hc2 b o n c e
  exact .inl (hw _ _ hB)
end Go.Proofs.YthiflgncldmkjaaDoor
set_option linter.unusedVariables false
set_option linter.unusedSimpArgs false
set_option maxRecDepth 100000
namespace Go.Proofs.YthiflgncldmkjaaDoor
open Go.Ri
attribute [local congr] bind_lazy jn_lazy

theorem alike_of {l As : List Code} (h : As.length = l.length) (k : ∀ j (h1 : j < l.length) (h2 : j < As.length), ∃ A, As[j] = { l[j] with ins := A }) : Alike l As := by
  refine ⟨h.symm, fun j => ?_⟩
  by_cases hj : j < l.length
  · obtain ⟨A, hA⟩ := k j hj (by omega)
    rw [List.getElem?_eq_getElem hj, List.getElem?_eq_getElem (by omega), hA]
    rfl
  · rw [List.getElem?_eq_none (by omega), List.getElem?_eq_none (by omega)]
def Part (l As : List Code) (k : Nat) : Prop := As.length = l.length ∧ ∀ j (h1 : j < l.length) (h2 : j < As.length), ∃ A, As[j] = { l[j] with ins := A } ∧ (j < k → Makes l[j].ins A) ∧ (k ≤ j → As[j] = l[j])
theorem Part.alike {l As : List Code} {k : Nat} (h : Part l As k) : Alike l As := alike_of h.1 fun j h1 h2 => by
  obtain ⟨A, hA, _⟩ := h.2 j h1 h2
  exact ⟨A, hA⟩
theorem Part.set {l As : List Code} {k : Nat} (h : Part l As k) {A : List Ins} (hk : k < l.length) (hm : Makes l[k].ins A) : Part l (As.set k { l[k] with ins := A }) (k + 1) := by
  refine ⟨by rw [List.length_set, h.1], fun j h1 h2 => ?_⟩
  by_cases e : k = j
  · subst e
    exact ⟨A, by simp, fun _ => hm, fun hh => by omega⟩
  · obtain ⟨B, hB, q1, q2⟩ := h.2 j h1 (by simpa using h2)
    refine ⟨B, by rw [List.getElem_set_ne e]; exact hB, fun hh => q1 (by omega), fun hh => ?_⟩
    rw [List.getElem_set_ne e]
    exact q2 (by omega)
theorem Part.same {l As : List Code} {k : Nat} (h : Part l As k) (hk : k < l.length) : As.set k { l[k] with ins := l[k].ins } = As := by
  obtain ⟨A, hA, _, q⟩ := h.2 k hk (by rw [h.1]; exact hk)
  have e : ({ l[k] with ins := l[k].ins } : Code) = As[k]'(by rw [h.1]; exact hk) := (q (Nat.le_refl _)).symm
  rw [e, List.set_getElem_self]
theorem Part.snd {l As : List Code} {k : Nat} (h : Part l As k) (hk : k < l.length) {A : List Ins} (s : Snd l { l[k] with ins := A }) : Snd (As.set k { l[k] with ins := A }) { l[k] with ins := A } := by
  refine (alike_of (by rw [List.length_set, h.1]) fun j h1 h2 => ?_ : Alike l _).snd s
  by_cases e : k = j
  · subst e
    exact ⟨A, by simp⟩
  · obtain ⟨B, hB, _⟩ := h.2 j h1 (by simpa using h2)
    exact ⟨B, by rw [List.getElem_set_ne e]; exact hB⟩
structure IMr (N : Nat) (H0 : AH) (out : AV) (l As : List Code) (k : Nat) (hk : k < l.length) (q : Nat) (f : Nat) (t : St) : Prop where
  t6 : t.1 6 = out
  t7 : t.1 7 = .int .i64 (k : Nat)
  t8 : t.1 8 = .ptr (some (q, 0))
  ext : Ext N H0 t.2
  nq : N ≤ q
  lq : q < t.2.next
  no : ¬ At out q
  bq : ∃ a b c d, t.2.m q = some ⟨[a, b, c, d], 24, true⟩
  rest : ∃ A : List Ins, MixCodes N t.2 out (As.set k { l[k] with ins := A }) ∧ Snd l { l[k] with ins := A } ∧ (∀ i ∈ A, i.Ok) ∧
    ((t.1 9 = .bool true ∧ ∃ A' v, t.2.m q = some ⟨[v, .int .i64 l[k].cells, .int .i64 l[k].params, .bool l[k].answers], 24, true⟩ ∧ Own N 3 29 t.2 v (insF A') ∧ Snd l { l[k] with ins := A' } ∧ (∀ i ∈ A', i.Ok) ∧ (∀ B, Makes A' B → Makes l[k].ins B) ∧ wsum A'.length A' + 1 < f) ∨
     (t.1 9 = .bool false ∧ Makes l[k].ins A ∧ 0 < f))
def EMr (N : Nat) (H0 : AH) (out : AV) (l As : List Code) (k : Nat) (hk : k < l.length) (r : Ex × St) : Prop :=
  r.1 = .exit 2 ∧ r.2.1 6 = out ∧ r.2.1 7 = .int .i64 (k : Nat) ∧ Ext N H0 r.2.2 ∧ ∃ A, MixCodes N r.2.2 out (As.set k { l[k] with ins := A }) ∧ Makes l[k].ins A
set_option maxHeartbeats 2000000 in
theorem rround (d : Nat) {N : Nat} {H0 : AH} {out : AV} {l As : List Code} {k : Nat} (hk : k < l.length) {q : Nat} (hP : Part l As k) (h40 : l.length ≤ 1000) (hci : InI l[k].cells ∧ InI l[k].params) (hT : Tabs H0) (hTN : 2 ≤ N) (f : Nat) (t : St) (hI : IMr N H0 out l As k hk q (f + 1) t) :
    Ret (F34_L0 (RT (d + 6)) (Ri.iter big) t) fun r => (r.1 = .normal ∧ IMr N H0 out l As k hk q f r.2) ∨ (r.1 ≠ .normal ∧ EMr N H0 out l As k hk r) := by
  obtain ⟨T, H⟩ := t
  obtain ⟨t6, t7, t8, hx, hnq, hlq, hno, hbq, A, hmix, hsA, hokA, ⟨t9, A', v, hbv, hown, hs, hok, hmk, hlt⟩ | ⟨t9, hmk, hlt⟩⟩ := hI
  · simp only at t6 t7 t8 t9 hx hlq hbv hown hmix
    have hfew := (hs.1.plain hok).few
    simp only at hfew
    obtain ⟨bo, Bo, q1, q2, q3, q4, q5, q6, q7, q8, q9⟩ := hmix.upd hx.wf (k := k) (by rw [List.length_set, hP.1]; exact hk)
    have hne : ¬ bo = q := fun e => hno (e ▸ q1)
    have hneq : ¬ q = bo := fun e => hne e.symm
    have hA0 : 0 < A'.length := hs.1.some_
    have hmc : MixCode N H [v, .int .i64 l[k].cells, .int .i64 l[k].params, .bool l[k].answers] { l[k] with ins := A' } := MixCode.own (c := { l[k] with ins := A' }) hown hA0 (by simp only; omega) hok hci.1 hci.2
    have hm2 := q9 _ _ hmc
    rw [List.set_set] at hm2
    have hx2 : Ext N H0 (H.put bo ⟨List.take (k * 4) Bo.cells ++ [v, .int .i64 l[k].cells, .int .i64 l[k].params, .bool l[k].answers] ++ List.drop (k * 4 + 4) Bo.cells, Bo.elem, true⟩) := hx.put q2 q3 _
    have hlen2 : (As.set k { l[k] with ins := A' }).length = l.length := by rw [List.length_set, hP.1]
    have hrow2 := hm2.row (by rw [hlen2]; omega)
    have hget : (As.set k { l[k] with ins := A' })[k]'(by rw [hlen2]; exact hk) = { l[k] with ins := A' } := by simp
    obtain ⟨⟨x, H3⟩, h74, hx3, hr⟩ := ronce_spec d hx2.wf (hT.ext hx2 hTN) hrow2 (k := k) (by rw [hlen2]; exact hk) (by rw [hget]; exact hP.snd hk hs) (by rw [hget]; exact hok) (hm2.cap (by rw [hlen2]; exact hk))
    simp only [hget] at hx3 hr
    have hx13 : Ext N H0 H3 := hx2.trans hx3 hx2.next
    have hbq3 : H3.m q = some ⟨[v, .int .i64 l[k].cells, .int .i64 l[k].params, .bool l[k].answers], 24, true⟩ := by
      rw [hx3.low _ (by simp only [put_next]; exact hlq)]
      simp only [put_m]
      rw [if_neg hneq]
      exact hbv
    have hlq3 : q < H3.next := Nat.lt_of_lt_of_le hlq hx3.next
    have hm3 := hm2.mono (hx3.sub hx2.wf)
    have hq3 : ∀ B, MixCodes N (H3.put q B) out (As.set k { l[k] with ins := A' }) := fun B => hm3.keep fun b B' hB' hc => by
      have : b ≠ q := by
        rintro rfl
        rw [hbq3] at hB'
        cases hB'
        rcases hc with hc | hc | hc
        · omega
        · cases hc
        · exact hno hc
      simp only [put_m]
      rw [if_neg this]
      exact hB'
    have hx4 := fun B => hx13.put (b := q) hnq hlq3 B
    have hle' : (k * 4 + 4 ≤ Bo.cells.length) = True := eq_true q7
    unfold F34_L0
    rcases hr with ⟨L', w, ho, rfl, hown'⟩ | ⟨ho, s, rfl⟩
    · obtain ⟨s1, hd, _⟩ := once_snd hs ho
      have hok' := done_ok hs hok ho
      simp only at hd
      obtain ⟨pv, nv, cv, hw4⟩ := hown'.shape
      subst hw4
      have hownF : ∀ B, Own N 3 29 (H3.put q B) (.slice pv nv cv) (insF L') := fun B => (hown'.mono fun b hb c e => by
        obtain ⟨_, _, hbb⟩ := hown'.at (b := b) ⟨hb, c, e⟩
        simp only [put_next] at hbb
        simp only [put_m]
        rw [if_neg (by omega)]).low (by simp only [put_next]; exact hx.next)
      simp -implicitDefEqProofs only [go_sem, Nat.reduceAdd, Nat.reduceMul, Nat.reduceLT, Nat.reduceLeDiff, Nat.reduceEqDiff, Nat.reduceBEq, reduceCtorEq, Int.reduceLT, Int.reduceLE, Int.reduceEq, Int.reduceGT, Int.reduceGE, Int.reduceToNat, Int.reduceNeg, t6, t7, t8, t9, hbv, q8, q4, q5, hle', hne, hneq, h74, hbq3]
      refine .mk (.inl ⟨rfl, ?_, ?_, ?_, hx4 _, hnq, hlq3, hno, ⟨.slice pv nv cv, .int .i64 l[k].cells, .int .i64 l[k].params, .bool l[k].answers, by simp only [put_m, if_true]⟩, A', hq3 _, hs, hok, .inl ⟨?_, L', _, by simp only [put_m, if_true], hownF _, s1, hok', fun B hB => hmk B (.more ho hB), by omega⟩⟩)
      · simp -implicitDefEqProofs only [go_sem, Nat.reduceEqDiff, Nat.reduceBEq, reduceCtorEq, t6]
      · simp -implicitDefEqProofs only [go_sem, Nat.reduceEqDiff, Nat.reduceBEq, reduceCtorEq, t7]
      · simp -implicitDefEqProofs only [go_sem, Nat.reduceEqDiff, Nat.reduceBEq, reduceCtorEq, t8]
      · simp -implicitDefEqProofs only [go_sem, Nat.reduceEqDiff, Nat.reduceBEq, reduceCtorEq]
    · simp -implicitDefEqProofs only [go_sem, Nat.reduceAdd, Nat.reduceMul, Nat.reduceLT, Nat.reduceLeDiff, Nat.reduceEqDiff, Nat.reduceBEq, reduceCtorEq, Int.reduceLT, Int.reduceLE, Int.reduceEq, Int.reduceGT, Int.reduceGE, Int.reduceToNat, Int.reduceNeg, t6, t7, t8, t9, hbv, q8, q4, q5, hle', hne, hneq, h74, hbq3]
      refine .mk (.inl ⟨rfl, ?_, ?_, ?_, hx4 _, hnq, hlq3, hno, ⟨s, .int .i64 l[k].cells, .int .i64 l[k].params, .bool l[k].answers, by simp only [put_m, if_true]⟩, A', hq3 _, hs, hok, .inr ⟨?_, hmk A' (.stop ho), by omega⟩⟩)
      · simp -implicitDefEqProofs only [go_sem, Nat.reduceEqDiff, Nat.reduceBEq, reduceCtorEq, t6]
      · simp -implicitDefEqProofs only [go_sem, Nat.reduceEqDiff, Nat.reduceBEq, reduceCtorEq, t7]
      · simp -implicitDefEqProofs only [go_sem, Nat.reduceEqDiff, Nat.reduceBEq, reduceCtorEq, t8]
      · simp -implicitDefEqProofs only [go_sem, Nat.reduceEqDiff, Nat.reduceBEq, reduceCtorEq]
  · simp only at t6 t7 t8 t9 hx hmix
    unfold F34_L0
    simp -implicitDefEqProofs only [go_sem, Nat.reduceAdd, Nat.reduceMul, Nat.reduceLT, Nat.reduceLeDiff, Nat.reduceEqDiff, Nat.reduceBEq, reduceCtorEq, Int.reduceLT, Int.reduceLE, Int.reduceEq, Int.reduceGT, Int.reduceGE, Int.reduceToNat, Int.reduceNeg, t9]
    refine .mk (.inr ⟨by simp, rfl, ?_, ?_, hx, A, hmix, hmk⟩)
    · simp -implicitDefEqProofs only [go_sem, Nat.reduceEqDiff, Nat.reduceBEq, reduceCtorEq, t6]
    · simp -implicitDefEqProofs only [go_sem, Nat.reduceEqDiff, Nat.reduceBEq, reduceCtorEq, t7]
end Go.Proofs.YthiflgncldmkjaaDoor
set_option linter.unusedVariables false
set_option linter.unusedSimpArgs false
set_option maxRecDepth 100000
namespace Go.Proofs.YthiflgncldmkjaaDoor
open Go.Ri
attribute [local congr] bind_lazy jn_lazy

theorem MixCodes.at {N : Nat} {H : AH} {v : AV} {l : List Code} (h : MixCodes N H v l) (hw : H.wf) {b : Nat} (hb : At v b) : b < H.next := by
  obtain ⟨rows, h1, _⟩ := h
  obtain ⟨B, hB, _⟩ := h1.at hb
  exact hw _ _ hB
structure IOr (N : Nat) (H0 : AH) (out : AV) (l : List Code) (k : Nat) (t : St) : Prop where
  t6 : t.1 6 = out
  t7 : t.1 7 = .int .i64 (k : Nat)
  ext : Ext N H0 t.2
  rest : ∃ As, Part l As k ∧ MixCodes N t.2 out As
theorem CapCodes.mono {H H' : AH} {s : AV} (h : CapCodes H s) (hs : H.sub H') : CapCodes H' s := by
  obtain ⟨rows, h1, h2⟩ := h
  exact ⟨rows, h1.mono hs, h2⟩
set_option maxHeartbeats 2000000 in
theorem rmake_loop (d : Nat) {N : Nat} {H0 : AH} {out : AV} {l : List Code} (h40 : l.length ≤ 1000) (hci : ∀ k (hk : k < l.length), InI l[k].cells ∧ InI l[k].params) (hs : ∀ k (hk : k < l.length), Snd l l[k]) (hok : ∀ k (hk : k < l.length), ∀ i ∈ l[k].ins, i.Ok) (hT : Tabs H0) (hTN : 2 ≤ N)
    {T : Tm} {H1 : AH} (h0 : IOr N H0 out l 0 (T, H1)) : Ret (Ri.iter big (F34_L1 (RT (d + 6)) (Ri.iter big)) (T, H1)) fun r => r.1 = .exit 0 ∧ IOr N H0 out l l.length r.2 := by
  refine Ret.upTo (n := l.length) (IOr N H0 out l) (by unfold big; omega) h0 ?_ ?_
  · rintro k ⟨T1, H2⟩ hk ⟨t6, t7, hx, As, hP, hmix⟩
    simp only at t6 t7 hx hmix
    have hcmp : decide (((k : Nat) : Int) < ((l.length : Nat) : Int)) = true := decide_eq_true (by omega)
    have hrow := hmix.row (by rw [hP.1]; omega)
    have hal : aLen Tryd.prog 36 out = some (.int .i64 (l.length : Nat)) := by rw [hrow.alen, hP.1]
    have hkA : k < As.length := by rw [hP.1]; exact hk
    have hget : As[k] = l[k] := by
      obtain ⟨A, _, _, q⟩ := hP.2 k hk hkA
      exact q (Nat.le_refl _)
    obtain ⟨⟨x, H3⟩, h74, hx3, hr⟩ := ronce_spec d hx.wf (hT.ext hx hTN) hrow hkA (by rw [hget]; exact hP.alike.snd (hs k hk)) (by rw [hget]; exact hok k hk) (hmix.cap hkA)
    simp only [hget] at hx3 hr
    have hsame := hP.same hk
    have hwi := wrapS (i := k) (by omega)
    have hno : ¬ At out H3.next := fun h => by
      have := hmix.at hx.wf h
      have := hx3.next
      omega
    have hn3 : N ≤ H3.next := Nat.le_trans hx.next hx3.next
    have hmx : ∀ cs, MixCodes N (H3.new cs 24) out (As.set k { l[k] with ins := l[k].ins }) := fun cs => by
      rw [hsame]
      exact hmix.mono fun b B hB => ((Ext.refl hx3.wf).new cs 24).sub hx3.wf _ _ (hx3.sub hx.wf _ _ hB)
    have hx4 := fun cs => (hx.trans hx3 hx.next).new cs 24
    -- what the inner loop leaves
    have fin : ∀ (x : Ex × St), EMr N H0 out l As k hk x → Ret ((match x.1 with
      | .normal => none
      | .exit j18 => if j18 = 2 then
      ((aBin Tryd.prog .add 3 (x.2.1 7) (.int .i64 1)).bind fun v27 =>
      some (Ex.normal, (updL x.2.1 [(21, (x.2.1 7)), (22, v27), (7, v27)]), x.2.2))
      else
      (if j18 = 1 then
      ((aBin Tryd.prog .add 3 (x.2.1 7) (.int .i64 1)).bind fun v28 =>
      some (.normal, (updL x.2.1 [(21, (x.2.1 7)), (22, v28), (7, v28)]), x.2.2))
      else
      (some (.exit j18, x.2.1, x.2.2)))
      | .ret => some (.ret, x.2.1, x.2.2)) : Option (Ex × St)) fun r => (r.1 = .normal ∧ IOr N H0 out l (k + 1) r.2) ∨ (r.1 ≠ .normal ∧ r.1 = .exit 0 ∧ IOr N H0 out l l.length r.2) := by
      rintro ⟨e, T5, H5⟩ ⟨rfl, u6, u7, hx5, A, hm5, hmk⟩
      simp only at u6 u7 hx5 hm5
      simp -implicitDefEqProofs only [go_sem, Nat.reduceAdd, Nat.reduceMul, Nat.reduceLT, Nat.reduceLeDiff, Nat.reduceEqDiff, Nat.reduceBEq, reduceCtorEq, Int.reduceLT, Int.reduceLE, Int.reduceEq, Int.reduceGT, Int.reduceGE, Int.reduceToNat, Int.reduceNeg, u7, hwi]
      refine .mk (.inl ⟨rfl, ?_, ?_, hx5, _, hP.set hk hmk, hm5⟩)
      · simp -implicitDefEqProofs only [go_sem, Nat.reduceEqDiff, Nat.reduceBEq, reduceCtorEq, u6]
      · simp -implicitDefEqProofs only [go_sem, Nat.reduceEqDiff, Nat.reduceBEq, reduceCtorEq]
    unfold F34_L1
    rcases hr with ⟨L', w, ho, rfl, hown⟩ | ⟨ho, s, rfl⟩
    · obtain ⟨s1, hd, _⟩ := once_snd (hs k hk) ho
      have hok' := done_ok (hs k hk) (hok k hk) ho
      obtain ⟨pv, nv, cv, hw4⟩ := hown.shape
      subst hw4
      simp -implicitDefEqProofs only [go_sem, Nat.reduceAdd, Nat.reduceMul, Nat.reduceLT, Nat.reduceLeDiff, Nat.reduceEqDiff, Nat.reduceBEq, reduceCtorEq, Int.reduceLT, Int.reduceLE, Int.reduceEq, Int.reduceGT, Int.reduceGE, Int.reduceToNat, Int.reduceNeg, t6, t7, hal, hcmp, h74, new_put]
      refine Ret.then (Ret.iter (IMr N H0 out l As k hk H3.next) (EMr N H0 out l As k hk) (fun f t hI => rround d hk hP h40 (hci k hk) hT hTN f t hI) (fun t ht => ?_) (wsum L'.length L' + 2) big _ ?_ ⟨?_, ?_, ?_, hx4 _, hn3, by simp, hno, ⟨.slice pv nv cv, .int .i64 l[k].cells, .int .i64 l[k].params, .bool l[k].answers, by simp⟩, l[k].ins, hmx _, hs k hk, hok k hk, .inl ⟨?_, L', .slice pv nv cv, by simp, ?_, s1, hok', fun B hB => .more ho hB, by omega⟩⟩) fin
      · obtain ⟨_, _, _, _, _, _, _, _, _, _, _, _, ⟨_, _, _, _, _, _, _, _, h⟩ | ⟨_, _, h⟩⟩ := ht <;> exact absurd h (Nat.not_lt_zero _)
      · have P1 := s1.1.plain hok'
        have hf := P1.few
        simp only at hf
        have hw := wsum_small (L := L') (fun i hi hj => (P1.jump i hi hj).1) L'.length
        have hm : L'.length * (L'.length + 2) ≤ 65536 * 65538 := Nat.mul_le_mul hf (by omega)
        unfold big
        omega
      · simp -implicitDefEqProofs only [go_sem, Nat.reduceEqDiff, Nat.reduceBEq, reduceCtorEq, t6]
      · simp -implicitDefEqProofs only [go_sem, Nat.reduceEqDiff, Nat.reduceBEq, reduceCtorEq, t7]
      · simp -implicitDefEqProofs only [go_sem, Nat.reduceEqDiff, Nat.reduceBEq, reduceCtorEq]
      · simp -implicitDefEqProofs only [go_sem, Nat.reduceEqDiff, Nat.reduceBEq, reduceCtorEq]
      · exact (hown.new hx3.wf _ _).low hx.next
    · simp -implicitDefEqProofs only [go_sem, Nat.reduceAdd, Nat.reduceMul, Nat.reduceLT, Nat.reduceLeDiff, Nat.reduceEqDiff, Nat.reduceBEq, reduceCtorEq, Int.reduceLT, Int.reduceLE, Int.reduceEq, Int.reduceGT, Int.reduceGE, Int.reduceToNat, Int.reduceNeg, t6, t7, hal, hcmp, h74, new_put]
      refine Ret.then (Ret.iter (IMr N H0 out l As k hk H3.next) (EMr N H0 out l As k hk) (fun f t hI => rround d hk hP h40 (hci k hk) hT hTN f t hI) (fun t ht => ?_) 1 big _ (by unfold big; omega) ⟨?_, ?_, ?_, hx4 _, hn3, by simp, hno, ⟨s, .int .i64 l[k].cells, .int .i64 l[k].params, .bool l[k].answers, by simp⟩, l[k].ins, hmx _, hs k hk, hok k hk, .inr ⟨?_, .stop ho, by omega⟩⟩) fin
      · obtain ⟨_, _, _, _, _, _, _, _, _, _, _, _, ⟨_, _, _, _, _, _, _, _, h⟩ | ⟨_, _, h⟩⟩ := ht <;> exact absurd h (Nat.not_lt_zero _)
      · simp -implicitDefEqProofs only [go_sem, Nat.reduceEqDiff, Nat.reduceBEq, reduceCtorEq, t6]
      · simp -implicitDefEqProofs only [go_sem, Nat.reduceEqDiff, Nat.reduceBEq, reduceCtorEq, t7]
      · simp -implicitDefEqProofs only [go_sem, Nat.reduceEqDiff, Nat.reduceBEq, reduceCtorEq]
      · simp -implicitDefEqProofs only [go_sem, Nat.reduceEqDiff, Nat.reduceBEq, reduceCtorEq]
  · rintro ⟨T1, H2⟩ ⟨t6, t7, hx, As, hP, hmix⟩
    simp only at t6 t7 hx hmix
    have hcmp : decide (((l.length : Nat) : Int) < ((l.length : Nat) : Int)) = false := decide_eq_false (by omega)
    have hal : aLen Tryd.prog 36 out = some (.int .i64 (l.length : Nat)) := by rw [(hmix.row (by rw [hP.1]; omega)).alen, hP.1]
    unfold F34_L1
    simp -implicitDefEqProofs only [go_sem, Nat.reduceAdd, Nat.reduceMul, Nat.reduceLT, Nat.reduceLeDiff, Nat.reduceEqDiff, Nat.reduceBEq, reduceCtorEq, Int.reduceLT, Int.reduceLE, Int.reduceEq, Int.reduceGT, Int.reduceGE, Int.reduceToNat, Int.reduceNeg, t6, t7, hal, hcmp]
    refine .mk ⟨by simp, rfl, ?_, ?_, hx, As, hP, hmix⟩
    · simp -implicitDefEqProofs only [go_sem, Nat.reduceEqDiff, Nat.reduceBEq, reduceCtorEq, t6]
    · simp -implicitDefEqProofs only [go_sem, Nat.reduceEqDiff, Nat.reduceBEq, reduceCtorEq, t7]
theorem rmake_spec (d : Nat) {H : AH} (hw : H.wf) (hT : Tabs H) {ls : AV} {l : List Code} (hl : CodesRow H ls l) (hc : CapCodes H ls) {main : Int} (hm : InI main) :
    Ret (RT (d + 7) 34 [ls, .int .i64 main] H) fun r => Ext H.next H r.2 ∧ ((¬ SoundP l main ∧ r.1 = .tuple [.slice none 0 (.kn 0), .int .i64 60]) ∨ (SoundP l main ∧ ∃ As v, r.1 = .tuple [v, .int .i64 0] ∧ MadeAll l As ∧ MixCodes H.next r.2 v As)) := by
  rw [R34]
  unfold F34
  obtain ⟨⟨v, H1⟩, h36, hx, b, hb, hiff⟩ := refSound_spec (d + 1) hw hT hl hm
  simp only at hx hb
  subst hb
  cases b
  · simp -implicitDefEqProofs only [go_sem, Nat.reduceEqDiff, Nat.reduceBEq, reduceCtorEq, h36]
    exact .mk ⟨hx, .inl ⟨fun h => Bool.noConfusion (hiff.2 h), rfl⟩⟩
  · have hsp := hiff.1 rfl
    have h40 : l.length ≤ 1000 := by have := hsp.2.1; omega
    have hci : ∀ k (hk : k < l.length), InI l[k].cells ∧ InI l[k].params := fun k hk => by
      obtain ⟨_, _, _, _, _, _, _, _, _, _, _, q1, q2⟩ := codes_ins hl hk
      exact ⟨q1, q2⟩
    obtain ⟨⟨out, H2⟩, hap, hm2, hx2⟩ := MixCodes.start hw hl hc (fun k hk => (hsp.snd hk).1.some_) h40 hx
    simp only at hm2 hx2
    simp -implicitDefEqProofs only [go_sem, Nat.reduceAdd, Nat.reduceMul, Nat.reduceLT, Nat.reduceLeDiff, Nat.reduceEqDiff, Nat.reduceBEq, reduceCtorEq, Int.reduceLT, Int.reduceLE, Int.reduceEq, Int.reduceGT, Int.reduceGE, Int.reduceToNat, Int.reduceNeg, h36, hap]
    refine Ret.then (rmake_loop d (N := H.next) (H0 := H) (out := out) h40 hci (fun k hk => hsp.snd hk) (fun k hk => hl.inok hk) hT hT.two ⟨?_, ?_, hx2, l, ⟨rfl, fun j h1 h2 => ⟨l[j].ins, rfl, fun h => absurd h (Nat.not_lt_zero _), fun _ => rfl⟩⟩, hm2⟩) ?_
    · simp -implicitDefEqProofs only [go_sem, Nat.reduceEqDiff, Nat.reduceBEq, reduceCtorEq]
    · simp -implicitDefEqProofs only [go_sem, Nat.reduceEqDiff, Nat.reduceBEq, reduceCtorEq]
      rfl
    · rintro ⟨e, T, H3⟩ ⟨rfl, u6, _, hx3, As, hP, hm3⟩
      simp only at u6 hx3 hm3
      simp -implicitDefEqProofs only [go_sem, Nat.reduceAdd, Nat.reduceMul, Nat.reduceLT, Nat.reduceLeDiff, Nat.reduceEqDiff, Nat.reduceBEq, reduceCtorEq, Int.reduceLT, Int.reduceLE, Int.reduceEq, Int.reduceGT, Int.reduceGE, Int.reduceToNat, Int.reduceNeg, u6]
      refine .mk ⟨hx3, .inr ⟨hsp, As, out, rfl, ⟨hP.1, fun j h1 h2 => ?_⟩, hm3⟩⟩
      obtain ⟨A, q1, q2, _⟩ := hP.2 j h1 h2
      exact ⟨A, q2 h1, q1⟩
theorem MadeAll.one {l As Bs : List Code} (h : MadeAll l As) (k : MadeAll l Bs) : As = Bs := by
  apply List.ext_getElem (by rw [h.1, k.1])
  intro j h1 h2
  obtain ⟨A, hm, hA⟩ := h.2 j (by rw [← h.1]; exact h1) h1
  obtain ⟨B, km, kB⟩ := k.2 j (by rw [← h.1]; exact h1) h2
  rw [hA, kB, hm.one km]
theorem law_makes (d : Nat) {H : AH} (hw : H.wf) (hT : Tabs H) {ls : AV} {l : List Code} (hl : CodesRow H ls l) (hc : CapCodes H ls) {main : Int} (hm : InI main) :
    Ret (LawR (d + 7) 8 [ls, .int .i64 main] H) fun r => r.1 = .bool true := by
  unfold LawR
  rw [F8_eq]
  unfold F8
  obtain ⟨⟨v1, H1⟩, h31, ⟨g, hg⟩, hH1⟩ := great10_spec (d + 5) hl
  simp only at hg hH1
  subst hg hH1
  have r31 : RL (d + 7) 31 [ls] H1 = some (.bool g, H1) := (RL_at (by decide) _ _).trans h31
  cases g
  · obtain ⟨⟨v2, H2⟩, h33, hx2, hr⟩ := make_spec (d + 1) hw hT hl hm
    simp only at hx2 hr
    have r33 : RL (d + 7) 33 [ls, .int .i64 main] H1 = some (v2, H2) := (RL_at (by decide) _ _).trans h33
    have hT2 := hT.ext hx2 hT.two
    have hsub := hx2.sub hw
    obtain ⟨⟨v3, H3⟩, h34, hx3, hr3⟩ := rmake_spec d hx2.wf hT2 (hl.mono hsub) (hc.mono hsub) hm
    simp only at hx3 hr3
    have r34 : RL (d + 7) 34 [ls, .int .i64 main] H2 = some (v3, H3) := (RL_at (by decide) _ _).trans h34
    have hT3 := hT2.ext hx3 hT2.two
    have r32 := RL_32 (d + 7) hT3
    rcases hr with ⟨hno, rfl⟩ | ⟨hs, As, v, rfl, hmade, hown⟩
    · rcases hr3 with ⟨_, rfl⟩ | ⟨hs, _⟩
      · have hn : CodesRow H3 (.slice none 0 (.kn 0)) [] := ⟨[], .nil _ _, ⟨rfl, by simp⟩, fun i h => by simp at h⟩
        obtain ⟨⟨x, H5⟩, h35, hx, hH5⟩ := same_spec (d + 6) hn hn (by simp)
        simp only at hx hH5
        subst hx hH5
        have r35 : RL (d + 7) 35 [.slice none 0 (.kn 0), .slice none 0 (.kn 0)] H5 = some (.bool true, H5) := (RL_at (by decide) _ _).trans h35
        simp -implicitDefEqProofs only [go_sem, Nat.reduceAdd, Nat.reduceMul, Nat.reduceLT, Nat.reduceLeDiff, Nat.reduceEqDiff, Nat.reduceBEq, reduceCtorEq, Int.reduceLT, Int.reduceLE, Int.reduceEq, Int.reduceGT, Int.reduceGE, Int.reduceToNat, Int.reduceNeg, r31, r33, r34, r35, r32]
        exact .mk rfl
      · exact absurd hs hno
    · rcases hr3 with ⟨hno, _⟩ | ⟨_, Bs, w, rfl, hmade2, hmix⟩
      · exact absurd hs hno
      · obtain rfl := hmade.one hmade2
        have hlim : ∀ c ∈ As, c.ins.length ≤ 100000 := fun c hc => by
          obtain ⟨k, hk⟩ := List.mem_iff_getElem?.1 hc
          have hlt := (List.getElem?_eq_some_iff.1 hk).1
          rw [List.getElem?_eq_getElem hlt] at hk
          cases hk
          obtain ⟨_, _, _, _, _, s, _⟩ := hmade.at hs hlt
          have := s.1.few
          omega
        obtain ⟨⟨x, H5⟩, h35, hx, hH5⟩ := same_spec (d + 6) ((hown.codes hmade hs).mono (hx3.sub hx2.wf)) (hmix.row (by rw [hmade.1]; have := hs.2.1; omega)) hlim
        simp only at hx hH5
        subst hx hH5
        have r35 : RL (d + 7) 35 [v, w] H5 = some (.bool true, H5) := (RL_at (by decide) _ _).trans h35
        simp -implicitDefEqProofs only [go_sem, Nat.reduceAdd, Nat.reduceMul, Nat.reduceLT, Nat.reduceLeDiff, Nat.reduceEqDiff, Nat.reduceBEq, reduceCtorEq, Int.reduceLT, Int.reduceLE, Int.reduceEq, Int.reduceGT, Int.reduceGE, Int.reduceToNat, Int.reduceNeg, r31, r33, r34, r35, r32]
        exact .mk rfl
  · have r32 := RL_32 (d + 7) hT
    simp -implicitDefEqProofs only [go_sem, Nat.reduceAdd, Nat.reduceMul, Nat.reduceLT, Nat.reduceLeDiff, Nat.reduceEqDiff, Nat.reduceBEq, reduceCtorEq, Int.reduceLT, Int.reduceLE, Int.reduceEq, Int.reduceGT, Int.reduceGE, Int.reduceToNat, Int.reduceNeg, r31, r32]
    exact .mk rfl
end Go.Proofs.YthiflgncldmkjaaDoor
set_option linter.unusedVariables false
set_option linter.unusedSimpArgs false
set_option maxRecDepth 100000
namespace Go.Proofs.YthiflgncldmkjaaDoor
open Go.Ri Go.ChangeShapes Go.WideShapes Go.ChangeAt Go.RowKit
namespace N8
theorem res : Tryd.f8.resultTypes = #[4] := by kernel_rfl
theorem readable : (Tryd.f8.params.toList.all fun t => Tryd.prog.readableRec t && decide (t < Tryd.prog.types.size)) = true := by kernel_rfl
theorem psize : Tryd.f8.params.size = 2 := by kernel_rfl
theorem contract (H : Type) (enc : TypeId × Value → H) (W : World) (base : Nat) (args : Array Value) (ds gs : List (DataW H)) (before : List MemPlace)
    (hval : ∀ (j : Nat) t v, Tryd.f8.params[j]? = some t → args[j]? = some v → Value.okWide Tryd.prog W .any base t v)
    (hW : DataW.Whole enc Tryd.prog Tryd.f8.params.toList Rows.peepMakesSpec.vars false W args.toList ds gs before) (hL : laidMetH Tryd.prog Rows.peepMakesRow.laid W)
    (hwt : (DataW.weightsEach Tryd.prog (Tryd.f8.params.toList ++ (OpenSpec.ofChange Rows.peepMakesSpec).bare.plain.varTypes Tryd.prog) (ds ++ gs)).all (· ≤ reachBytes) = true) :
    Calls Tryd.prog 8 args W fun e W' => ∃ v, e = .returned v ∧ Rows.peepMakesSpec.post enc Tryd.prog Tryd.f8 false true false false W args v W' := by
  refine contract_law res (fun ds hd => ?_) rfl (fun t ht => ?_) hW hL fun ρ0 H0 hS0 hro0 hT0 hA => ?_
  · rw [psize] at hd
    match ds, hd with
    | [d0, d1], _ => rfl
  · have := List.all_eq_true.1 readable t ht
    simpa using this
  · rw [Tryd.params8] at hA hval
    obtain ⟨v0, vs0, d0, ds0, p0, q0, hargs, rfl, rfl, h0, r0⟩ := trodAll_cons hA
    obtain ⟨v1, vs1, d1, ds1, p1, q1, rfl, rfl, rfl, h1, r1⟩ := trodAll_cons r0
    obtain ⟨rfl, rfl, rfl⟩ := trodAll_nil r1
    obtain rfl : args = #[v0, v1] := by cases args; simp_all
    obtain ⟨main, rfl, _, _, hm⟩ := open_int under3 (hval 1 3 v1 rfl rfl) h1
    obtain ⟨fuel0, h0⟩ := h0
    have hc0 : v0.cells.toList = [v0] := slice_cells under36 (hval 0 36 v0 rfl rfl)
    rw [hc0] at h0
    obtain ⟨ρ1, H1, s0, l, hL1, hr1, _, hrow1, hcap1, hlen⟩ := lay_codes2 h0 hS0 hro0
    have hw1 : H1.wf := fun b B hB => hL1.sim.dom hB
    refine ⟨ρ1, H1, [s0, .int .i64 main], 7, hL1, relL_cons hr1 (relL_one rfl), ?_⟩
    exact law_makes 0 hw1 (hT0.sub hL1.sub hw1) hrow1 hcap1 (inI_of_wf hm)
theorem reads (os : Os) {H : Type} (enc : TypeId × Value → H) : ∃ places, DataW.whole enc Tryd.prog ((laidWorld os).forCall (fun _ _ => 0) ⟨#[], #[.slice none 0 0, .int .i64 0], []⟩).memory Tryd.f8.params.toList Rows.peepMakesSpec.vars false #[Value.slice none 0 0, Value.int .i64 0].toList 8 = some ([.nil, .lit (.int .i64 0)], [], places) :=
  ⟨[], by kernel_rfl⟩
theorem lifted (os : Os) (started : os.Started) (H : Type) (enc : TypeId × Value → H) (F : Stop.Interp) :
    ReturnsInHanded {} Tryd.checked os 8 .any ((OpenSpec.ofChange Rows.peepMakesSpec).preRow enc Tryd.prog Tryd.f8 Rows.peepMakesRow.domain false Rows.peepMakesRow.laid) (((OpenSpec.ofChange Rows.peepMakesSpec).at F).post enc Tryd.prog Tryd.f8 false true false false) := by
  obtain ⟨places, hx⟩ := reads os enc
  refine returnsInHanded_of_row (C := Tryd.checked) (s := OpenSpec.ofChange Rows.peepMakesSpec) own started (by kernel_rfl) Tryd.func8
    (witness_row_at (enc := enc) (C := Tryd.checked) false (laidWorld os) #[Value.slice none 0 0, Value.int .i64 0] rfl (by kernel_rfl) (by kernel_rfl) (by kernel_rfl)
      (OpenSpec.preRow_of_cond 8 hx (by kernel_rfl) (fun k hk => by cases hk) (by kernel_rfl) (laid_met os _))) ?_
  intro W base args ds gs before hval hW _ _ hwt hL _ _
  exact contract H enc W base args ds gs before hval hW hL hwt
theorem said : Rows.PeepMakesSaid :=
  OpenClaim.holds_of_cond 8 Tryd.f8 rfl rfl rfl rfl rfl rfl rfl ⟨rfl, rfl, rfl, rfl, rfl⟩ rfl rfl rfl rfl rfl (by kernel_rfl) Tryd.func8 (by kernel_rfl)
    (of_decide_eq_true (by kernel_rfl)) (by unfold Func.isWrapper; first | (rw [if_pos (by decide +kernel)]; kernel_rfl) | (rw [if_neg (by decide +kernel)]; exact ⟨rfl, rfl⟩))
    (fun os started H enc _ F => by rw [OpenClaim.pre_eq_preRow]; exact lifted os started H enc F)
theorem plain (f : FuncId) (fn : Func) (hf : Tryd.pinned.checked.prog.funcNamed "parallax/parallaxlaw10.PeepMakes" = some f) (hfn : Tryd.pinned.checked.prog.funcs[f]? = some fn) :
    false = Tryd.pinned.checked.prog.looks [] ∧ ∀ (j : Nat) t, fn.params[j]? = some t → Tryd.pinned.checked.prog.wantsStandIn t = false := by
  obtain rfl : f = 8 := Option.some.inj ((show Tryd.prog.funcNamed "parallax/parallaxlaw10.PeepMakes" = some 8 by kernel_rfl).symm.trans hf) |>.symm
  obtain rfl : fn = Tryd.f8 := (Option.some.inj (Tryd.func8.symm.trans hfn)).symm
  refine ⟨by kernel_rfl, fun j t ht => ?_⟩
  rw [Tryd.params8] at ht
  have hm : t ∈ [36, 3] := by simpa using Array.mem_of_getElem? ht
  have hall : ([36, 3].all fun u => !Tryd.prog.wantsStandIn u) = true := by kernel_rfl
  exact (show Tryd.prog.wantsStandIn t = false by simpa using List.all_eq_true.1 hall t hm)
end N8
theorem peepMakes_holds : Rows.PeepMakesCardSaid :=
  Claim7.holds_tied_plain_at .later [] _ _ _ _ N8.said (fun _ h => by cases h) (by kernel_rfl) (fun _ h => by cases h) peepMakes_row_tie rfl ⟨rfl, rfl⟩ (by kernel_rfl) rfl N8.plain (by kernel_rfl)
#print axioms peepMakes_holds
end Go.Proofs.YthiflgncldmkjaaDoor
