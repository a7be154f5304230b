/- Part 3 of the proof that: Made short twice is made short once (PeepTwice): for every input the law returns true, and the input reads as it did. Condition: the two tables of package code start as the program's text lays them (the row's own). -/
import Derived.Test.YthiflgncldmkjaaDoorBV102
/- The checker's small functions: within, may, moves, next. -/
set_option linter.unusedVariables false
set_option linter.unusedSimpArgs false
set_option maxRecDepth 100000
namespace Go.Proofs.YthiflgncldmkjaaDoor
open Go.Ri

/-- The checker's block: the codes, the code, its heights. -/
structure Chk (H : AH) (k : Nat) (ls s hs : AV) (l : List Code) (c : Code) : Prop where
  blk : H.m k = some ⟨[ls, s, .int .i64 c.cells, .int .i64 c.params, .bool c.answers, hs], 100, true⟩
  codes : CodesRow H ls l
  ins : InsRow H s c.ins
  cells : InI c.cells
  params : InI c.params
theorem Chk.ext {H H' : AH} {k : Nat} {ls s hs : AV} {l : List Code} {c : Code} (h : Chk H k ls s hs l c) (hs' : H.sub H') : Chk H' k ls s hs l c :=
  ⟨hs' _ _ h.blk, h.codes.mono hs', ⟨h.ins.1.mono hs', h.ins.2⟩, h.cells, h.params⟩

theorem within_spec (d : Nat) {H : AH} {k : Nat} {ls s hs : AV} {l : List Code} {c : Code} (hk : Chk H k ls s hs l c) {n m : Int} (hn : InI n) (hm : InI m) :
    RT (d + 1) 116 [.ptr (some (k, 0)), .int .i64 n, .int .i64 m] H = some (.bool (within c n m), H) := by
  rw [R116]
  unfold F116
  by_cases h1 : n ≥ 0
  · by_cases h2 : m ≥ 1
    · simp -implicitDefEqProofs only [go_sem, Nat.reduceAdd, Nat.reduceMul, Nat.reduceLT, Nat.reduceLeDiff, Nat.reduceEqDiff, Nat.reduceBEq, reduceCtorEq, Int.reduceLT, Int.reduceLE, Int.reduceEq, Int.reduceGT, Int.reduceGE, Int.reduceToNat, Int.reduceNeg, decide_eq_true h1, decide_eq_true h2, hk.blk]
      by_cases h3 : n ≤ c.cells
      · have hw : IntKind.i64.wrap (c.cells - n) = c.cells - n := wrap_id (by have := hk.cells; unfold InI at *; omega)
        simp -implicitDefEqProofs only [go_sem, Nat.reduceAdd, Nat.reduceMul, Nat.reduceLT, Nat.reduceLeDiff, Nat.reduceEqDiff, Nat.reduceBEq, reduceCtorEq, Int.reduceLT, Int.reduceLE, Int.reduceEq, Int.reduceGT, Int.reduceGE, Int.reduceToNat, Int.reduceNeg, decide_eq_true h3, hw, hk.blk]
        simp [within, h1, h2, h3]
      · simp -implicitDefEqProofs only [go_sem, Nat.reduceAdd, Nat.reduceMul, Nat.reduceLT, Nat.reduceLeDiff, Nat.reduceEqDiff, Nat.reduceBEq, reduceCtorEq, Int.reduceLT, Int.reduceLE, Int.reduceEq, Int.reduceGT, Int.reduceGE, Int.reduceToNat, Int.reduceNeg, decide_eq_false h3]
        simp [within, h3]
    · simp -implicitDefEqProofs only [go_sem, Nat.reduceAdd, Nat.reduceMul, Nat.reduceLT, Nat.reduceLeDiff, Nat.reduceEqDiff, Nat.reduceBEq, reduceCtorEq, Int.reduceLT, Int.reduceLE, Int.reduceEq, Int.reduceGT, Int.reduceGE, Int.reduceToNat, Int.reduceNeg, decide_eq_true h1, decide_eq_false h2]
      have : ¬ (1 ≤ m) := h2
      simp [within, this]
  · simp -implicitDefEqProofs only [go_sem, Nat.reduceAdd, Nat.reduceMul, Nat.reduceLT, Nat.reduceLeDiff, Nat.reduceEqDiff, Nat.reduceBEq, reduceCtorEq, Int.reduceLT, Int.reduceLE, Int.reduceEq, Int.reduceGT, Int.reduceGE, Int.reduceToNat, Int.reduceNeg, decide_eq_false h1]
    have : ¬ (0 ≤ n) := h1
    simp [within, this]

theorem lineAV_of {i : Ins} : (lineOf i.op i.n i.m = none ∧ lineAV i.op i.n i.m = .tuple [.str ⟨#[]⟩, .int .i64 61]) ∨ ∃ t, lineOf i.op i.n i.m = some t ∧ lineAV i.op i.n i.m = .tuple [.str (strOfNums t), .int .i64 0] := by
  unfold lineAV
  cases lineOf i.op i.n i.m with
  | none => exact .inl ⟨rfl, rfl⟩
  | some t => exact .inr ⟨t, rfl, rfl⟩
/-- A code's third cell. -/
theorem codes_at {H : AH} {ls : AV} {l : List Code} (h : CodesRow H ls l) {n : Int} (h0 : 0 ≤ n) (h1 : n < (l.length : Nat)) :
    ∃ b o c, l[n.toNat]? = some c ∧ (∀ kd, idxSl ls (.int kd n) 4 = some (.ptr (some (b, o)))) ∧ (∃ s, ldAgg (.ptr (some (b, o))) 4 H = some (.agg [s, .int .i64 c.cells, .int .i64 c.params, .bool c.answers]) ∧ InsRow H s c.ins ∧
      ldOne (.ptr (some (b, o + 0))) H = some s) ∧ ldOne (.ptr (some (b, o + 1))) H = some (.int .i64 c.cells) ∧ ldOne (.ptr (some (b, o + 2))) H = some (.int .i64 c.params) ∧ ldOne (.ptr (some (b, o + 3))) H = some (.bool c.answers) ∧ InI c.cells ∧ InI c.params ∧ c.ins.length ≤ 9223372036854775807 := by
  obtain ⟨rows, hr, ⟨hl, _⟩, hc⟩ := h
  have hi : n.toNat < l.length := by omega
  obtain ⟨b, o, e1, e2, e3⟩ := hr.at (i := n.toNat) (by omega)
  obtain ⟨s, hs, hi', hc1, hc2, hc3⟩ := hc n.toNat (by omega) hi
  rw [hs] at e2 e3
  refine ⟨b, o, l[n.toNat], List.getElem?_eq_getElem hi, fun kd => ?_, ⟨s, e2, hi', e3 0 (by omega)⟩, e3 1 (by omega), e3 2 (by omega), e3 3 (by omega), hc1, hc2, hc3⟩
  have := e1 kd
  rw [Int.toNat_of_nonneg h0] at this
  exact this
theorem CodesRow.alen {H : AH} {ls : AV} {l : List Code} (h : CodesRow H ls l) : aLen Tryd.prog 36 ls = some (.int .i64 (l.length : Nat)) := by
  obtain ⟨rows, hr, ⟨hl, _⟩, _⟩ := h
  rw [hr.alen ysl36.under, hl]
theorem InsRow.alen {H : AH} {s : AV} {l : List Ins} (h : InsRow H s l) : aLen Tryd.prog 22 s = some (.int .i64 (l.length : Nat)) := by
  rw [h.1.alen ysl22.under, List.length_map]

theorem may_spec (d : Nat) {H : AH} (hw : H.wf) (hT : Tabs H) {k : Nat} {ls s hs : AV} {l : List Code} {c : Code} (hk : Chk H k ls s hs l c) {i : Ins} (hi : i.Ok) :
    Ret (RT (d + 2) 94 [.ptr (some (k, 0)), .agg (insC i)] H) fun r => r.1 = .bool (mayI l c i) ∧ r.2 = H.new (insC i) 29 := by
  rw [R94]
  unfold F94
  have hx : Ext H.next H (H.new (insC i) 29) := (Ext.refl hw).new _ _
  have hT1 := hT.ext hx hT.two
  have hk1 := hk.ext (hx.sub hw)
  have hin : insC i = [.int .i64 i.op, .int .i64 i.n, .int .i64 i.m] := rfl
  rw [hin] at hx hT1 hk1 ⊢
  obtain ⟨op, n, m⟩ := i
  obtain ⟨ho, hn, hm⟩ := hi
  simp only at ho hn hm hx hT1 hk1 ⊢
  have h23 := RT_23 (d + 1) (op := op) hn hm hT1
  have hkn : k ≠ H.next := by have := hw _ _ hk.blk; omega
  rcases lineAV_of (i := ⟨op, n, m⟩) with ⟨hl, hv⟩ | ⟨t, hl, hv⟩
  · simp only at hl hv
    simp -implicitDefEqProofs only [go_sem, Nat.reduceAdd, Nat.reduceMul, Nat.reduceLT, Nat.reduceLeDiff, Nat.reduceEqDiff, Nat.reduceBEq, reduceCtorEq, Int.reduceLT, Int.reduceLE, Int.reduceEq, Int.reduceGT, Int.reduceGE, Int.reduceToNat, Int.reduceNeg, h23, hv]
    exact .mk ⟨by simp [mayI, hl], rfl⟩
  · simp only at hl hv
    simp -implicitDefEqProofs only [go_sem, Nat.reduceAdd, Nat.reduceMul, Nat.reduceLT, Nat.reduceLeDiff, Nat.reduceEqDiff, Nat.reduceBEq, reduceCtorEq, Int.reduceLT, Int.reduceLE, Int.reduceEq, Int.reduceGT, Int.reduceGE, Int.reduceToNat, Int.reduceNeg, h23, hv]
    have hwn := fun (a b : Int) (ha : InI a) (hb : InI b) => within_spec d hk1 ha hb
    have hns : (lineOf op n m).isNone = false := by rw [hl]; rfl
    by_cases e2 : op = 2
    · subst e2
      simp -implicitDefEqProofs only [go_sem, Nat.reduceAdd, Nat.reduceMul, Nat.reduceLT, Nat.reduceLeDiff, Nat.reduceEqDiff, Nat.reduceBEq, reduceCtorEq, Int.reduceLT, Int.reduceLE, Int.reduceEq, Int.reduceGT, Int.reduceGE, Int.reduceToNat, Int.reduceNeg, F94_J2, hwn n 1 hn (by unfold InI; omega)]
      exact .mk ⟨by simp [mayI, hns], rfl⟩
    by_cases e3 : op = 3
    · subst e3
      simp -implicitDefEqProofs only [go_sem, Nat.reduceAdd, Nat.reduceMul, Nat.reduceLT, Nat.reduceLeDiff, Nat.reduceEqDiff, Nat.reduceBEq, reduceCtorEq, Int.reduceLT, Int.reduceLE, Int.reduceEq, Int.reduceGT, Int.reduceGE, Int.reduceToNat, Int.reduceNeg, F94_J2, hwn n 1 hn (by unfold InI; omega)]
      exact .mk ⟨by simp [mayI, hns], rfl⟩
    have hfin : ∀ o : Int, (op = 4 ∨ op = 5 ∨ op = 6) → mayI l c ⟨op, n, m⟩ = (decide (m ≤ 64) && within c n m) := fun o h => by
      rcases h with rfl | rfl | rfl <;> simp [mayI, hns]
    by_cases e4 : op = 4 ∨ op = 5 ∨ op = 6
    · have hf := hfin 0 e4
      by_cases h64 : m ≤ 64
      · rcases e4 with rfl | rfl | rfl <;> simp -implicitDefEqProofs only [go_sem, Nat.reduceAdd, Nat.reduceMul, Nat.reduceLT, Nat.reduceLeDiff, Nat.reduceEqDiff, Nat.reduceBEq, reduceCtorEq, Int.reduceLT, Int.reduceLE, Int.reduceEq, Int.reduceGT, Int.reduceGE, Int.reduceToNat, Int.reduceNeg, F94_J2, F94_J1, decide_eq_true h64, hwn n m hn hm] <;> exact .mk ⟨by rw [hf]; simp [h64], rfl⟩
      · rcases e4 with rfl | rfl | rfl <;> simp -implicitDefEqProofs only [go_sem, Nat.reduceAdd, Nat.reduceMul, Nat.reduceLT, Nat.reduceLeDiff, Nat.reduceEqDiff, Nat.reduceBEq, reduceCtorEq, Int.reduceLT, Int.reduceLE, Int.reduceEq, Int.reduceGT, Int.reduceGE, Int.reduceToNat, Int.reduceNeg, F94_J2, F94_J1, decide_eq_false h64] <;> exact .mk ⟨by rw [hf]; simp [h64], rfl⟩
    have hlen := hk1.ins.alen
    have n4 : op ≠ 4 := fun h => e4 (.inl h)
    have n5 : op ≠ 5 := fun h => e4 (.inr (.inl h))
    have n6 : op ≠ 6 := fun h => e4 (.inr (.inr h))
    by_cases e17 : op = 17 ∨ op = 18
    · have hf : mayI l c ⟨op, n, m⟩ = (decide (0 ≤ n) && decide (n < (c.ins.length : Nat))) := by
        rcases e17 with rfl | rfl <;> simp [mayI, hns]
      by_cases h0 : n ≥ 0
      · rcases e17 with rfl | rfl <;> simp -implicitDefEqProofs only [go_sem, Nat.reduceAdd, Nat.reduceMul, Nat.reduceLT, Nat.reduceLeDiff, Nat.reduceEqDiff, Nat.reduceBEq, reduceCtorEq, Int.reduceLT, Int.reduceLE, Int.reduceEq, Int.reduceGT, Int.reduceGE, Int.reduceToNat, Int.reduceNeg, F94_J2, F94_J1, F94_J0, decide_eq_true h0, hk.blk, hkn, hlen] <;> exact .mk ⟨by rw [hf]; simp [h0], rfl⟩
      · have h0' : ¬ (0 ≤ n) := h0
        rcases e17 with rfl | rfl <;> simp -implicitDefEqProofs only [go_sem, Nat.reduceAdd, Nat.reduceMul, Nat.reduceLT, Nat.reduceLeDiff, Nat.reduceEqDiff, Nat.reduceBEq, reduceCtorEq, Int.reduceLT, Int.reduceLE, Int.reduceEq, Int.reduceGT, Int.reduceGE, Int.reduceToNat, Int.reduceNeg, F94_J2, F94_J1, F94_J0, decide_eq_false h0] <;> exact .mk ⟨by rw [hf]; simp [h0'], rfl⟩
    have n17 : op ≠ 17 := fun h => e17 (.inl h)
    have n18 : op ≠ 18 := fun h => e17 (.inr h)
    by_cases e19 : op = 19
    · subst e19
      have hf : mayI l c ⟨19, n, m⟩ = (decide (0 ≤ n) && decide (n < (l.length : Nat)) && decide (0 ≤ m) && decide (m ≤ 8) && decide (m = paramsAt l n)) := by simp [mayI, hns]
      have hcl := hk1.codes.alen
      simp -implicitDefEqProofs only [go_sem, Nat.reduceAdd, Nat.reduceMul, Nat.reduceLT, Nat.reduceLeDiff, Nat.reduceEqDiff, Nat.reduceBEq, reduceCtorEq, Int.reduceLT, Int.reduceLE, Int.reduceEq, Int.reduceGT, Int.reduceGE, Int.reduceToNat, Int.reduceNeg, F94_J2, F94_J1, F94_J0]
      by_cases h0 : n ≥ 0
      · simp -implicitDefEqProofs only [go_sem, Nat.reduceAdd, Nat.reduceMul, Nat.reduceLT, Nat.reduceLeDiff, Nat.reduceEqDiff, Nat.reduceBEq, reduceCtorEq, Int.reduceLT, Int.reduceLE, Int.reduceEq, Int.reduceGT, Int.reduceGE, Int.reduceToNat, Int.reduceNeg, decide_eq_true h0, hk.blk, hkn, hcl]
        by_cases h1 : n < (l.length : Nat)
        · simp -implicitDefEqProofs only [go_sem, Nat.reduceAdd, Nat.reduceMul, Nat.reduceLT, Nat.reduceLeDiff, Nat.reduceEqDiff, Nat.reduceBEq, reduceCtorEq, Int.reduceLT, Int.reduceLE, Int.reduceEq, Int.reduceGT, Int.reduceGE, Int.reduceToNat, Int.reduceNeg, decide_eq_true h1]
          by_cases h2 : m ≥ 0
          · simp -implicitDefEqProofs only [go_sem, Nat.reduceAdd, Nat.reduceMul, Nat.reduceLT, Nat.reduceLeDiff, Nat.reduceEqDiff, Nat.reduceBEq, reduceCtorEq, Int.reduceLT, Int.reduceLE, Int.reduceEq, Int.reduceGT, Int.reduceGE, Int.reduceToNat, Int.reduceNeg, decide_eq_true h2]
            by_cases h3 : m ≤ 8
            · obtain ⟨b, o, c', q1, q2, q3, q4, q5, _⟩ := codes_at hk1.codes h0 h1
              simp -implicitDefEqProofs only [go_sem, Nat.reduceAdd, Nat.reduceMul, Nat.reduceLT, Nat.reduceLeDiff, Nat.reduceEqDiff, Nat.reduceBEq, reduceCtorEq, Int.reduceLT, Int.reduceLE, Int.reduceEq, Int.reduceGT, Int.reduceGE, Int.reduceToNat, Int.reduceNeg, decide_eq_true h3, hk.blk, hkn, q2, q5]
              have hp : paramsAt l n = c'.params := by simp [paramsAt, q1]
              have k0 : decide (0 ≤ n) = true := decide_eq_true h0
              have k2 : decide (0 ≤ m) = true := decide_eq_true h2
              exact .mk ⟨by rw [hf, hp, k0, k2, decide_eq_true h1, decide_eq_true h3]; rfl, rfl⟩
            · simp -implicitDefEqProofs only [go_sem, Nat.reduceAdd, Nat.reduceMul, Nat.reduceLT, Nat.reduceLeDiff, Nat.reduceEqDiff, Nat.reduceBEq, reduceCtorEq, Int.reduceLT, Int.reduceLE, Int.reduceEq, Int.reduceGT, Int.reduceGE, Int.reduceToNat, Int.reduceNeg, decide_eq_false h3]
              exact .mk ⟨by rw [hf]; simp [h3], rfl⟩
          · simp -implicitDefEqProofs only [go_sem, Nat.reduceAdd, Nat.reduceMul, Nat.reduceLT, Nat.reduceLeDiff, Nat.reduceEqDiff, Nat.reduceBEq, reduceCtorEq, Int.reduceLT, Int.reduceLE, Int.reduceEq, Int.reduceGT, Int.reduceGE, Int.reduceToNat, Int.reduceNeg, decide_eq_false h2]
            have h2' : ¬ (0 ≤ m) := h2
            exact .mk ⟨by rw [hf]; simp [h2'], rfl⟩
        · simp -implicitDefEqProofs only [go_sem, Nat.reduceAdd, Nat.reduceMul, Nat.reduceLT, Nat.reduceLeDiff, Nat.reduceEqDiff, Nat.reduceBEq, reduceCtorEq, Int.reduceLT, Int.reduceLE, Int.reduceEq, Int.reduceGT, Int.reduceGE, Int.reduceToNat, Int.reduceNeg, decide_eq_false h1]
          exact .mk ⟨by rw [hf]; simp [h1], rfl⟩
      · simp -implicitDefEqProofs only [go_sem, Nat.reduceAdd, Nat.reduceMul, Nat.reduceLT, Nat.reduceLeDiff, Nat.reduceEqDiff, Nat.reduceBEq, reduceCtorEq, Int.reduceLT, Int.reduceLE, Int.reduceEq, Int.reduceGT, Int.reduceGE, Int.reduceToNat, Int.reduceNeg, decide_eq_false h0]
        have h0' : ¬ (0 ≤ n) := h0
        exact .mk ⟨by rw [hf]; simp [h0'], rfl⟩
    by_cases e20 : op = 20
    · subst e20
      have hf : mayI l c ⟨20, n, m⟩ = decide (n = if c.answers = true then 1 else 0) := by simp [mayI, hns]
      simp -implicitDefEqProofs only [go_sem, Nat.reduceAdd, Nat.reduceMul, Nat.reduceLT, Nat.reduceLeDiff, Nat.reduceEqDiff, Nat.reduceBEq, reduceCtorEq, Int.reduceLT, Int.reduceLE, Int.reduceEq, Int.reduceGT, Int.reduceGE, Int.reduceToNat, Int.reduceNeg, F94_J2, F94_J1, F94_J0, hk.blk, hkn]
      by_cases h0 : n = 0
      · subst h0
        simp -implicitDefEqProofs only [go_sem, Nat.reduceAdd, Nat.reduceMul, Nat.reduceLT, Nat.reduceLeDiff, Nat.reduceEqDiff, Nat.reduceBEq, reduceCtorEq, Int.reduceLT, Int.reduceLE, Int.reduceEq, Int.reduceGT, Int.reduceGE, Int.reduceToNat, Int.reduceNeg, hk.blk, hkn]
        cases hans : c.answers
        · simp -implicitDefEqProofs only [go_sem, Nat.reduceAdd, Nat.reduceMul, Nat.reduceLT, Nat.reduceLeDiff, Nat.reduceEqDiff, Nat.reduceBEq, reduceCtorEq, Int.reduceLT, Int.reduceLE, Int.reduceEq, Int.reduceGT, Int.reduceGE, Int.reduceToNat, Int.reduceNeg]
          exact .mk ⟨by rw [hf]; simp [hans], rfl⟩
        · simp -implicitDefEqProofs only [go_sem, Nat.reduceAdd, Nat.reduceMul, Nat.reduceLT, Nat.reduceLeDiff, Nat.reduceEqDiff, Nat.reduceBEq, reduceCtorEq, Int.reduceLT, Int.reduceLE, Int.reduceEq, Int.reduceGT, Int.reduceGE, Int.reduceToNat, Int.reduceNeg]
          exact .mk ⟨by rw [hf]; simp [hans], rfl⟩
      · simp -implicitDefEqProofs only [go_sem, Nat.reduceAdd, Nat.reduceMul, Nat.reduceLT, Nat.reduceLeDiff, Nat.reduceEqDiff, Nat.reduceBEq, reduceCtorEq, Int.reduceLT, Int.reduceLE, Int.reduceEq, Int.reduceGT, Int.reduceGE, Int.reduceToNat, Int.reduceNeg, decide_eq_false h0]
        by_cases h1 : n = 1
        · subst h1
          simp -implicitDefEqProofs only [go_sem, Nat.reduceAdd, Nat.reduceMul, Nat.reduceLT, Nat.reduceLeDiff, Nat.reduceEqDiff, Nat.reduceBEq, reduceCtorEq, Int.reduceLT, Int.reduceLE, Int.reduceEq, Int.reduceGT, Int.reduceGE, Int.reduceToNat, Int.reduceNeg, hk.blk, hkn]
          exact .mk ⟨by rw [hf]; cases c.answers <;> simp, rfl⟩
        · simp -implicitDefEqProofs only [go_sem, Nat.reduceAdd, Nat.reduceMul, Nat.reduceLT, Nat.reduceLeDiff, Nat.reduceEqDiff, Nat.reduceBEq, reduceCtorEq, Int.reduceLT, Int.reduceLE, Int.reduceEq, Int.reduceGT, Int.reduceGE, Int.reduceToNat, Int.reduceNeg, decide_eq_false h1]
          exact .mk ⟨by rw [hf]; cases c.answers <;> simp [h0, h1], rfl⟩
    by_cases e24 : op = 24
    · subst e24
      have hf : mayI l c ⟨24, n, m⟩ = (decide (0 ≤ n) && decide (1 ≤ m) && decide (m ≤ 3)) := by simp [mayI, hns]
      simp -implicitDefEqProofs only [go_sem, Nat.reduceAdd, Nat.reduceMul, Nat.reduceLT, Nat.reduceLeDiff, Nat.reduceEqDiff, Nat.reduceBEq, reduceCtorEq, Int.reduceLT, Int.reduceLE, Int.reduceEq, Int.reduceGT, Int.reduceGE, Int.reduceToNat, Int.reduceNeg, F94_J2, F94_J1, F94_J0]
      by_cases h0 : n ≥ 0
      · simp -implicitDefEqProofs only [go_sem, Nat.reduceAdd, Nat.reduceMul, Nat.reduceLT, Nat.reduceLeDiff, Nat.reduceEqDiff, Nat.reduceBEq, reduceCtorEq, Int.reduceLT, Int.reduceLE, Int.reduceEq, Int.reduceGT, Int.reduceGE, Int.reduceToNat, Int.reduceNeg, decide_eq_true h0]
        by_cases h1 : m ≥ 1
        · simp -implicitDefEqProofs only [go_sem, Nat.reduceAdd, Nat.reduceMul, Nat.reduceLT, Nat.reduceLeDiff, Nat.reduceEqDiff, Nat.reduceBEq, reduceCtorEq, Int.reduceLT, Int.reduceLE, Int.reduceEq, Int.reduceGT, Int.reduceGE, Int.reduceToNat, Int.reduceNeg, decide_eq_true h1]
          exact .mk ⟨by rw [hf]; simp [h0, h1], rfl⟩
        · simp -implicitDefEqProofs only [go_sem, Nat.reduceAdd, Nat.reduceMul, Nat.reduceLT, Nat.reduceLeDiff, Nat.reduceEqDiff, Nat.reduceBEq, reduceCtorEq, Int.reduceLT, Int.reduceLE, Int.reduceEq, Int.reduceGT, Int.reduceGE, Int.reduceToNat, Int.reduceNeg, decide_eq_false h1]
          have h1' : ¬ (1 ≤ m) := h1
          exact .mk ⟨by rw [hf]; simp [h1'], rfl⟩
      · simp -implicitDefEqProofs only [go_sem, Nat.reduceAdd, Nat.reduceMul, Nat.reduceLT, Nat.reduceLeDiff, Nat.reduceEqDiff, Nat.reduceBEq, reduceCtorEq, Int.reduceLT, Int.reduceLE, Int.reduceEq, Int.reduceGT, Int.reduceGE, Int.reduceToNat, Int.reduceNeg, decide_eq_false h0]
        have h0' : ¬ (0 ≤ n) := h0
        exact .mk ⟨by rw [hf]; simp [h0'], rfl⟩
    simp -implicitDefEqProofs only [go_sem, Nat.reduceAdd, Nat.reduceMul, Nat.reduceLT, Nat.reduceLeDiff, Nat.reduceEqDiff, Nat.reduceBEq, reduceCtorEq, Int.reduceLT, Int.reduceLE, Int.reduceEq, Int.reduceGT, Int.reduceGE, Int.reduceToNat, Int.reduceNeg, F94_J2, F94_J1, F94_J0, decide_eq_false e2, decide_eq_false e3, decide_eq_false n4, decide_eq_false n5, decide_eq_false n6, decide_eq_false n17, decide_eq_false n18, decide_eq_false e19, decide_eq_false e20, decide_eq_false e24]
    exact .mk ⟨by simp [mayI, hns, e2, e3, n4, n5, n6, n17, n18, e19, e20, e24], rfl⟩

theorem stack_takes (op : Int) (h : 1 ≤ op ∧ op ≤ 25) : stackA[op.toNat * 2]? = some (.int .i64 (takes op)) := by
  have hl : stackN.length = 52 := by decide
  unfold stackA takes
  rw [List.getElem?_map, List.getD_eq_getElem?_getD, List.getElem?_eq_getElem (by omega)]
  rfl
theorem stack_leaves (op : Int) (h : 1 ≤ op ∧ op ≤ 25) : stackA[op.toNat * 2 + 1]? = some (.int .i64 (leaves op)) := by
  have hl : stackN.length = 52 := by decide
  unfold stackA leaves
  rw [List.getElem?_map, List.getD_eq_getElem?_getD, List.getElem?_eq_getElem (by omega)]
  rfl
theorem moves_spec (d : Nat) {H : AH} (hw : H.wf) (hT : Tabs H) {k : Nat} {ls s hs : AV} {l : List Code} {c : Code} (hk : Chk H k ls s hs l c) {i : Ins} (hm : mayI l c i = true) :
    RT (d + 1) 117 [.ptr (some (k, 0)), .agg (insC i)] H = some (.tuple [.int .i64 (tk l i), .int .i64 (lv l i)], H.new (insC i) 29) := by
  rw [R117]
  unfold F117
  have hop := mayI_op hm
  have hx : Ext H.next H (H.new (insC i) 29) := (Ext.refl hw).new _ _
  have hk1 := hk.ext (hx.sub hw)
  have hin : insC i = [.int .i64 i.op, .int .i64 i.n, .int .i64 i.m] := rfl
  rw [hin] at hx hk1 ⊢
  obtain ⟨op, n, m⟩ := i
  simp only at hop hm hx hk1 ⊢
  have hkn : k ≠ H.next := by have := hw _ _ hk.blk; omega
  have h1n : ¬ (1 = H.next) := by have := hT.two; omega
  by_cases e19 : op = 19
  · subst e19
    have hm' : (decide (0 ≤ n) && decide (n < (l.length : Nat)) && decide (0 ≤ m) && decide (m ≤ 8) && decide (m = paramsAt l n)) = true := by
      have := hm
      unfold mayI at this
      split at this
      · cases this
      · simpa using this
    simp only [Bool.and_eq_true, decide_eq_true_eq] at hm'
    obtain ⟨b, o, c', q1, q2, q3, q4, q5, q6, _⟩ := codes_at hk1.codes hm'.1.1.1.1 hm'.1.1.1.2
    simp -implicitDefEqProofs only [go_sem, Nat.reduceAdd, Nat.reduceMul, Nat.reduceLT, Nat.reduceLeDiff, Nat.reduceEqDiff, Nat.reduceBEq, reduceCtorEq, Int.reduceLT, Int.reduceLE, Int.reduceEq, Int.reduceGT, Int.reduceGE, Int.reduceToNat, Int.reduceNeg, hk.blk, hkn, q2, q6]
    have ha : answersAt l n = c'.answers := by simp [answersAt, q1]
    cases hans : c'.answers
    · simp -implicitDefEqProofs only [go_sem, Nat.reduceAdd, Nat.reduceMul, Nat.reduceLT, Nat.reduceLeDiff, Nat.reduceEqDiff, Nat.reduceBEq, reduceCtorEq, Int.reduceLT, Int.reduceLE, Int.reduceEq, Int.reduceGT, Int.reduceGE, Int.reduceToNat, Int.reduceNeg]
      simp [tk, lv, ha, hans]
    · simp -implicitDefEqProofs only [go_sem, Nat.reduceAdd, Nat.reduceMul, Nat.reduceLT, Nat.reduceLeDiff, Nat.reduceEqDiff, Nat.reduceBEq, reduceCtorEq, Int.reduceLT, Int.reduceLE, Int.reduceEq, Int.reduceGT, Int.reduceGE, Int.reduceToNat, Int.reduceNeg]
      simp [tk, lv, ha, hans]
  by_cases e20 : op = 20
  · subst e20
    simp -implicitDefEqProofs only [go_sem, Nat.reduceAdd, Nat.reduceMul, Nat.reduceLT, Nat.reduceLeDiff, Nat.reduceEqDiff, Nat.reduceBEq, reduceCtorEq, Int.reduceLT, Int.reduceLE, Int.reduceEq, Int.reduceGT, Int.reduceGE, Int.reduceToNat, Int.reduceNeg]
    simp [tk, lv]
  obtain ⟨es, hst⟩ := hT.stack
  have h0 : 0 ≤ op ∧ op < 26 := by omega
  simp -implicitDefEqProofs only [go_sem, Nat.reduceAdd, Nat.reduceMul, Nat.reduceLT, Nat.reduceLeDiff, Nat.reduceEqDiff, Nat.reduceBEq, reduceCtorEq, Int.reduceLT, Int.reduceLE, Int.reduceEq, Int.reduceGT, Int.reduceGE, Int.reduceToNat, Int.reduceNeg, decide_eq_false e19, decide_eq_false e20, decide_eq_true (show op < 26 by omega), if_pos h0, hst, h1n, stack_takes op hop, stack_leaves op hop]
  simp [tk, lv, e19, e20]

theorem next_spec (d : Nat) {H : AH} (hw : H.wf) (i : Ins) {a : Nat} (ha : a < 70000) :
    Ret (RT (d + 1) 118 [.agg (insC i), .int .i64 (a : Nat)] H) fun r => Row r.2 r.1 1 ((nextI i a).map fun p => [.int .i64 p]) ∧ Ext H.next H r.2 ∧ ∀ b o n c, r.1 = .slice (some (b, o)) n c → H.next ≤ b ∧ b < r.2.next := by
  rw [R118]
  unfold F118
  have hin : insC i = [.int .i64 i.op, .int .i64 i.n, .int .i64 i.m] := rfl
  have hx : Ext H.next H (H.new (insC i) 29) := (Ext.refl hw).new _ _
  rw [hin] at hx ⊢
  have hwr := wrapS (i := a) (by omega)
  have hnn : (H.next + 1 = H.next + 1) = True := by simp
  have one : ∀ p : Int, Row (((H.new [.int .i64 i.op, .int .i64 i.n, .int .i64 i.m] 29).new [.int .i64 p] 3)) (.slice (some (H.next + 1, 0)) 1 (.kn 1)) 1 [[.int .i64 p]] := fun p =>
    Own.row (l := [[.int .i64 p]]) (by omega) (Own.made (N := 0) (H := H.new [.int .i64 i.op, .int .i64 i.n, .int .i64 i.m] 29) (n := 1) (Nat.zero_le _) rfl) (by simp)
  have two : ∀ p q : Int, Row (((H.new [.int .i64 i.op, .int .i64 i.n, .int .i64 i.m] 29).new [.int .i64 p, .int .i64 q] 3)) (.slice (some (H.next + 1, 0)) 2 (.kn 2)) 1 [[.int .i64 p], [.int .i64 q]] := fun p q =>
    Own.row (l := [[.int .i64 p], [.int .i64 q]]) (by omega) (Own.made (N := 0) (H := H.new [.int .i64 i.op, .int .i64 i.n, .int .i64 i.m] 29) (n := 2) (Nat.zero_le _) rfl) (by simp)
  by_cases e17 : i.op = 17
  · simp -implicitDefEqProofs only [go_sem, Nat.reduceAdd, Nat.reduceMul, Nat.reduceLT, Nat.reduceLeDiff, Nat.reduceEqDiff, Nat.reduceBEq, reduceCtorEq, Int.reduceLT, Int.reduceLE, Int.reduceEq, Int.reduceGT, Int.reduceGE, Int.reduceToNat, Int.reduceNeg, decide_eq_true e17]
    refine .mk ⟨?_, hx.new _ _, fun b o n c h => by cases h; simp⟩
    simp only [nextI, if_pos e17]
    exact one i.n
  by_cases e18 : i.op = 18
  · simp -implicitDefEqProofs only [go_sem, Nat.reduceAdd, Nat.reduceMul, Nat.reduceLT, Nat.reduceLeDiff, Nat.reduceEqDiff, Nat.reduceBEq, reduceCtorEq, Int.reduceLT, Int.reduceLE, Int.reduceEq, Int.reduceGT, Int.reduceGE, Int.reduceToNat, Int.reduceNeg, decide_eq_false e17, decide_eq_true e18, hwr]
    refine .mk ⟨?_, hx.new _ _, fun b o n c h => by cases h; simp⟩
    simp only [nextI, if_neg e17, if_pos e18]
    exact two _ _
  by_cases e20 : i.op = 20
  · simp -implicitDefEqProofs only [go_sem, Nat.reduceAdd, Nat.reduceMul, Nat.reduceLT, Nat.reduceLeDiff, Nat.reduceEqDiff, Nat.reduceBEq, reduceCtorEq, Int.reduceLT, Int.reduceLE, Int.reduceEq, Int.reduceGT, Int.reduceGE, Int.reduceToNat, Int.reduceNeg, decide_eq_false e17, decide_eq_false e18, decide_eq_true e20]
    refine .mk ⟨?_, hx, fun b o n c h => by cases h⟩
    simp only [nextI, if_neg e17, if_neg e18, if_pos e20]
    exact Row.nil _ _
  · simp -implicitDefEqProofs only [go_sem, Nat.reduceAdd, Nat.reduceMul, Nat.reduceLT, Nat.reduceLeDiff, Nat.reduceEqDiff, Nat.reduceBEq, reduceCtorEq, Int.reduceLT, Int.reduceLE, Int.reduceEq, Int.reduceGT, Int.reduceGE, Int.reduceToNat, Int.reduceNeg, decide_eq_false e17, decide_eq_false e18, decide_eq_false e20, hwr]
    refine .mk ⟨?_, hx.new _ _, fun b o n c h => by cases h; simp⟩
    simp only [nextI, if_neg e17, if_neg e18, if_neg e20]
    exact one _
end Go.Proofs.YthiflgncldmkjaaDoor
/- The checker's heights. -/
set_option linter.unusedVariables false
set_option linter.unusedSimpArgs false
set_option maxRecDepth 100000
namespace Go.Ri
theorem AH.same {H H' : AH} (h1 : ∀ i, H.m i = H'.m i) (h2 : H.next = H'.next) : H = H' := by
  cases H
  cases H'
  simp only [AH.mk.injEq]
  exact ⟨funext h1, h2⟩
theorem new_put (H : AH) (cs cs' : List AV) (e e' : TypeId) : (H.new cs e).put H.next ⟨cs', e', true⟩ = H.new cs' e' := AH.same (fun i => by simp only [put_m, new_m]; split <;> rfl) rfl
theorem res_new (H : AH) (cs : List AV) (e : TypeId) (B : Blk) : ((H.res 1).put H.next B).put H.next ⟨cs, e, true⟩ = H.new cs e := AH.same (fun i => by simp only [put_m, new_m, res_m]; split <;> rfl) rfl
theorem Ext.self {N : Nat} {H : AH} (h : H.wf) (hN : N ≤ H.next) : Ext N H H := ⟨fun _ _ => rfl, hN, h⟩
theorem Ext.less {N M : Nat} {H0 H : AH} (h : Ext N H0 H) (hM : M ≤ N) : Ext M H0 H := ⟨fun b hb => h.low b (by omega), Nat.le_trans hM h.next, h.wf⟩
theorem Own.shape {N sz : Nat} {e : TypeId} {H : AH} {s : AV} {cs : List AV} (h : Own N sz e H s cs) : ∃ p n c, s = .slice p n c := by
  rcases h with ⟨rfl, _⟩ | ⟨b, n, c, B, rfl, _⟩
  · exact ⟨_, _, _, rfl⟩
  · exact ⟨_, _, _, rfl⟩
theorem Own.put {N sz : Nat} {e : TypeId} {H : AH} {s : AV} {cs : List AV} (h : Own N sz e H s cs) {b : Nat} (hb : ¬ At s b) (B : Blk) : Own N sz e (H.put b B) s cs := by
  refine h.mono fun i hi => ?_
  intro c hc
  have : i ≠ b := by
    rintro rfl
    exact hb ⟨_, _, hc⟩
  simp [this]
theorem Own.ne {N sz : Nat} {e : TypeId} {H : AH} {s : AV} {cs : List AV} (h : Own N sz e H s cs) {b : Nat} (hb : b < N) : ¬ At s b := fun ha => by
  obtain ⟨_, _, h9⟩ := h.at ha
  omega
theorem Own.to {N sz : Nat} {e : TypeId} {H H' : AH} {s : AV} {cs : List AV} (h : Own N sz e H s cs) (hs : ∀ b, At s b → H'.m b = H.m b) : Own N sz e H' s cs := by
  rcases h with h | ⟨b, n, c, B, rfl, h2, h3, h4, h5⟩
  · exact .inl h
  · exact .inr ⟨b, n, c, B, rfl, h2, h3, by rw [hs b ⟨n, c, rfl⟩]; exact h4, h5⟩
theorem Own.alen {P : Program} {t e' : TypeId} (hu : P.underlying t = some (.slice e')) {N : Nat} {e : TypeId} {H : AH} {s : AV} {cs : List AV} (h : Own N 1 e H s cs) : aLen P t s = some (.int .i64 (cs.length : Nat)) := by
  unfold aLen
  rw [hu]
  rcases h with ⟨rfl, rfl⟩ | ⟨b, n, c, B, rfl, _, hl, _⟩
  · rfl
  · rw [Nat.mul_one] at hl
    rw [hl]
/-- One cell of a slice of one's own: read, written. -/
theorem Own.cell {N : Nat} {e : TypeId} {H : AH} {s : AV} {cs : List AV} (h : Own N 1 e H s cs) (hw : H.wf) {i : Nat} (hi : i < cs.length) :
    ∃ b B, At s b ∧ N ≤ b ∧ b < H.next ∧ H.m b = some B ∧ B.rw_ = true ∧ i < B.cells.length ∧ B.cells[i]? = cs[i]? ∧ (∀ k, idxSl s (.int k (i : Nat)) 1 = some (.ptr (some (b, i)))) ∧ ∀ v, Own N 1 e (H.put b ⟨B.cells.set i v, B.elem, B.rw_⟩) s (cs.set i v) := by
  rcases h with ⟨_, rfl⟩ | ⟨b, n, c, B, rfl, hc, hcl, hb, hbe, hbr, hbl, htk, hN⟩
  · simp at hi
  · rw [Nat.mul_one] at hcl hbl htk
    subst hcl
    refine ⟨b, B, ⟨_, _, rfl⟩, hN, hw _ _ hb, hb, hbr, by omega, ?_, fun k => ?_, fun v => ?_⟩
    · have h1 : (B.cells.take cs.length)[i]? = cs[i]? := by rw [htk]
      rw [List.getElem?_take, if_pos hi] at h1
      exact h1
    · simp [idxSl]; omega
    · refine .inr ⟨b, cs.length, c, ⟨B.cells.set i v, B.elem, B.rw_⟩, rfl, ?_, by simp, by simp, hbe, hbr, by simpa using hbl, ?_, hN⟩
      · rcases hc with h | ⟨m, h1, h2, h3⟩
        · exact .inl h
        · exact .inr ⟨m, h1, h2, by simpa using h3⟩
      · rw [Nat.mul_one]
        simp only
        rw [List.take_set, htk]
/-- A row whose block is as it was. -/
def AtR (s : AV) (b : Nat) : Prop := ∃ o n c, s = .slice (some (b, o)) n c
theorem Row.keep {H H' : AH} {s : AV} {k : Nat} {l : List (List AV)} (h : Row H s k l) (hs : ∀ b, AtR s b → H'.m b = H.m b) : Row H' s k l := by
  refine ⟨h.len, ?_⟩
  rcases h.is with h1 | ⟨a, c, rfl, h2⟩
  · exact .inl h1
  · refine .inr ⟨a, c, rfl, h2.imp id ?_⟩
    rintro ⟨b, o, B, rfl, hB, r⟩
    exact ⟨b, o, B, rfl, by rw [hs b ⟨o, _, _, rfl⟩]; exact hB, r⟩
end Go.Ri
namespace Go.Proofs.YthiflgncldmkjaaDoor
open Go.Ri

def intsC (l : List Int) : List AV := l.map (.int .i64)
theorem intsC_len (l : List Int) : (intsC l).length = l.length := by simp [intsC]
theorem intsC_get (l : List Int) (i : Nat) : (intsC l)[i]? = (l[i]?).map (.int .i64) := by simp [intsC]
theorem intsC_set (l : List Int) (i : Nat) (x : Int) : (intsC l).set i (.int .i64 x) = intsC (l.set i x) := by simp [intsC, List.map_set]
abbrev OwnI (N : Nat) (H : AH) (s : AV) (l : List Int) : Prop := Own N 1 3 H s (intsC l)
theorem OwnI.more {N : Nat} {H0 H : AH} {s : AV} {l : List Int} {x : Int} (hs : OwnI N H s l) (he : Ext N H0 H) (hlim : l.length < 1000000000) :
    Ret (aAppend Tryd.prog 40 40 s (.slice (some (H.next, 0)) 1 (.kn 1)) (H.new [.int .i64 x] 3)) fun r => OwnI N r.2 r.1 (l ++ [x]) ∧ Ext N H0 r.2 ∧ H.next < r.2.next ∧ (∀ b, b < H.next → ¬ At s b → r.2.m b = H.m b) ∧ ∀ b, At r.1 b → At s b ∨ (H.next < b ∧ b < r.2.next) :=
  (app_el (ds := [.int .i64 x]) ysl40 hs he rfl (by rw [intsC_len]; omega)).mono fun r h => ⟨by simpa [OwnI, intsC] using h.1, h.2⟩

section
variable {Hb : AH} {ls s : AV} {l : List Code} {c : Code}
/-- The checker stands in the first block behind the base. -/
structure Ck (Hb : AH) (ls s : AV) (c : Code) (H : AH) (hs : AV) : Prop where
  ext : Ext Hb.next Hb H
  blk : H.m Hb.next = some ⟨[ls, s, .int .i64 c.cells, .int .i64 c.params, .bool c.answers, hs], 100, true⟩
structure Base (Hb : AH) (ls s : AV) (l : List Code) (c : Code) : Prop where
  wf : Hb.wf
  tabs : Tabs Hb
  codes : CodesRow Hb ls l
  ins : InsRow Hb s c.ins
  cells : InI c.cells
  params : InI c.params
theorem Ck.chk {H : AH} {hs : AV} (h : Ck Hb ls s c H hs) (B : Base Hb ls s l c) : Chk H Hb.next ls s hs l c :=
  ⟨h.blk, B.codes.mono (h.ext.sub B.wf), ⟨B.ins.1.mono (h.ext.sub B.wf), B.ins.2⟩, B.cells, B.params⟩
theorem Ck.tabs {H : AH} {hs : AV} (h : Ck Hb ls s c H hs) (B : Base Hb ls s l c) : Tabs H := B.tabs.ext h.ext B.tabs.two
theorem Ck.lt {H : AH} {hs : AV} (h : Ck Hb ls s c H hs) : Hb.next < H.next := h.ext.wf _ _ h.blk

/-- The first loop: so many times -1. -/
def I3 (Hb : AH) (ls s : AV) (c : Code) (i : Nat) (t : St) : Prop :=
  t.1 0 = .ptr (some (Hb.next, 0)) ∧ t.1 16 = .int .i64 (c.ins.length : Nat) ∧ t.1 17 = .int .i64 (i : Nat) ∧ ∃ hs, Ck Hb ls s c t.2 hs ∧ OwnI (Hb.next + 1) t.2 hs (List.replicate i (-1))
theorem loop3 (d : Nat) (B : Base Hb ls s l c) (hlen : c.ins.length ≤ 65536) {T : Tm} {H : AH} (h0 : I3 Hb ls s c 0 (T, H)) :
    Ret (Ri.iter big (F95_L3 (RT d) (Ri.iter big)) (T, H)) fun r => r.1 = .exit 0 ∧ I3 Hb ls s c c.ins.length r.2 := by
  refine Ret.upTo (n := c.ins.length) (I3 Hb ls s c) (by unfold big; omega) h0 ?_ ?_
  · rintro i ⟨T1, H1⟩ hi ⟨t0, t16, t17, hs, hck, hown⟩
    simp only at t0 t16 t17 hck hown
    have hcmp : decide (((i : Nat) : Int) < ((c.ins.length : Nat) : Int)) = true := decide_eq_true (by omega)
    have hkn : Hb.next ≠ H1.next := Nat.ne_of_lt hck.lt
    unfold F95_L3
    simp -implicitDefEqProofs only [go_sem, Nat.reduceAdd, Nat.reduceMul, Nat.reduceLT, Nat.reduceLeDiff, Nat.reduceEqDiff, Nat.reduceBEq, reduceCtorEq, Int.reduceLT, Int.reduceLE, Int.reduceEq, Int.reduceGT, Int.reduceGE, Int.reduceToNat, Int.reduceNeg, t0, t16, t17, hcmp, hck.blk]
    refine ret_bind ((OwnI.more (x := -1) hown (Ext.self hck.ext.wf hck.lt) (by simp; omega)).mono ?_)
    rintro ⟨hs', H2⟩ ⟨g1, g2, g3, g4, g5⟩
    simp only at g1 g2 g3 g4 g5
    obtain ⟨p, n, cc, rfl⟩ := g1.shape
    have hb2 : H2.m Hb.next = some ⟨[ls, s, .int .i64 c.cells, .int .i64 c.params, .bool c.answers, hs], 100, true⟩ := by rw [g2.low _ (Nat.lt_succ_self _)]; exact hck.blk
    have hx2 : Ext Hb.next Hb H2 := hck.ext.trans (g2.less (Nat.le_succ _)) (Nat.le_refl _)
    simp -implicitDefEqProofs only [go_sem, Nat.reduceAdd, Nat.reduceMul, Nat.reduceLT, Nat.reduceLeDiff, Nat.reduceEqDiff, Nat.reduceBEq, reduceCtorEq, Int.reduceLT, Int.reduceLE, Int.reduceEq, Int.reduceGT, Int.reduceGE, Int.reduceToNat, Int.reduceNeg, t0, t17, hb2, wrapS (i := i) (by omega)]
    refine .mk (.inl ⟨rfl, ?_, ?_, ?_, .slice p n cc, ⟨hx2.put (Nat.le_refl _) (hx2.wf _ _ hb2) _, by simp⟩, ?_⟩)
    · simp -implicitDefEqProofs only [go_sem, Nat.reduceAdd, Nat.reduceMul, Nat.reduceLT, Nat.reduceLeDiff, Nat.reduceEqDiff, Nat.reduceBEq, reduceCtorEq, Int.reduceLT, Int.reduceLE, Int.reduceEq, Int.reduceGT, Int.reduceGE, Int.reduceToNat, Int.reduceNeg, t0]
    · simp -implicitDefEqProofs only [go_sem, Nat.reduceAdd, Nat.reduceMul, Nat.reduceLT, Nat.reduceLeDiff, Nat.reduceEqDiff, Nat.reduceBEq, reduceCtorEq, Int.reduceLT, Int.reduceLE, Int.reduceEq, Int.reduceGT, Int.reduceGE, Int.reduceToNat, Int.reduceNeg, t16]
    · simp -implicitDefEqProofs only [go_sem, Nat.reduceAdd, Nat.reduceMul, Nat.reduceLT, Nat.reduceLeDiff, Nat.reduceEqDiff, Nat.reduceBEq, reduceCtorEq, Int.reduceLT, Int.reduceLE, Int.reduceEq, Int.reduceGT, Int.reduceGE, Int.reduceToNat, Int.reduceNeg]
    · rw [List.replicate_succ']
      exact g1.put (g1.ne (Nat.lt_succ_self _)) _
  · rintro ⟨T1, H1⟩ ⟨t0, t16, t17, h⟩
    simp only at t0 t16 t17 h
    have hcmp : decide (((c.ins.length : Nat) : Int) < ((c.ins.length : Nat) : Int)) = false := decide_eq_false (by omega)
    unfold F95_L3
    simp -implicitDefEqProofs only [go_sem, Nat.reduceAdd, Nat.reduceMul, Nat.reduceLT, Nat.reduceLeDiff, Nat.reduceEqDiff, Nat.reduceBEq, reduceCtorEq, Int.reduceLT, Int.reduceLE, Int.reduceEq, Int.reduceGT, Int.reduceGE, Int.reduceToNat, Int.reduceNeg, t16, t17, hcmp]
    refine .mk ⟨by simp, rfl, ?_, ?_, ?_, h⟩
    · simp -implicitDefEqProofs only [go_sem, Nat.reduceAdd, Nat.reduceMul, Nat.reduceLT, Nat.reduceLeDiff, Nat.reduceEqDiff, Nat.reduceBEq, reduceCtorEq, Int.reduceLT, Int.reduceLE, Int.reduceEq, Int.reduceGT, Int.reduceGE, Int.reduceToNat, Int.reduceNeg, t0]
    · simp -implicitDefEqProofs only [go_sem, Nat.reduceAdd, Nat.reduceMul, Nat.reduceLT, Nat.reduceLeDiff, Nat.reduceEqDiff, Nat.reduceBEq, reduceCtorEq, Int.reduceLT, Int.reduceLE, Int.reduceEq, Int.reduceGT, Int.reduceGE, Int.reduceToNat, Int.reduceNeg, t16]
    · simp -implicitDefEqProofs only [go_sem, Nat.reduceAdd, Nat.reduceMul, Nat.reduceLT, Nat.reduceLeDiff, Nat.reduceEqDiff, Nat.reduceBEq, reduceCtorEq, Int.reduceLT, Int.reduceLE, Int.reduceEq, Int.reduceGT, Int.reduceGE, Int.reduceToNat, Int.reduceNeg, t17]

/-- What comes next of a place is no place below 0. -/
theorem next_nat {i : Ins} (hm : mayI l c i = true) {a : Nat} {p : Int} (hp : p ∈ nextI i a) : 0 ≤ p := by
  unfold nextI at hp
  unfold mayI at hm
  split at hm
  · cases hm
  · by_cases e17 : i.op = 17
    · rw [if_pos e17] at hp
      simp [e17] at hm hp
      omega
    · by_cases e18 : i.op = 18
      · rw [if_neg e17, if_pos e18] at hp
        simp [e18] at hm hp
        omega
      · rw [if_neg e17, if_neg e18] at hp
        split at hp
        · simp at hp
        · simp at hp; omega
theorem tk_nonneg {i : Ins} (hm : mayI l c i = true) : 0 ≤ tk l i := by
  unfold tk
  unfold mayI at hm
  split at hm
  · cases hm
  · split
    · rename_i e
      simp [e] at hm
      omega
    · split
      · rename_i e
        simp [e] at hm
        rw [hm]
        split <;> omega
      · exact takes_nonneg _

/-- The inner loop: the places that come next of one. -/
structure I1 (Hb : AH) (ls s : AV) (l : List Code) (c : Code) (i : Ins) (a : Nat) (x : Int) (N1 N2 : Nat) (sv hs : AV) (bud : Nat) (j : Nat) (t : St) : Prop where
  t0 : t.1 0 = .ptr (some (Hb.next, 0))
  t6 : t.1 6 = .int .i64 x
  t7 : t.1 7 = .int .i64 (tk l i)
  t8 : t.1 8 = .int .i64 (lv l i)
  t98 : t.1 98 = sv
  t99 : t.1 99 = .int .i64 ((nextI i a).length : Nat)
  t100 : t.1 100 = .int .i64 (j : Nat)
  row : Row t.2 sv 1 ((nextI i a).map fun p => [.int .i64 p])
  far : N2 ≤ t.2.next
  rest : ∃ (h : List Int) (w : List Nat), Ck Hb ls s c t.2 hs ∧ OwnI (Hb.next + 1) t.2 hs h ∧ OwnI (Hb.next + 1) t.2 (t.1 3) (w.map fun n => ((n : Nat) : Int)) ∧ (∀ b, At (t.1 3) b → (b < N1 ∨ N2 ≤ b) ∧ ¬ At hs b) ∧
    Way l c h w (fun b => b = a) ∧ h[a]? = some x ∧ 2 * negs h + w.length ≤ bud ∧ ∀ j', j' < j → ∀ p, (nextI i a)[j']? = some p → ∃ q : Nat, p = q ∧ h[q]? = some (x - tk l i + lv l i)
end
end Go.Proofs.YthiflgncldmkjaaDoor
/- The checker's heights: the loops. -/
set_option linter.unusedVariables false
set_option linter.unusedSimpArgs false
set_option maxRecDepth 100000
namespace Go.Proofs.YthiflgncldmkjaaDoor
open Go.Ri

section
variable {Hb : AH} {ls s : AV} {l : List Code} {c : Code}
theorem okAt_range {i : Ins} {x : Int} (hm : mayI l c i = true) (ho : okAt l i x) : 0 ≤ x - tk l i ∧ x - tk l i ≤ 4096 ∧ 0 ≤ x - tk l i + lv l i ∧ x - tk l i + lv l i ≤ 4098 := by
  have h1 := tk_nonneg hm
  have h2 := lv_nonneg l i
  have h3 := lv_le l i
  obtain ⟨a, b, _⟩ := ho
  omega
theorem wrapR {x : Int} (h : -1000000 ≤ x ∧ x ≤ 1000000) : IntKind.i64.wrap x = x := wrap_id (by unfold InI; omega)

/-- How the inner loop ends. -/
def E1 (Hb : AH) (ls s : AV) (l : List Code) (c : Code) (i : Ins) (a : Nat) (x : Int) (N1 N2 : Nat) (sv hs : AV) (bud : Nat) (r : Ex × St) : Prop :=
  (r.1 = .exit 4 ∧ I1 Hb ls s l c i a x N1 N2 sv hs bud (nextI i a).length r.2) ∨ (r.1 = .ret ∧ r.2.1 2 = .bool false ∧ Ext Hb.next Hb r.2.2 ∧ ¬ ∃ g, Good l c g)
theorem loop1 (d : Nat) (B : Base Hb ls s l c) {i : Ins} (hm : mayI l c i = true) {a : Nat} (hi : c.ins[a]? = some i) {x : Int} (h0x : 0 ≤ x) (ho : okAt l i x) {N1 N2 : Nat} {sv hs : AV} {bud : Nat}
    (hlen : c.ins.length ≤ 65536) (hbud : bud ≤ 200000) (hk1 : Hb.next < N1) (hsv : ∀ b, AtR sv b → N1 ≤ b ∧ b < N2) (hhs : ∀ b, At hs b → b < N1) {T : Tm} {H : AH} (h0 : I1 Hb ls s l c i a x N1 N2 sv hs bud 0 (T, H)) :
    Ret (Ri.iter big (F95_L1 (RT d) (Ri.iter big)) (T, H)) (E1 Hb ls s l c i a x N1 N2 sv hs bud) := by
  have hnl : (nextI i a).length ≤ 2 := by
    unfold nextI
    split
    · simp
    · split
      · simp
      · split <;> simp
  have hrg := okAt_range hm ho
  refine Ret.upTo (n := (nextI i a).length) (I1 Hb ls s l c i a x N1 N2 sv hs bud) (by unfold big; omega) h0 ?_ ?_
  · rintro j ⟨T1, H1⟩ hj ⟨t0, t6, t7, t8, t98, t99, t100, row, far, h, w, hck, hown, hwait, hdis, W, hax, hbd, hdone⟩
    simp only at t0 t6 t7 t8 t98 t99 t100 row far hck hown hwait hdis
    obtain ⟨pb, po, e1, _, e3⟩ := row.at (i := j) (by simpa using hj)
    have e3 := e3 0 (by omega)
    simp only [List.getElem_map, List.getElem?_cons_zero, Nat.add_zero] at e3
    have hpm : (nextI i a)[j] ∈ nextI i a := List.getElem_mem hj
    have hp0 := next_nat hm hpm
    obtain ⟨q, hq⟩ : ∃ q : Nat, (nextI i a)[j] = q := ⟨_, (Int.toNat_of_nonneg hp0).symm⟩
    have hjq : (nextI i a)[j]? = some ((q : Nat) : Int) := by rw [List.getElem?_eq_getElem hj, hq]
    rw [hq] at e3 hpm
    have hcmp : decide (((j : Nat) : Int) < (((nextI i a).length : Nat) : Int)) = true := decide_eq_true (by omega)
    have hal : aLen Tryd.prog 40 hs = some (.int .i64 (h.length : Nat)) := by rw [hown.alen ysl40.under, intsC_len]
    have hwl : w.length ≤ 200000 := by omega
    unfold F95_L1
    by_cases hge : ((q : Nat) : Int) ≥ ((h.length : Nat) : Int)
    · simp -implicitDefEqProofs only [go_sem, Nat.reduceAdd, Nat.reduceMul, Nat.reduceLT, Nat.reduceLeDiff, Nat.reduceEqDiff, Nat.reduceBEq, reduceCtorEq, Int.reduceLT, Int.reduceLE, Int.reduceEq, Int.reduceGT, Int.reduceGE, Int.reduceToNat, Int.reduceNeg, t0, t98, t99, t100, hcmp, e1, e3, hck.blk, hal, decide_eq_true hge]
      refine .mk (.inr ⟨by simp, .inr ⟨rfl, ?_, hck.ext, ?_⟩⟩)
      · simp -implicitDefEqProofs only [go_sem, Nat.reduceAdd, Nat.reduceMul, Nat.reduceLT, Nat.reduceLeDiff, Nat.reduceEqDiff, Nat.reduceBEq, reduceCtorEq, Int.reduceLT, Int.reduceLE, Int.reduceEq, Int.reduceGT, Int.reduceGE, Int.reduceToNat, Int.reduceNeg]
      · refine W.none hi hax h0x (.inr ⟨_, hpm, fun q' e => ⟨0, .inr ?_⟩⟩)
        have := Int.ofNat_inj.1 e
        omega
    · have hql : q < h.length := by omega
      obtain ⟨bh, Bh, ha, hNb, hbn, hBm, hrw, hil, hget, hidx, hset⟩ := hown.cell hck.ext.wf (i := q) (by rw [intsC_len]; exact hql)
      rw [intsC_get, List.getElem?_eq_getElem hql] at hget
      simp only [Option.map_some] at hget
      have hgq : h[q]? = some h[q] := List.getElem?_eq_getElem hql
      have hpos : h[q] = -1 ∨ 0 ≤ h[q] := (W.known q _ hgq).imp id fun h => h.1
      by_cases hneg : h[q] < 0
      · have hq1 : h[q] = -1 := by omega
        rw [hq1] at hgq
        simp -implicitDefEqProofs only [go_sem, Nat.reduceAdd, Nat.reduceMul, Nat.reduceLT, Nat.reduceLeDiff, Nat.reduceEqDiff, Nat.reduceBEq, reduceCtorEq, Int.reduceLT, Int.reduceLE, Int.reduceEq, Int.reduceGT, Int.reduceGE, Int.reduceToNat, Int.reduceNeg, t0, t98, t99, t100, hcmp, e1, e3, hck.blk, hal, decide_eq_false hge, hidx, hBm, hget, decide_eq_true hneg, t6, t7, t8, wrapR (x := x - tk l i) (by omega), wrapR (x := x - tk l i + lv l i) (by omega), hrw, hil]
        -- the store
        have hcells : Bh.cells[q]? = some (.int .i64 h[q]) := hget
        have hown2 := hset (.int .i64 (x - tk l i + lv l i))
        rw [intsC_set] at hown2
        have hbk : Hb.next ≠ bh := by omega
        have hx2 : Ext Hb.next Hb (H1.put bh ⟨Bh.cells.set q (.int .i64 (x - tk l i + lv l i)), Bh.elem, Bh.rw_⟩) := hck.ext.put (by omega) hbn _
        have hnw : ¬ At (T1 3) bh := fun hh => (hdis bh hh).2 ha
        have hwait2 := hwait.put hnw ⟨Bh.cells.set q (.int .i64 (x - tk l i + lv l i)), Bh.elem, Bh.rw_⟩
        rw [hrw] at hown2 hx2 hwait2
        obtain ⟨⟨wv, H2⟩, hap, g1, g2, g3, g4, g5⟩ := OwnI.more (x := ((q : Nat) : Int)) hwait2 (Ext.self hx2.wf (Nat.le_trans hck.lt (Nat.le_refl _))) (by simp; omega)
        simp only at g1 g2 g3 g4 g5
        simp only [put_next] at hap
        have hb2 : H2.m Hb.next = some ⟨[ls, s, .int .i64 c.cells, .int .i64 c.params, .bool c.answers, hs], 100, true⟩ := by
          rw [g2.low _ (Nat.lt_succ_self _)]
          simp only [put_m, if_neg hbk]
          exact hck.blk
        have hx3 : Ext Hb.next Hb H2 := hx2.trans (g2.less (Nat.le_succ _)) (Nat.le_refl _)
        have hhs2 : OwnI (Hb.next + 1) H2 hs (h.set q (x - tk l i + lv l i)) := hown2.to fun b hb => g4 b (by rw [hb.one ha]; exact hbn) fun hh => (hdis b hh).2 hb
        have hW2 := W.put hi hax h0x ho hpm hgq
        have hng := negs_set hgq hrg.2.2.1
        have haq : a ≠ q := by
          rintro rfl
          rw [hax] at hgq
          cases hgq
          omega
        simp -implicitDefEqProofs only [go_sem, Nat.reduceAdd, Nat.reduceMul, Nat.reduceLT, Nat.reduceLeDiff, Nat.reduceEqDiff, Nat.reduceBEq, reduceCtorEq, Int.reduceLT, Int.reduceLE, Int.reduceEq, Int.reduceGT, Int.reduceGE, Int.reduceToNat, Int.reduceNeg, hap, F95_J0, t100, wrapS (i := j) (by omega)]
        refine .mk (.inl ⟨rfl, ⟨?_, ?_, ?_, ?_, ?_, ?_, ?_, ?_, ?_, h.set q (x - tk l i + lv l i), w ++ [q], ⟨hx3, hb2⟩, hhs2, ?_, ?_, hW2, ?_, ?_, ?_⟩⟩)
        · simp -implicitDefEqProofs only [go_sem, Nat.reduceAdd, Nat.reduceMul, Nat.reduceLT, Nat.reduceLeDiff, Nat.reduceEqDiff, Nat.reduceBEq, reduceCtorEq, Int.reduceLT, Int.reduceLE, Int.reduceEq, Int.reduceGT, Int.reduceGE, Int.reduceToNat, Int.reduceNeg, t0]
        · simp -implicitDefEqProofs only [go_sem, Nat.reduceAdd, Nat.reduceMul, Nat.reduceLT, Nat.reduceLeDiff, Nat.reduceEqDiff, Nat.reduceBEq, reduceCtorEq, Int.reduceLT, Int.reduceLE, Int.reduceEq, Int.reduceGT, Int.reduceGE, Int.reduceToNat, Int.reduceNeg, t6]
        · simp -implicitDefEqProofs only [go_sem, Nat.reduceAdd, Nat.reduceMul, Nat.reduceLT, Nat.reduceLeDiff, Nat.reduceEqDiff, Nat.reduceBEq, reduceCtorEq, Int.reduceLT, Int.reduceLE, Int.reduceEq, Int.reduceGT, Int.reduceGE, Int.reduceToNat, Int.reduceNeg, t7]
        · simp -implicitDefEqProofs only [go_sem, Nat.reduceAdd, Nat.reduceMul, Nat.reduceLT, Nat.reduceLeDiff, Nat.reduceEqDiff, Nat.reduceBEq, reduceCtorEq, Int.reduceLT, Int.reduceLE, Int.reduceEq, Int.reduceGT, Int.reduceGE, Int.reduceToNat, Int.reduceNeg, t8]
        · simp -implicitDefEqProofs only [go_sem, Nat.reduceAdd, Nat.reduceMul, Nat.reduceLT, Nat.reduceLeDiff, Nat.reduceEqDiff, Nat.reduceBEq, reduceCtorEq, Int.reduceLT, Int.reduceLE, Int.reduceEq, Int.reduceGT, Int.reduceGE, Int.reduceToNat, Int.reduceNeg, t98]
        · simp -implicitDefEqProofs only [go_sem, Nat.reduceAdd, Nat.reduceMul, Nat.reduceLT, Nat.reduceLeDiff, Nat.reduceEqDiff, Nat.reduceBEq, reduceCtorEq, Int.reduceLT, Int.reduceLE, Int.reduceEq, Int.reduceGT, Int.reduceGE, Int.reduceToNat, Int.reduceNeg, t99]
        · simp -implicitDefEqProofs only [go_sem, Nat.reduceAdd, Nat.reduceMul, Nat.reduceLT, Nat.reduceLeDiff, Nat.reduceEqDiff, Nat.reduceBEq, reduceCtorEq, Int.reduceLT, Int.reduceLE, Int.reduceEq, Int.reduceGT, Int.reduceGE, Int.reduceToNat, Int.reduceNeg]
        · refine row.keep fun b hb => ?_
          obtain ⟨k1, k2⟩ := hsv b hb
          have hbb : b ≠ bh := by have := hhs bh ha; omega
          rw [g4 b (by simp only [put_next]; omega) fun hh => by have := (hdis b hh).1; omega]
          simp [hbb]
        · simp only [put_next] at g3
          exact Nat.le_trans far (Nat.le_of_lt g3)
        · simp -implicitDefEqProofs only [go_sem, Nat.reduceAdd, Nat.reduceMul, Nat.reduceLT, Nat.reduceLeDiff, Nat.reduceEqDiff, Nat.reduceBEq, reduceCtorEq, Int.reduceLT, Int.reduceLE, Int.reduceEq, Int.reduceGT, Int.reduceGE, Int.reduceToNat, Int.reduceNeg]
          simpa using g1
        · simp -implicitDefEqProofs only [go_sem, Nat.reduceAdd, Nat.reduceMul, Nat.reduceLT, Nat.reduceLeDiff, Nat.reduceEqDiff, Nat.reduceBEq, reduceCtorEq, Int.reduceLT, Int.reduceLE, Int.reduceEq, Int.reduceGT, Int.reduceGE, Int.reduceToNat, Int.reduceNeg]
          intro b hb
          rcases g5 b hb with hh | hh
          · exact hdis b hh
          · simp only [put_next] at hh
            refine ⟨.inr (by omega), fun hh' => ?_⟩
            have := hh'.one ha
            omega
        · rw [List.getElem?_set_ne (Ne.symm haq)]
          exact hax
        · simp
          omega
        · intro j' hj' p hp
          by_cases hjj : j' = j
          · subst hjj
            rw [hjq] at hp
            cases hp
            exact ⟨q, rfl, List.getElem?_set_self hql⟩
          · obtain ⟨r, e, hr⟩ := hdone j' (by omega) p hp
            refine ⟨r, e, ?_⟩
            have : q ≠ r := by
              rintro rfl
              rw [hgq] at hr
              have := Option.some.inj hr
              omega
            rw [List.getElem?_set_ne this]
            exact hr
      · have hnn : 0 ≤ h[q] := by omega
        by_cases heq : h[q] = x - tk l i + lv l i
        · simp -implicitDefEqProofs only [go_sem, Nat.reduceAdd, Nat.reduceMul, Nat.reduceLT, Nat.reduceLeDiff, Nat.reduceEqDiff, Nat.reduceBEq, reduceCtorEq, Int.reduceLT, Int.reduceLE, Int.reduceEq, Int.reduceGT, Int.reduceGE, Int.reduceToNat, Int.reduceNeg, t0, t98, t99, t100, hcmp, e1, e3, hck.blk, hal, decide_eq_false hge, hidx, hBm, hget, decide_eq_false hneg, t6, t7, t8, wrapR (x := x - tk l i) (by omega), wrapR (x := x - tk l i + lv l i) (by omega), decide_eq_true heq, F95_J0, wrapS (i := j) (by omega)]
          refine .mk (.inl ⟨rfl, ⟨?_, ?_, ?_, ?_, ?_, ?_, ?_, row, far, h, w, hck, hown, ?_, ?_, W, hax, hbd, ?_⟩⟩)
          · simp -implicitDefEqProofs only [go_sem, Nat.reduceAdd, Nat.reduceMul, Nat.reduceLT, Nat.reduceLeDiff, Nat.reduceEqDiff, Nat.reduceBEq, reduceCtorEq, Int.reduceLT, Int.reduceLE, Int.reduceEq, Int.reduceGT, Int.reduceGE, Int.reduceToNat, Int.reduceNeg, t0]
          · simp -implicitDefEqProofs only [go_sem, Nat.reduceAdd, Nat.reduceMul, Nat.reduceLT, Nat.reduceLeDiff, Nat.reduceEqDiff, Nat.reduceBEq, reduceCtorEq, Int.reduceLT, Int.reduceLE, Int.reduceEq, Int.reduceGT, Int.reduceGE, Int.reduceToNat, Int.reduceNeg, t6]
          · simp -implicitDefEqProofs only [go_sem, Nat.reduceAdd, Nat.reduceMul, Nat.reduceLT, Nat.reduceLeDiff, Nat.reduceEqDiff, Nat.reduceBEq, reduceCtorEq, Int.reduceLT, Int.reduceLE, Int.reduceEq, Int.reduceGT, Int.reduceGE, Int.reduceToNat, Int.reduceNeg, t7]
          · simp -implicitDefEqProofs only [go_sem, Nat.reduceAdd, Nat.reduceMul, Nat.reduceLT, Nat.reduceLeDiff, Nat.reduceEqDiff, Nat.reduceBEq, reduceCtorEq, Int.reduceLT, Int.reduceLE, Int.reduceEq, Int.reduceGT, Int.reduceGE, Int.reduceToNat, Int.reduceNeg, t8]
          · simp -implicitDefEqProofs only [go_sem, Nat.reduceAdd, Nat.reduceMul, Nat.reduceLT, Nat.reduceLeDiff, Nat.reduceEqDiff, Nat.reduceBEq, reduceCtorEq, Int.reduceLT, Int.reduceLE, Int.reduceEq, Int.reduceGT, Int.reduceGE, Int.reduceToNat, Int.reduceNeg, t98]
          · simp -implicitDefEqProofs only [go_sem, Nat.reduceAdd, Nat.reduceMul, Nat.reduceLT, Nat.reduceLeDiff, Nat.reduceEqDiff, Nat.reduceBEq, reduceCtorEq, Int.reduceLT, Int.reduceLE, Int.reduceEq, Int.reduceGT, Int.reduceGE, Int.reduceToNat, Int.reduceNeg, t99]
          · simp -implicitDefEqProofs only [go_sem, Nat.reduceAdd, Nat.reduceMul, Nat.reduceLT, Nat.reduceLeDiff, Nat.reduceEqDiff, Nat.reduceBEq, reduceCtorEq, Int.reduceLT, Int.reduceLE, Int.reduceEq, Int.reduceGT, Int.reduceGE, Int.reduceToNat, Int.reduceNeg]
          · simp -implicitDefEqProofs only [go_sem, Nat.reduceAdd, Nat.reduceMul, Nat.reduceLT, Nat.reduceLeDiff, Nat.reduceEqDiff, Nat.reduceBEq, reduceCtorEq, Int.reduceLT, Int.reduceLE, Int.reduceEq, Int.reduceGT, Int.reduceGE, Int.reduceToNat, Int.reduceNeg]
            exact hwait
          · simp -implicitDefEqProofs only [go_sem, Nat.reduceAdd, Nat.reduceMul, Nat.reduceLT, Nat.reduceLeDiff, Nat.reduceEqDiff, Nat.reduceBEq, reduceCtorEq, Int.reduceLT, Int.reduceLE, Int.reduceEq, Int.reduceGT, Int.reduceGE, Int.reduceToNat, Int.reduceNeg]
            exact hdis
          · intro j' hj' p hp
            by_cases hjj : j' = j
            · subst hjj
              rw [hjq] at hp
              cases hp
              exact ⟨q, rfl, by rw [hgq, heq]⟩
            · exact hdone j' (by omega) p hp
        · simp -implicitDefEqProofs only [go_sem, Nat.reduceAdd, Nat.reduceMul, Nat.reduceLT, Nat.reduceLeDiff, Nat.reduceEqDiff, Nat.reduceBEq, reduceCtorEq, Int.reduceLT, Int.reduceLE, Int.reduceEq, Int.reduceGT, Int.reduceGE, Int.reduceToNat, Int.reduceNeg, t0, t98, t99, t100, hcmp, e1, e3, hck.blk, hal, decide_eq_false hge, hidx, hBm, hget, decide_eq_false hneg, t6, t7, t8, wrapR (x := x - tk l i) (by omega), wrapR (x := x - tk l i + lv l i) (by omega), decide_eq_false heq]
          refine .mk (.inr ⟨by simp, .inr ⟨rfl, ?_, hck.ext, ?_⟩⟩)
          · simp -implicitDefEqProofs only [go_sem, Nat.reduceAdd, Nat.reduceMul, Nat.reduceLT, Nat.reduceLeDiff, Nat.reduceEqDiff, Nat.reduceBEq, reduceCtorEq, Int.reduceLT, Int.reduceLE, Int.reduceEq, Int.reduceGT, Int.reduceGE, Int.reduceToNat, Int.reduceNeg]
          · refine W.none hi hax h0x (.inr ⟨_, hpm, fun q' e => ⟨h[q], .inl ?_⟩⟩)
            have := Int.ofNat_inj.1 e
            subst this
            exact ⟨hgq, by omega, heq⟩
  · rintro ⟨T1, H1⟩ ⟨t0, t6, t7, t8, t98, t99, t100, row, far, h, w, hck, hown, hwait, hdis, W, hax, hbd, hdone⟩
    simp only at t0 t6 t7 t8 t98 t99 t100 row far hck hown hwait hdis
    have hcmp : decide ((((nextI i a).length : Nat) : Int) < (((nextI i a).length : Nat) : Int)) = false := decide_eq_false (by omega)
    unfold F95_L1
    simp -implicitDefEqProofs only [go_sem, Nat.reduceAdd, Nat.reduceMul, Nat.reduceLT, Nat.reduceLeDiff, Nat.reduceEqDiff, Nat.reduceBEq, reduceCtorEq, Int.reduceLT, Int.reduceLE, Int.reduceEq, Int.reduceGT, Int.reduceGE, Int.reduceToNat, Int.reduceNeg, t99, t100, hcmp]
    refine .mk ⟨by simp, .inl ⟨rfl, ⟨?_, ?_, ?_, ?_, ?_, ?_, ?_, row, far, h, w, hck, hown, ?_, ?_, W, hax, hbd, hdone⟩⟩⟩
    · simp -implicitDefEqProofs only [go_sem, Nat.reduceAdd, Nat.reduceMul, Nat.reduceLT, Nat.reduceLeDiff, Nat.reduceEqDiff, Nat.reduceBEq, reduceCtorEq, Int.reduceLT, Int.reduceLE, Int.reduceEq, Int.reduceGT, Int.reduceGE, Int.reduceToNat, Int.reduceNeg, t0]
    · simp -implicitDefEqProofs only [go_sem, Nat.reduceAdd, Nat.reduceMul, Nat.reduceLT, Nat.reduceLeDiff, Nat.reduceEqDiff, Nat.reduceBEq, reduceCtorEq, Int.reduceLT, Int.reduceLE, Int.reduceEq, Int.reduceGT, Int.reduceGE, Int.reduceToNat, Int.reduceNeg, t6]
    · simp -implicitDefEqProofs only [go_sem, Nat.reduceAdd, Nat.reduceMul, Nat.reduceLT, Nat.reduceLeDiff, Nat.reduceEqDiff, Nat.reduceBEq, reduceCtorEq, Int.reduceLT, Int.reduceLE, Int.reduceEq, Int.reduceGT, Int.reduceGE, Int.reduceToNat, Int.reduceNeg, t7]
    · simp -implicitDefEqProofs only [go_sem, Nat.reduceAdd, Nat.reduceMul, Nat.reduceLT, Nat.reduceLeDiff, Nat.reduceEqDiff, Nat.reduceBEq, reduceCtorEq, Int.reduceLT, Int.reduceLE, Int.reduceEq, Int.reduceGT, Int.reduceGE, Int.reduceToNat, Int.reduceNeg, t8]
    · simp -implicitDefEqProofs only [go_sem, Nat.reduceAdd, Nat.reduceMul, Nat.reduceLT, Nat.reduceLeDiff, Nat.reduceEqDiff, Nat.reduceBEq, reduceCtorEq, Int.reduceLT, Int.reduceLE, Int.reduceEq, Int.reduceGT, Int.reduceGE, Int.reduceToNat, Int.reduceNeg, t98]
    · simp -implicitDefEqProofs only [go_sem, Nat.reduceAdd, Nat.reduceMul, Nat.reduceLT, Nat.reduceLeDiff, Nat.reduceEqDiff, Nat.reduceBEq, reduceCtorEq, Int.reduceLT, Int.reduceLE, Int.reduceEq, Int.reduceGT, Int.reduceGE, Int.reduceToNat, Int.reduceNeg, t99]
    · simp -implicitDefEqProofs only [go_sem, Nat.reduceAdd, Nat.reduceMul, Nat.reduceLT, Nat.reduceLeDiff, Nat.reduceEqDiff, Nat.reduceBEq, reduceCtorEq, Int.reduceLT, Int.reduceLE, Int.reduceEq, Int.reduceGT, Int.reduceGE, Int.reduceToNat, Int.reduceNeg, t100]
    · simp -implicitDefEqProofs only [go_sem, Nat.reduceAdd, Nat.reduceMul, Nat.reduceLT, Nat.reduceLeDiff, Nat.reduceEqDiff, Nat.reduceBEq, reduceCtorEq, Int.reduceLT, Int.reduceLE, Int.reduceEq, Int.reduceGT, Int.reduceGE, Int.reduceToNat, Int.reduceNeg]
      exact hwait
    · simp -implicitDefEqProofs only [go_sem, Nat.reduceAdd, Nat.reduceMul, Nat.reduceLT, Nat.reduceLeDiff, Nat.reduceEqDiff, Nat.reduceBEq, reduceCtorEq, Int.reduceLT, Int.reduceLE, Int.reduceEq, Int.reduceGT, Int.reduceGE, Int.reduceToNat, Int.reduceNeg]
      exact hdis

/-- The outer loop: places that wait. -/
structure I2 (Hb : AH) (ls s : AV) (l : List Code) (c : Code) (f : Nat) (t : St) : Prop where
  t0 : t.1 0 = .ptr (some (Hb.next, 0))
  rest : ∃ (hs : AV) (h : List Int) (w : List Nat), Ck Hb ls s c t.2 hs ∧ OwnI (Hb.next + 1) t.2 hs h ∧ OwnI (Hb.next + 1) t.2 (t.1 3) (w.map fun n => ((n : Nat) : Int)) ∧ (∀ b, At (t.1 3) b → ¬ At hs b) ∧
    Way l c h w (fun _ => False) ∧ 2 * negs h + w.length < f ∧ f ≤ 200000
def E2 (Hb : AH) (ls s : AV) (l : List Code) (c : Code) (r : Ex × St) : Prop :=
  (r.1 = .exit 2 ∧ ∃ hs h, Ck Hb ls s c r.2.2 hs ∧ OwnI (Hb.next + 1) r.2.2 hs h ∧ Good l c h) ∨ (r.1 = .ret ∧ r.2.1 2 = .bool false ∧ Ext Hb.next Hb r.2.2 ∧ ¬ ∃ g, Good l c g)
set_option maxHeartbeats 4000000 in
theorem round2 (d : Nat) (B : Base Hb ls s l c) (hmay : ∀ i ∈ c.ins, mayI l c i = true) (hlen : c.ins.length ≤ 65536) (f : Nat) (t : St) (hI : I2 Hb ls s l c (f + 1) t) :
    Ret (F95_L2 (RT (d + 1)) (Ri.iter big) t) fun r => (r.1 = .normal ∧ I2 Hb ls s l c f r.2) ∨ (r.1 ≠ .normal ∧ E2 Hb ls s l c r) := by
  obtain ⟨T, H⟩ := t
  obtain ⟨t0, hs, h, w, hck, hown, hwait, hdis, W, hbd, hf⟩ := hI
  simp only at t0 hck hown hwait hdis
  have hwl : aLen Tryd.prog 40 (T 3) = some (.int .i64 (w.length : Nat)) := by rw [hwait.alen ysl40.under, intsC_len, List.length_map]
  unfold F95_L2
  rcases List.eq_nil_or_concat w with rfl | ⟨w', a, rfl⟩
  · simp -implicitDefEqProofs only [go_sem, Nat.reduceAdd, Nat.reduceMul, Nat.reduceLT, Nat.reduceLeDiff, Nat.reduceEqDiff, Nat.reduceBEq, reduceCtorEq, Int.reduceLT, Int.reduceLE, Int.reduceEq, Int.reduceGT, Int.reduceGE, Int.reduceToNat, Int.reduceNeg, hwl]
    exact .mk (.inr ⟨by simp, .inl ⟨rfl, hs, h, hck, hown, W.good⟩⟩)
  · rw [List.concat_eq_append] at *
    have hwl' : aLen Tryd.prog 40 (T 3) = some (.int .i64 ((w'.length + 1 : Nat) : Int)) := by rw [hwl]; simp
    obtain ⟨x, hax, h0x⟩ := W.wait a (by simp)
    have halt : a < c.ins.length := by rw [← W.len]; exact (List.getElem?_eq_some_iff.1 hax).1
    obtain ⟨i, hi⟩ : ∃ i, c.ins[a]? = some i := ⟨_, List.getElem?_eq_getElem halt⟩
    have him : i ∈ c.ins := List.mem_of_getElem? hi
    have hm := hmay i him
    have hpos : decide (((w'.length + 1 : Nat) : Int) > 0) = true := decide_eq_true (by omega)
    have hsub1 : IntKind.i64.wrap (((w'.length + 1 : Nat) : Int) - 1) = ((w'.length : Nat) : Int) := by
      simp only [List.length_append, List.length_cons, List.length_nil] at hbd
      rw [wrapR (by omega)]
      omega
    obtain ⟨bw, Bw, haw, hNw, hbwn, hBwm, _, _, hgw, hidw, _⟩ := hwait.cell hck.ext.wf (i := w'.length) (by rw [intsC_len]; simp)
    have hwa : ((w' ++ [a]).map fun n => ((n : Nat) : Int))[w'.length]? = some ((a : Nat) : Int) := by simp
    rw [intsC_get, hwa] at hgw
    simp only [Option.map_some] at hgw
    obtain ⟨s', hcut, hwait', hat'⟩ := hwait.cut (n := w'.length + 1) (j := w'.length) (by rw [intsC_len]; simp) (by omega) (by omega) .i64
    have hwait2 : OwnI (Hb.next + 1) H s' (w'.map fun n => ((n : Nat) : Int)) := by
      have : (intsC ((w' ++ [a]).map fun n => ((n : Nat) : Int))).take (w'.length * 1) = intsC (w'.map fun n => ((n : Nat) : Int)) := by
        rw [Nat.mul_one, List.map_append]
        simp only [intsC, List.map_append]
        rw [List.take_append_of_le_length (by simp), List.take_of_length_le (by simp)]
      rw [this] at hwait'
      exact hwait'
    obtain ⟨bh, Bh, hah, hNh, hbhn, hBhm, hrwh, hilh, hgh, hidh, _⟩ := hown.cell hck.ext.wf (i := a) (by rw [intsC_len, W.len]; exact halt)
    rw [intsC_get, hax] at hgh
    simp only [Option.map_some] at hgh
    have hins := (hck.chk B).ins
    obtain ⟨pb, po, e1, e2, _⟩ := hins.1.at (i := a) (by simpa using halt)
    simp only [List.getElem_map] at e2
    have hig : c.ins[a] = i := by rw [List.getElem?_eq_getElem halt] at hi; exact Option.some.inj hi
    rw [hig] at e2
    have hin : insC i = [.int .i64 i.op, .int .i64 i.n, .int .i64 i.m] := rfl
    have hbh : ¬ bh = H.next := by omega
    have hkn : ¬ Hb.next = H.next := Nat.ne_of_lt hck.lt
    have e2r : ldAgg (.ptr (some (pb, po))) 3 (H.res 1) = some (.agg (insC i)) := e2
    -- the heaps
    have hx1 : Ext Hb.next Hb (H.new (insC i) 29) := hck.ext.new _ _
    have hck1 : Ck Hb ls s c (H.new (insC i) 29) hs := ⟨hx1, by simp [hkn, hck.blk]⟩
    have hmv := moves_spec d hx1.wf (hck1.tabs B) (hck1.chk B) hm
    have hx2 : Ext Hb.next Hb ((H.new (insC i) 29).new (insC i) 29) := hx1.new _ _
    have hkn2 : ¬ Hb.next = H.next + 1 := by have := hck.lt; omega
    have hck2 : Ck Hb ls s c ((H.new (insC i) 29).new (insC i) 29) hs := ⟨hx2, by simp [hkn, hkn2, hck.blk]⟩
    obtain ⟨⟨sv, H3⟩, h118, hrow3, hx3, hat3⟩ := next_spec d hx2.wf i (a := a) (by omega)
    simp only at hrow3 hx3 hat3
    have hal3 : aLen Tryd.prog 40 sv = some (.int .i64 ((nextI i a).length : Nat)) := by rw [hrow3.alen ysl40.under, List.length_map]
    have hck3 : Ck Hb ls s c H3 hs := ⟨hx2.trans hx3 (by simp only [new_next]; have := hck.lt; omega), by rw [hx3.low _ (by simp only [new_next]; have := hck.lt; omega)]; exact hck2.blk⟩
    have old : ∀ b, b < H.next → H3.m b = H.m b := fun b hb => by
      rw [hx3.low b (by simp only [new_next]; omega)]
      have h1 : ¬ b = H.next := by omega
      have h2 : ¬ b = H.next + 1 := by omega
      simp [h1, h2]
    have hlow : ∀ b, At hs b → b < H.next := fun b hb => by
      obtain ⟨B', h1, _⟩ := hown.at hb
      exact hck.ext.wf _ _ h1
    have hloww : ∀ b, At s' b → b < H.next := fun b hb => by
      obtain ⟨B', h1, _⟩ := hwait2.at hb
      exact hck.ext.wf _ _ h1
    have bad : ¬ okAt l i x → ¬ ∃ g, Good l c g := fun hb => W.none hi hax h0x (.inl hb)
    have hneg2 : 2 * negs h + w'.length < f := by
      simp only [List.length_append, List.length_cons, List.length_nil] at hbd
      omega
    have tail : okAt l i x → ∀ T' : Tm, T' 0 = .ptr (some (Hb.next, 0)) → T' 3 = s' → T' 6 = .int .i64 x → T' 7 = .int .i64 (tk l i) → T' 8 = .int .i64 (lv l i) → T' 98 = sv → T' 99 = .int .i64 ((nextI i a).length : Nat) → T' 100 = .int .i64 0 →
        Ret ((Ri.iter big (F95_L1 (RT (d + 1)) (Ri.iter big)) (T', H3)).bind fun r104 => match r104.1 with
          | .normal => none
          | .exit j105 => if j105 = 4 then
            (some (.normal, r104.2.1, r104.2.2))
            else
            (if j105 = 3 then
            (some (.normal, r104.2.1, r104.2.2))
            else
            (some (.exit j105, r104.2.1, r104.2.2)))
          | .ret => some (.ret, r104.2.1, r104.2.2)) fun r => (r.1 = .normal ∧ I2 Hb ls s l c f r.2) ∨ (r.1 ≠ .normal ∧ E2 Hb ls s l c r) := by
      intro ho T' a0 a3 a6 a7 a8 a98 a99 a100
      refine Ret.then (loop1 (d + 1) B hm hi h0x ho (N1 := H.next) (N2 := H3.next) (sv := sv) (hs := hs) (bud := 2 * negs h + w'.length) hlen (by omega) hck.lt (fun b ⟨o, n, cc, e⟩ => ?_) hlow
        ⟨a0, a6, a7, a8, a98, a99, a100, hrow3, Nat.le_refl _, h, w', hck3, hown.to fun b hb => old b (hlow b hb), ?_, fun b hb => ?_, W.take, hax, Nat.le_refl _, fun j' hj' => absurd hj' (Nat.not_lt_zero _)⟩) ?_
      · have := hat3 b o n cc e
        simp only [new_next] at this
        omega
      · simp only [a3]
        exact hwait2.to fun b hb => old b (hloww b hb)
      · simp only [a3] at hb
        exact ⟨.inl (hloww b hb), hdis b (hat' b hb)⟩
      · rintro ⟨e, T4, H4⟩ (⟨rfl, q⟩ | ⟨rfl, q1, q2, q3⟩)
        · obtain ⟨b0, _, _, _, _, _, _, _, _, h4, w4, k1, k2, k3, k4, k5, k6, k7, k8⟩ := q
          simp only at b0 k1 k2 k3 k4
          simp only [if_true]
          refine .mk (.inl ⟨rfl, b0, hs, h4, w4, k1, k2, k3, fun b hb => (k4 b hb).2, k5.close hi k6 ⟨ho, fun p hp => ?_⟩, by omega, by omega⟩)
          obtain ⟨j, hj⟩ := List.mem_iff_getElem?.1 hp
          exact k8 j (List.getElem?_eq_some_iff.1 hj).1 p hj
        · exact .mk (.inr ⟨by simp, .inr ⟨rfl, q1, q2, q3⟩⟩)
    rw [hin] at e2r hmv h118 hx2
    have done : ∀ T' : Tm, T' 2 = .bool false → ¬ okAt l i x → Ret (some (Ex.ret, T', (H.new [.int .i64 i.op, .int .i64 i.n, .int .i64 i.m] 29).new [.int .i64 i.op, .int .i64 i.n, .int .i64 i.m] 29)) fun r => (r.1 = .normal ∧ I2 Hb ls s l c f r.2) ∨ (r.1 ≠ .normal ∧ E2 Hb ls s l c r) :=
      fun T' h2 hb => .mk (.inr ⟨by simp, .inr ⟨rfl, h2, hx2, bad hb⟩⟩)
    have hn1 : ¬ H.next = H.next + 1 := by omega
    by_cases q1 : x < tk l i
    · simp -implicitDefEqProofs only [go_sem, Nat.reduceAdd, Nat.reduceMul, Nat.reduceLT, Nat.reduceLeDiff, Nat.reduceEqDiff, Nat.reduceBEq, reduceCtorEq, Int.reduceLT, Int.reduceLE, Int.reduceEq, Int.reduceGT, Int.reduceGE, Int.reduceToNat, Int.reduceNeg, t0, hwl', hpos, hsub1, hidw, hBwm, hgw, hcut, hck.blk, e1, e2r, hidh, hBhm, hgh, res_new, hbh, hkn, hmv, decide_eq_true q1]
      exact done _ (by simp -implicitDefEqProofs only [go_sem, Nat.reduceAdd, Nat.reduceMul, Nat.reduceLT, Nat.reduceLeDiff, Nat.reduceEqDiff, Nat.reduceBEq, reduceCtorEq, Int.reduceLT, Int.reduceLE, Int.reduceEq, Int.reduceGT, Int.reduceGE, Int.reduceToNat, Int.reduceNeg]) fun h => by have := h.1; omega
    by_cases q2 : x > 4096
    · simp -implicitDefEqProofs only [go_sem, Nat.reduceAdd, Nat.reduceMul, Nat.reduceLT, Nat.reduceLeDiff, Nat.reduceEqDiff, Nat.reduceBEq, reduceCtorEq, Int.reduceLT, Int.reduceLE, Int.reduceEq, Int.reduceGT, Int.reduceGE, Int.reduceToNat, Int.reduceNeg, t0, hwl', hpos, hsub1, hidw, hBwm, hgw, hcut, hck.blk, e1, e2r, hidh, hBhm, hgh, res_new, hbh, hkn, hmv, decide_eq_false q1, decide_eq_true q2]
      exact done _ (by simp -implicitDefEqProofs only [go_sem, Nat.reduceAdd, Nat.reduceMul, Nat.reduceLT, Nat.reduceLeDiff, Nat.reduceEqDiff, Nat.reduceBEq, reduceCtorEq, Int.reduceLT, Int.reduceLE, Int.reduceEq, Int.reduceGT, Int.reduceGE, Int.reduceToNat, Int.reduceNeg]) fun h => by have := h.2.1; omega
    by_cases q20 : i.op = 20
    · have q24 : ¬ i.op = 24 := by omega
      by_cases q3 : x = tk l i
      · simp -implicitDefEqProofs only [go_sem, Nat.reduceAdd, Nat.reduceMul, Nat.reduceLT, Nat.reduceLeDiff, Nat.reduceEqDiff, Nat.reduceBEq, reduceCtorEq, Int.reduceLT, Int.reduceLE, Int.reduceEq, Int.reduceGT, Int.reduceGE, Int.reduceToNat, Int.reduceNeg, t0, hwl', hpos, hsub1, hidw, hBwm, hgw, hcut, hck.blk, e1, e2r, hidh, hBhm, hgh, res_new, hbh, hkn, hmv, decide_eq_false q1, decide_eq_false q2, decide_eq_true q20, decide_eq_true q3, decide_eq_false q24, hn1, h118, hal3]
        refine tail ⟨by omega, by omega, fun _ => q3, fun h => absurd h q24⟩ _ ?_ ?_ ?_ ?_ ?_ ?_ ?_ ?_ <;> simp -implicitDefEqProofs only [go_sem, Nat.reduceAdd, Nat.reduceMul, Nat.reduceLT, Nat.reduceLeDiff, Nat.reduceEqDiff, Nat.reduceBEq, reduceCtorEq, Int.reduceLT, Int.reduceLE, Int.reduceEq, Int.reduceGT, Int.reduceGE, Int.reduceToNat, Int.reduceNeg, t0]
      · simp -implicitDefEqProofs only [go_sem, Nat.reduceAdd, Nat.reduceMul, Nat.reduceLT, Nat.reduceLeDiff, Nat.reduceEqDiff, Nat.reduceBEq, reduceCtorEq, Int.reduceLT, Int.reduceLE, Int.reduceEq, Int.reduceGT, Int.reduceGE, Int.reduceToNat, Int.reduceNeg, t0, hwl', hpos, hsub1, hidw, hBwm, hgw, hcut, hck.blk, e1, e2r, hidh, hBhm, hgh, res_new, hbh, hkn, hmv, decide_eq_false q1, decide_eq_false q2, decide_eq_true q20, decide_eq_false q3, hn1]
        exact done _ (by simp -implicitDefEqProofs only [go_sem, Nat.reduceAdd, Nat.reduceMul, Nat.reduceLT, Nat.reduceLeDiff, Nat.reduceEqDiff, Nat.reduceBEq, reduceCtorEq, Int.reduceLT, Int.reduceLE, Int.reduceEq, Int.reduceGT, Int.reduceGE, Int.reduceToNat, Int.reduceNeg]) fun h => q3 (h.2.2.1 q20)
    by_cases q24 : i.op = 24
    · by_cases q4 : x = 0
      · simp -implicitDefEqProofs only [go_sem, Nat.reduceAdd, Nat.reduceMul, Nat.reduceLT, Nat.reduceLeDiff, Nat.reduceEqDiff, Nat.reduceBEq, reduceCtorEq, Int.reduceLT, Int.reduceLE, Int.reduceEq, Int.reduceGT, Int.reduceGE, Int.reduceToNat, Int.reduceNeg, t0, hwl', hpos, hsub1, hidw, hBwm, hgw, hcut, hck.blk, e1, e2r, hidh, hBhm, hgh, res_new, hbh, hkn, hmv, decide_eq_false q1, decide_eq_false q2, decide_eq_false q20, decide_eq_true q24, decide_eq_true q4, hn1, h118, hal3]
        refine tail ⟨by omega, by omega, fun h => absurd h q20, fun _ => q4⟩ _ ?_ ?_ ?_ ?_ ?_ ?_ ?_ ?_ <;> simp -implicitDefEqProofs only [go_sem, Nat.reduceAdd, Nat.reduceMul, Nat.reduceLT, Nat.reduceLeDiff, Nat.reduceEqDiff, Nat.reduceBEq, reduceCtorEq, Int.reduceLT, Int.reduceLE, Int.reduceEq, Int.reduceGT, Int.reduceGE, Int.reduceToNat, Int.reduceNeg, t0]
      · simp -implicitDefEqProofs only [go_sem, Nat.reduceAdd, Nat.reduceMul, Nat.reduceLT, Nat.reduceLeDiff, Nat.reduceEqDiff, Nat.reduceBEq, reduceCtorEq, Int.reduceLT, Int.reduceLE, Int.reduceEq, Int.reduceGT, Int.reduceGE, Int.reduceToNat, Int.reduceNeg, t0, hwl', hpos, hsub1, hidw, hBwm, hgw, hcut, hck.blk, e1, e2r, hidh, hBhm, hgh, res_new, hbh, hkn, hmv, decide_eq_false q1, decide_eq_false q2, decide_eq_false q20, decide_eq_true q24, decide_eq_false q4, hn1]
        exact done _ (by simp -implicitDefEqProofs only [go_sem, Nat.reduceAdd, Nat.reduceMul, Nat.reduceLT, Nat.reduceLeDiff, Nat.reduceEqDiff, Nat.reduceBEq, reduceCtorEq, Int.reduceLT, Int.reduceLE, Int.reduceEq, Int.reduceGT, Int.reduceGE, Int.reduceToNat, Int.reduceNeg]) fun h => q4 (h.2.2.2 q24)
    · simp -implicitDefEqProofs only [go_sem, Nat.reduceAdd, Nat.reduceMul, Nat.reduceLT, Nat.reduceLeDiff, Nat.reduceEqDiff, Nat.reduceBEq, reduceCtorEq, Int.reduceLT, Int.reduceLE, Int.reduceEq, Int.reduceGT, Int.reduceGE, Int.reduceToNat, Int.reduceNeg, t0, hwl', hpos, hsub1, hidw, hBwm, hgw, hcut, hck.blk, e1, e2r, hidh, hBhm, hgh, res_new, hbh, hkn, hmv, decide_eq_false q1, decide_eq_false q2, decide_eq_false q20, decide_eq_false q24, hn1, h118, hal3]
      refine tail ⟨by omega, by omega, fun h => absurd h q20, fun h => absurd h q24⟩ _ ?_ ?_ ?_ ?_ ?_ ?_ ?_ ?_ <;> simp -implicitDefEqProofs only [go_sem, Nat.reduceAdd, Nat.reduceMul, Nat.reduceLT, Nat.reduceLeDiff, Nat.reduceEqDiff, Nat.reduceBEq, reduceCtorEq, Int.reduceLT, Int.reduceLE, Int.reduceEq, Int.reduceGT, Int.reduceGE, Int.reduceToNat, Int.reduceNeg, t0]
end
end Go.Proofs.YthiflgncldmkjaaDoor
/- Heights of a code, and whether codes are sound: what the program's functions come to. -/
set_option linter.unusedVariables false
set_option linter.unusedSimpArgs false
set_option maxRecDepth 100000
namespace Go.Proofs.YthiflgncldmkjaaDoor
open Go.Ri

section
variable {Hb : AH} {ls s : AV} {l : List Code} {c : Code}
theorem heights_spec (d : Nat) (B : Base Hb ls s l c) (hmay : ∀ i ∈ c.ins, mayI l c i = true) (h1 : 1 ≤ c.ins.length) (hlen : c.ins.length ≤ 65536) {H : AH} (hck : Ck Hb ls s c H (.slice none 0 (.kn 0))) :
    Ret (RT (d + 2) 95 [.ptr (some (Hb.next, 0))] H) fun r => Ext Hb.next Hb r.2 ∧ ((r.1 = .bool true ∧ ∃ hs h, Ck Hb ls s c r.2 hs ∧ OwnI (Hb.next + 1) r.2 hs h ∧ Good l c h) ∨ (r.1 = .bool false ∧ ¬ ∃ g, Good l c g)) := by
  rw [R95]
  unfold F95
  have hal := (hck.chk B).ins.alen
  simp -implicitDefEqProofs only [go_sem, Nat.reduceAdd, Nat.reduceMul, Nat.reduceLT, Nat.reduceLeDiff, Nat.reduceEqDiff, Nat.reduceBEq, reduceCtorEq, Int.reduceLT, Int.reduceLE, Int.reduceEq, Int.reduceGT, Int.reduceGE, Int.reduceToNat, Int.reduceNeg, hck.blk, hal]
  refine Ret.then (loop3 (d + 1) B hlen ⟨?_, ?_, ?_, _, hck, Own.nil _ _ _ _⟩) ?_
  · simp -implicitDefEqProofs only [go_sem, Nat.reduceAdd, Nat.reduceMul, Nat.reduceLT, Nat.reduceLeDiff, Nat.reduceEqDiff, Nat.reduceBEq, reduceCtorEq, Int.reduceLT, Int.reduceLE, Int.reduceEq, Int.reduceGT, Int.reduceGE, Int.reduceToNat, Int.reduceNeg]
  · simp -implicitDefEqProofs only [go_sem, Nat.reduceAdd, Nat.reduceMul, Nat.reduceLT, Nat.reduceLeDiff, Nat.reduceEqDiff, Nat.reduceBEq, reduceCtorEq, Int.reduceLT, Int.reduceLE, Int.reduceEq, Int.reduceGT, Int.reduceGE, Int.reduceToNat, Int.reduceNeg]
  · simp -implicitDefEqProofs only [go_sem, Nat.reduceAdd, Nat.reduceMul, Nat.reduceLT, Nat.reduceLeDiff, Nat.reduceEqDiff, Nat.reduceBEq, reduceCtorEq, Int.reduceLT, Int.reduceLE, Int.reduceEq, Int.reduceGT, Int.reduceGE, Int.reduceToNat, Int.reduceNeg]
    rfl
  · rintro ⟨e, T, H1⟩ ⟨rfl, t0, _, _, hs, hck1, hown⟩
    simp only at t0 hck1 hown
    obtain ⟨bh, Bh, hah, hNh, hbhn, hBhm, hrwh, hilh, _, hidh, hset⟩ := hown.cell hck1.ext.wf (i := 0) (by rw [intsC_len]; simp; omega)
    have hid0 : ∀ k, idxSl hs (.int k 0) 1 = some (.ptr (some (bh, 0))) := fun k => hidh k
    have hkb : ¬ Hb.next = bh := by omega
    have hset2 := hset (.int .i64 0)
    rw [intsC_set, hrwh] at hset2
    have hx2 : Ext Hb.next Hb (H1.put bh ⟨Bh.cells.set 0 (.int .i64 0), Bh.elem, true⟩) := hck1.ext.put (by omega) hbhn _
    have hkn : ¬ Hb.next = H1.next := Nat.ne_of_lt hck1.lt
    have hx3 := hx2.new [.int .i64 0] 3
    have hck3 : Ck Hb ls s c ((H1.put bh ⟨Bh.cells.set 0 (.int .i64 0), Bh.elem, true⟩).new [.int .i64 0] 3) hs := ⟨hx3, by simp [hkn, hkb, hck1.blk]⟩
    simp -implicitDefEqProofs only [go_sem, Nat.reduceAdd, Nat.reduceMul, Nat.reduceLT, Nat.reduceLeDiff, Nat.reduceEqDiff, Nat.reduceBEq, reduceCtorEq, Int.reduceLT, Int.reduceLE, Int.reduceEq, Int.reduceGT, Int.reduceGE, Int.reduceToNat, Int.reduceNeg, t0, hck1.blk, hid0, hBhm, hrwh, hilh]
    refine Ret.then (Q' := E2 Hb ls s l c) (Ret.iter (I2 Hb ls s l c) _ (fun f t hI => round2 d B hmay hlen f t hI) (fun t ht => by obtain ⟨_, _, _, _, _, _, _, _, _, h, _⟩ := ht; exact absurd h (Nat.not_lt_zero _)) 200000 big _ (by unfold big; omega)
      ⟨?_, hs, (List.replicate c.ins.length (-1)).set 0 0, [0], hck3, hset2.new hx2.wf _ _, ?_, ?_, Way.start h1, ?_, Nat.le_refl _⟩) ?_
    · simp -implicitDefEqProofs only [go_sem, Nat.reduceAdd, Nat.reduceMul, Nat.reduceLT, Nat.reduceLeDiff, Nat.reduceEqDiff, Nat.reduceBEq, reduceCtorEq, Int.reduceLT, Int.reduceLE, Int.reduceEq, Int.reduceGT, Int.reduceGE, Int.reduceToNat, Int.reduceNeg, t0]
    · simp -implicitDefEqProofs only [go_sem, Nat.reduceAdd, Nat.reduceMul, Nat.reduceLT, Nat.reduceLeDiff, Nat.reduceEqDiff, Nat.reduceBEq, reduceCtorEq, Int.reduceLT, Int.reduceLE, Int.reduceEq, Int.reduceGT, Int.reduceGE, Int.reduceToNat, Int.reduceNeg]
      exact Own.made (N := Hb.next + 1) (n := 1) (by simp only [put_next]; have := hck1.lt; omega) rfl
    · simp -implicitDefEqProofs only [go_sem, Nat.reduceAdd, Nat.reduceMul, Nat.reduceLT, Nat.reduceLeDiff, Nat.reduceEqDiff, Nat.reduceBEq, reduceCtorEq, Int.reduceLT, Int.reduceLE, Int.reduceEq, Int.reduceGT, Int.reduceGE, Int.reduceToNat, Int.reduceNeg]
      rintro b ⟨n, cc, h⟩ hb
      cases h
      have := hb.one hah
      omega
    · have := negs_le ((List.replicate c.ins.length (-1 : Int)).set 0 0)
      simp at this ⊢
      omega
    · rintro ⟨e, T4, H4⟩ (⟨rfl, hs4, h4, k1, k2, k3⟩ | ⟨rfl, k1, k2, k3⟩)
      · simp only at k1 k2
        simp -implicitDefEqProofs only [go_sem, Nat.reduceAdd, Nat.reduceMul, Nat.reduceLT, Nat.reduceLeDiff, Nat.reduceEqDiff, Nat.reduceBEq, reduceCtorEq, Int.reduceLT, Int.reduceLE, Int.reduceEq, Int.reduceGT, Int.reduceGE, Int.reduceToNat, Int.reduceNeg]
        exact .mk ⟨k1.ext, .inl ⟨rfl, hs4, h4, k1, k2, k3⟩⟩
      · simp only at k1 k2
        simp -implicitDefEqProofs only [go_sem, Nat.reduceAdd, Nat.reduceMul, Nat.reduceLT, Nat.reduceLeDiff, Nat.reduceEqDiff, Nat.reduceBEq, reduceCtorEq, Int.reduceLT, Int.reduceLE, Int.reduceEq, Int.reduceGT, Int.reduceGE, Int.reduceToNat, Int.reduceNeg, k1]
        exact .mk ⟨k2, .inr ⟨rfl, k3⟩⟩

/-- The loop over the instructions: whether each may be. -/
def IO (Hb : AH) (ls s : AV) (l : List Code) (c : Code) (i : Nat) (t : St) : Prop :=
  t.1 0 = .ptr (some (Hb.next, 0)) ∧ t.1 48 = s ∧ t.1 49 = .int .i64 (c.ins.length : Nat) ∧ t.1 50 = .int .i64 (i : Nat) ∧ Ck Hb ls s c t.2 (.slice none 0 (.kn 0)) ∧ ∀ j, j < i → ∀ x, c.ins[j]? = some x → mayI l c x = true
theorem own_loop (d : Nat) (B : Base Hb ls s l c) (hlen : c.ins.length ≤ 65536) {T : Tm} {H : AH} (h0 : IO Hb ls s l c 0 (T, H)) :
    Ret (Ri.iter big (F69_L0 (RT (d + 2)) (Ri.iter big)) (T, H)) fun r => (r.1 = .exit 0 ∧ IO Hb ls s l c c.ins.length r.2) ∨ (r.1 = .ret ∧ r.2.1 2 = .bool false ∧ Ext Hb.next Hb r.2.2 ∧ ¬ ∀ i ∈ c.ins, mayI l c i = true) := by
  refine Ret.upTo (n := c.ins.length) (IO Hb ls s l c) (by unfold big; omega) h0 ?_ ?_
  · rintro i ⟨T1, H1⟩ hi ⟨t0, t48, t49, t50, hck, hdone⟩
    simp only at t0 t48 t49 t50 hck
    have hcmp : decide (((i : Nat) : Int) < ((c.ins.length : Nat) : Int)) = true := decide_eq_true (by omega)
    have hins := (hck.chk B).ins
    obtain ⟨pb, po, e1, e2, _⟩ := hins.1.at (i := i) (by simpa using hi)
    simp only [List.getElem_map] at e2
    have hin : insC c.ins[i] = [.int .i64 c.ins[i].op, .int .i64 c.ins[i].n, .int .i64 c.ins[i].m] := rfl
    have hx1 : Ext Hb.next Hb (H1.new (insC c.ins[i]) 29) := hck.ext.new _ _
    have hkn : ¬ Hb.next = H1.next := Nat.ne_of_lt hck.lt
    have hck1 : Ck Hb ls s c (H1.new (insC c.ins[i]) 29) (.slice none 0 (.kn 0)) := ⟨hx1, by simp [hkn, hck.blk]⟩
    obtain ⟨⟨v, H2⟩, h94, hv, hH2⟩ := may_spec d hx1.wf (hck1.tabs B) (hck1.chk B) (hins.2 c.ins[i] (List.getElem_mem _))
    simp only at hv hH2
    subst hv hH2
    have hx2 := hx1.new (insC c.ins[i]) 29
    have hkn2 : ¬ Hb.next = H1.next + 1 := by have := hck.lt; omega
    have hck2 : Ck Hb ls s c ((H1.new (insC c.ins[i]) 29).new (insC c.ins[i]) 29) (.slice none 0 (.kn 0)) := ⟨hx2, by simp [hkn, hkn2, hck.blk]⟩
    rw [hin] at e2 h94 hck2 hx2
    unfold F69_L0
    cases hmv : mayI l c c.ins[i]
    · rw [hmv] at h94
      simp -implicitDefEqProofs only [go_sem, Nat.reduceAdd, Nat.reduceMul, Nat.reduceLT, Nat.reduceLeDiff, Nat.reduceEqDiff, Nat.reduceBEq, reduceCtorEq, Int.reduceLT, Int.reduceLE, Int.reduceEq, Int.reduceGT, Int.reduceGE, Int.reduceToNat, Int.reduceNeg, t0, t48, t49, t50, hcmp, e1, e2, new_put, h94]
      refine .mk (.inr ⟨by simp, .inr ⟨rfl, ?_, hx2, fun h => ?_⟩⟩)
      · simp -implicitDefEqProofs only [go_sem, Nat.reduceAdd, Nat.reduceMul, Nat.reduceLT, Nat.reduceLeDiff, Nat.reduceEqDiff, Nat.reduceBEq, reduceCtorEq, Int.reduceLT, Int.reduceLE, Int.reduceEq, Int.reduceGT, Int.reduceGE, Int.reduceToNat, Int.reduceNeg]
      · rw [h _ (List.getElem_mem _)] at hmv
        cases hmv
    · rw [hmv] at h94
      simp -implicitDefEqProofs only [go_sem, Nat.reduceAdd, Nat.reduceMul, Nat.reduceLT, Nat.reduceLeDiff, Nat.reduceEqDiff, Nat.reduceBEq, reduceCtorEq, Int.reduceLT, Int.reduceLE, Int.reduceEq, Int.reduceGT, Int.reduceGE, Int.reduceToNat, Int.reduceNeg, t0, t48, t49, t50, hcmp, e1, e2, new_put, h94, wrapS (i := i) (by omega)]
      refine .mk (.inl ⟨rfl, ?_, ?_, ?_, ?_, hck2, fun j hj x hx => ?_⟩)
      · simp -implicitDefEqProofs only [go_sem, Nat.reduceAdd, Nat.reduceMul, Nat.reduceLT, Nat.reduceLeDiff, Nat.reduceEqDiff, Nat.reduceBEq, reduceCtorEq, Int.reduceLT, Int.reduceLE, Int.reduceEq, Int.reduceGT, Int.reduceGE, Int.reduceToNat, Int.reduceNeg, t0]
      · simp -implicitDefEqProofs only [go_sem, Nat.reduceAdd, Nat.reduceMul, Nat.reduceLT, Nat.reduceLeDiff, Nat.reduceEqDiff, Nat.reduceBEq, reduceCtorEq, Int.reduceLT, Int.reduceLE, Int.reduceEq, Int.reduceGT, Int.reduceGE, Int.reduceToNat, Int.reduceNeg, t48]
      · simp -implicitDefEqProofs only [go_sem, Nat.reduceAdd, Nat.reduceMul, Nat.reduceLT, Nat.reduceLeDiff, Nat.reduceEqDiff, Nat.reduceBEq, reduceCtorEq, Int.reduceLT, Int.reduceLE, Int.reduceEq, Int.reduceGT, Int.reduceGE, Int.reduceToNat, Int.reduceNeg, t49]
      · simp -implicitDefEqProofs only [go_sem, Nat.reduceAdd, Nat.reduceMul, Nat.reduceLT, Nat.reduceLeDiff, Nat.reduceEqDiff, Nat.reduceBEq, reduceCtorEq, Int.reduceLT, Int.reduceLE, Int.reduceEq, Int.reduceGT, Int.reduceGE, Int.reduceToNat, Int.reduceNeg]
      · by_cases hji : j = i
        · subst hji
          rw [List.getElem?_eq_getElem hi] at hx
          cases hx
          exact hmv
        · exact hdone j (by omega) x hx
  · rintro ⟨T1, H1⟩ ⟨t0, t48, t49, t50, h⟩
    simp only at t0 t48 t49 t50 h
    have hcmp : decide (((c.ins.length : Nat) : Int) < ((c.ins.length : Nat) : Int)) = false := decide_eq_false (by omega)
    unfold F69_L0
    simp -implicitDefEqProofs only [go_sem, Nat.reduceAdd, Nat.reduceMul, Nat.reduceLT, Nat.reduceLeDiff, Nat.reduceEqDiff, Nat.reduceBEq, reduceCtorEq, Int.reduceLT, Int.reduceLE, Int.reduceEq, Int.reduceGT, Int.reduceGE, Int.reduceToNat, Int.reduceNeg, t49, t50, hcmp]
    refine .mk ⟨by simp, .inl ⟨rfl, ?_, ?_, ?_, ?_, h⟩⟩
    · simp -implicitDefEqProofs only [go_sem, Nat.reduceAdd, Nat.reduceMul, Nat.reduceLT, Nat.reduceLeDiff, Nat.reduceEqDiff, Nat.reduceBEq, reduceCtorEq, Int.reduceLT, Int.reduceLE, Int.reduceEq, Int.reduceGT, Int.reduceGE, Int.reduceToNat, Int.reduceNeg, t0]
    · simp -implicitDefEqProofs only [go_sem, Nat.reduceAdd, Nat.reduceMul, Nat.reduceLT, Nat.reduceLeDiff, Nat.reduceEqDiff, Nat.reduceBEq, reduceCtorEq, Int.reduceLT, Int.reduceLE, Int.reduceEq, Int.reduceGT, Int.reduceGE, Int.reduceToNat, Int.reduceNeg, t48]
    · simp -implicitDefEqProofs only [go_sem, Nat.reduceAdd, Nat.reduceMul, Nat.reduceLT, Nat.reduceLeDiff, Nat.reduceEqDiff, Nat.reduceBEq, reduceCtorEq, Int.reduceLT, Int.reduceLE, Int.reduceEq, Int.reduceGT, Int.reduceGE, Int.reduceToNat, Int.reduceNeg, t49]
    · simp -implicitDefEqProofs only [go_sem, Nat.reduceAdd, Nat.reduceMul, Nat.reduceLT, Nat.reduceLeDiff, Nat.reduceEqDiff, Nat.reduceBEq, reduceCtorEq, Int.reduceLT, Int.reduceLE, Int.reduceEq, Int.reduceGT, Int.reduceGE, Int.reduceToNat, Int.reduceNeg, t50]

theorem own_spec (d : Nat) (B : Base Hb ls s l c) {H : AH} (hck : Ck Hb ls s c H (.slice none 0 (.kn 0))) :
    Ret (RT (d + 3) 69 [.ptr (some (Hb.next, 0))] H) fun r => Ext Hb.next Hb r.2 ∧ ((r.1 = .bool true ∧ OwnOk l c ∧ ∃ hs h, Ck Hb ls s c r.2 hs ∧ OwnI (Hb.next + 1) r.2 hs h ∧ Good l c h) ∨ (r.1 = .bool false ∧ ¬ (OwnOk l c ∧ ∃ g, Good l c g))) := by
  rw [R69]
  unfold F69
  have hal := (hck.chk B).ins.alen
  have hx1 : Ext Hb.next Hb (H.new [s, .int .i64 c.cells, .int .i64 c.params, .bool c.answers] 24) := hck.ext.new _ _
  have hkn : ¬ Hb.next = H.next := Nat.ne_of_lt hck.lt
  have hck1 : Ck Hb ls s c (H.new [s, .int .i64 c.cells, .int .i64 c.params, .bool c.answers] 24) (.slice none 0 (.kn 0)) := ⟨hx1, by simp [hkn, hck.blk]⟩
  have no : ¬ OwnOk l c → Ret (some (AV.bool false, H.new [s, .int .i64 c.cells, .int .i64 c.params, .bool c.answers] 24)) fun r => Ext Hb.next Hb r.2 ∧ ((r.1 = .bool true ∧ OwnOk l c ∧ ∃ hs h, Ck Hb ls s c r.2 hs ∧ OwnI (Hb.next + 1) r.2 hs h ∧ Good l c h) ∨ (r.1 = .bool false ∧ ¬ (OwnOk l c ∧ ∃ g, Good l c g))) :=
    fun h => .mk ⟨hx1, .inr ⟨rfl, fun hh => h hh.1⟩⟩
  by_cases p1 : ((c.ins.length : Nat) : Int) < 1
  · simp -implicitDefEqProofs only [go_sem, Nat.reduceAdd, Nat.reduceMul, Nat.reduceLT, Nat.reduceLeDiff, Nat.reduceEqDiff, Nat.reduceBEq, reduceCtorEq, Int.reduceLT, Int.reduceLE, Int.reduceEq, Int.reduceGT, Int.reduceGE, Int.reduceToNat, Int.reduceNeg, hck.blk, hal, new_put, decide_eq_true p1]
    exact no fun h => by have := h.some_; omega
  by_cases p2 : ((c.ins.length : Nat) : Int) > 65536
  · simp -implicitDefEqProofs only [go_sem, Nat.reduceAdd, Nat.reduceMul, Nat.reduceLT, Nat.reduceLeDiff, Nat.reduceEqDiff, Nat.reduceBEq, reduceCtorEq, Int.reduceLT, Int.reduceLE, Int.reduceEq, Int.reduceGT, Int.reduceGE, Int.reduceToNat, Int.reduceNeg, hck.blk, hal, new_put, decide_eq_false p1, decide_eq_true p2]
    exact no fun h => by have := h.few; omega
  by_cases p3 : c.cells < 0
  · simp -implicitDefEqProofs only [go_sem, Nat.reduceAdd, Nat.reduceMul, Nat.reduceLT, Nat.reduceLeDiff, Nat.reduceEqDiff, Nat.reduceBEq, reduceCtorEq, Int.reduceLT, Int.reduceLE, Int.reduceEq, Int.reduceGT, Int.reduceGE, Int.reduceToNat, Int.reduceNeg, hck.blk, hal, new_put, decide_eq_false p1, decide_eq_false p2, decide_eq_true p3]
    exact no fun h => by have := h.cells; omega
  by_cases p4 : c.cells > 65536
  · simp -implicitDefEqProofs only [go_sem, Nat.reduceAdd, Nat.reduceMul, Nat.reduceLT, Nat.reduceLeDiff, Nat.reduceEqDiff, Nat.reduceBEq, reduceCtorEq, Int.reduceLT, Int.reduceLE, Int.reduceEq, Int.reduceGT, Int.reduceGE, Int.reduceToNat, Int.reduceNeg, hck.blk, hal, new_put, decide_eq_false p1, decide_eq_false p2, decide_eq_false p3, decide_eq_true p4]
    exact no fun h => by have := h.cells; omega
  by_cases p5 : c.params < 0
  · simp -implicitDefEqProofs only [go_sem, Nat.reduceAdd, Nat.reduceMul, Nat.reduceLT, Nat.reduceLeDiff, Nat.reduceEqDiff, Nat.reduceBEq, reduceCtorEq, Int.reduceLT, Int.reduceLE, Int.reduceEq, Int.reduceGT, Int.reduceGE, Int.reduceToNat, Int.reduceNeg, hck.blk, hal, new_put, decide_eq_false p1, decide_eq_false p2, decide_eq_false p3, decide_eq_false p4, decide_eq_true p5]
    exact no fun h => by have := h.params; omega
  by_cases p6 : c.params > 8
  · simp -implicitDefEqProofs only [go_sem, Nat.reduceAdd, Nat.reduceMul, Nat.reduceLT, Nat.reduceLeDiff, Nat.reduceEqDiff, Nat.reduceBEq, reduceCtorEq, Int.reduceLT, Int.reduceLE, Int.reduceEq, Int.reduceGT, Int.reduceGE, Int.reduceToNat, Int.reduceNeg, hck.blk, hal, new_put, decide_eq_false p1, decide_eq_false p2, decide_eq_false p3, decide_eq_false p4, decide_eq_false p5, decide_eq_true p6]
    exact no fun h => by have := h.params; omega
  by_cases p7 : c.params > c.cells
  · simp -implicitDefEqProofs only [go_sem, Nat.reduceAdd, Nat.reduceMul, Nat.reduceLT, Nat.reduceLeDiff, Nat.reduceEqDiff, Nat.reduceBEq, reduceCtorEq, Int.reduceLT, Int.reduceLE, Int.reduceEq, Int.reduceGT, Int.reduceGE, Int.reduceToNat, Int.reduceNeg, hck.blk, hal, new_put, decide_eq_false p1, decide_eq_false p2, decide_eq_false p3, decide_eq_false p4, decide_eq_false p5, decide_eq_false p6, decide_eq_true p7]
    exact no fun h => by have := h.params; omega
  simp -implicitDefEqProofs only [go_sem, Nat.reduceAdd, Nat.reduceMul, Nat.reduceLT, Nat.reduceLeDiff, Nat.reduceEqDiff, Nat.reduceBEq, reduceCtorEq, Int.reduceLT, Int.reduceLE, Int.reduceEq, Int.reduceGT, Int.reduceGE, Int.reduceToNat, Int.reduceNeg, hck.blk, hal, new_put, decide_eq_false p1, decide_eq_false p2, decide_eq_false p3, decide_eq_false p4, decide_eq_false p5, decide_eq_false p6, decide_eq_false p7]
  refine Ret.then (own_loop d B (by omega) ⟨?_, ?_, ?_, ?_, hck1, fun j hj => absurd hj (Nat.not_lt_zero _)⟩) ?_
  · simp -implicitDefEqProofs only [go_sem, Nat.reduceAdd, Nat.reduceMul, Nat.reduceLT, Nat.reduceLeDiff, Nat.reduceEqDiff, Nat.reduceBEq, reduceCtorEq, Int.reduceLT, Int.reduceLE, Int.reduceEq, Int.reduceGT, Int.reduceGE, Int.reduceToNat, Int.reduceNeg]
  · simp -implicitDefEqProofs only [go_sem, Nat.reduceAdd, Nat.reduceMul, Nat.reduceLT, Nat.reduceLeDiff, Nat.reduceEqDiff, Nat.reduceBEq, reduceCtorEq, Int.reduceLT, Int.reduceLE, Int.reduceEq, Int.reduceGT, Int.reduceGE, Int.reduceToNat, Int.reduceNeg]
  · simp -implicitDefEqProofs only [go_sem, Nat.reduceAdd, Nat.reduceMul, Nat.reduceLT, Nat.reduceLeDiff, Nat.reduceEqDiff, Nat.reduceBEq, reduceCtorEq, Int.reduceLT, Int.reduceLE, Int.reduceEq, Int.reduceGT, Int.reduceGE, Int.reduceToNat, Int.reduceNeg]
  · simp -implicitDefEqProofs only [go_sem, Nat.reduceAdd, Nat.reduceMul, Nat.reduceLT, Nat.reduceLeDiff, Nat.reduceEqDiff, Nat.reduceBEq, reduceCtorEq, Int.reduceLT, Int.reduceLE, Int.reduceEq, Int.reduceGT, Int.reduceGE, Int.reduceToNat, Int.reduceNeg]
    rfl
  · rintro ⟨e, T, H1⟩ (⟨rfl, t0, _, _, _, hck2, hall⟩ | ⟨rfl, k1, k2, k3⟩)
    · simp only at t0 hck2
      have hmay : ∀ i ∈ c.ins, mayI l c i = true := fun i hi => by
        obtain ⟨j, hj⟩ := List.mem_iff_getElem?.1 hi
        exact hall j (List.getElem?_eq_some_iff.1 hj).1 i hj
      have hok : OwnOk l c := ⟨by omega, by omega, by omega, by omega, hmay⟩
      obtain ⟨⟨v, H5⟩, h95, hx5, hr⟩ := heights_spec d B hmay (by omega) (by omega) hck2
      simp only at hx5 hr
      simp -implicitDefEqProofs only [go_sem, Nat.reduceAdd, Nat.reduceMul, Nat.reduceLT, Nat.reduceLeDiff, Nat.reduceEqDiff, Nat.reduceBEq, reduceCtorEq, Int.reduceLT, Int.reduceLE, Int.reduceEq, Int.reduceGT, Int.reduceGE, Int.reduceToNat, Int.reduceNeg, t0, h95]
      refine .mk ⟨hx5, ?_⟩
      rcases hr with ⟨rfl, hs, h, q1, q2, q3⟩ | ⟨rfl, q⟩
      · exact .inl ⟨rfl, hok, hs, h, q1, q2, q3⟩
      · exact .inr ⟨rfl, fun hh => q hh.2⟩
    · simp only at k1 k2
      simp -implicitDefEqProofs only [go_sem, Nat.reduceAdd, Nat.reduceMul, Nat.reduceLT, Nat.reduceLeDiff, Nat.reduceEqDiff, Nat.reduceBEq, reduceCtorEq, Int.reduceLT, Int.reduceLE, Int.reduceEq, Int.reduceGT, Int.reduceGE, Int.reduceToNat, Int.reduceNeg, k1]
      exact .mk ⟨k2, .inr ⟨rfl, fun hh => k3 hh.1.may⟩⟩
end

/-- Heights: a row of one's own, or none. -/
theorem Heights_spec (d : Nat) {H : AH} (hw : H.wf) (hT : Tabs H) {ls : AV} {l : List Code} (hl : CodesRow H ls l) {k : Int} (hk : InI k) :
    Ret (RT (d + 4) 28 [ls, .int .i64 k] H) fun r => Ext H.next H r.2 ∧ ((∃ hs h, r.1 = .tuple [hs, .bool true] ∧ OwnI (H.next + 1) r.2 hs h ∧ Hts l k h) ∨ (r.1 = .tuple [.slice none 0 (.kn 0), .bool false] ∧ ¬ ∃ h, Hts l k h)) := by
  rw [R28]
  unfold F28
  have hal := hl.alen
  by_cases p1 : k < 0
  · simp -implicitDefEqProofs only [go_sem, Nat.reduceAdd, Nat.reduceMul, Nat.reduceLT, Nat.reduceLeDiff, Nat.reduceEqDiff, Nat.reduceBEq, reduceCtorEq, Int.reduceLT, Int.reduceLE, Int.reduceEq, Int.reduceGT, Int.reduceGE, Int.reduceToNat, Int.reduceNeg, hal, decide_eq_true p1]
    exact .mk ⟨.refl hw, .inr ⟨rfl, fun ⟨h, c, h0, _⟩ => by omega⟩⟩
  by_cases p2 : k ≥ ((l.length : Nat) : Int)
  · simp -implicitDefEqProofs only [go_sem, Nat.reduceAdd, Nat.reduceMul, Nat.reduceLT, Nat.reduceLeDiff, Nat.reduceEqDiff, Nat.reduceBEq, reduceCtorEq, Int.reduceLT, Int.reduceLE, Int.reduceEq, Int.reduceGT, Int.reduceGE, Int.reduceToNat, Int.reduceNeg, hal, decide_eq_false p1, decide_eq_true p2]
    refine .mk ⟨.refl hw, .inr ⟨rfl, fun ⟨h, c, h0, h1, _⟩ => ?_⟩⟩
    have := (List.getElem?_eq_some_iff.1 h1).1
    omega
  obtain ⟨b, o, c, q1, q2, ⟨s, q3, q4, _⟩, _, _, _, q5, q6, _⟩ := codes_at hl (n := k) (by omega) (by omega)
  have hx : Ext H.next H (H.new [ls, s, .int .i64 c.cells, .int .i64 c.params, .bool c.answers, .slice none 0 (.kn 0)] 100) := (Ext.refl hw).new _ _
  have B : Base H ls s l c := ⟨hw, hT, hl, q4, q5, q6⟩
  have hck : Ck H ls s c (H.new [ls, s, .int .i64 c.cells, .int .i64 c.params, .bool c.answers, .slice none 0 (.kn 0)] 100) (.slice none 0 (.kn 0)) := ⟨hx, by simp⟩
  obtain ⟨⟨v, H5⟩, h69, hx5, hr⟩ := own_spec d B hck
  simp only at hx5 hr
  have hls : ∃ p n cc, ls = .slice p n cc ∨ ls = .empty := by
    obtain ⟨rows, hrow, _⟩ := hl
    rcases hrow.is with ⟨h, _⟩ | ⟨a, cc, h, _⟩
    · exact ⟨none, 0, .kn 0, .inr h⟩
    · exact ⟨_, _, _, .inl h⟩
  obtain ⟨p, n, cc, rfl | rfl⟩ := hls
  · rcases hr with ⟨rfl, hok, hs, h, k1, k2, k3⟩ | ⟨rfl, hno⟩
    · simp -implicitDefEqProofs only [go_sem, Nat.reduceAdd, Nat.reduceMul, Nat.reduceLT, Nat.reduceLeDiff, Nat.reduceEqDiff, Nat.reduceBEq, reduceCtorEq, Int.reduceLT, Int.reduceLE, Int.reduceEq, Int.reduceGT, Int.reduceGE, Int.reduceToNat, Int.reduceNeg, hal, decide_eq_false p1, decide_eq_false p2, q2, q3, h69, k1.blk]
      exact .mk ⟨hx5, .inl ⟨hs, h, rfl, k2, c, by omega, q1, hok, k3⟩⟩
    · simp -implicitDefEqProofs only [go_sem, Nat.reduceAdd, Nat.reduceMul, Nat.reduceLT, Nat.reduceLeDiff, Nat.reduceEqDiff, Nat.reduceBEq, reduceCtorEq, Int.reduceLT, Int.reduceLE, Int.reduceEq, Int.reduceGT, Int.reduceGE, Int.reduceToNat, Int.reduceNeg, hal, decide_eq_false p1, decide_eq_false p2, q2, q3, h69]
      refine .mk ⟨hx5, .inr ⟨rfl, fun ⟨h, c', h0, h1, h2, h3⟩ => hno ?_⟩⟩
      rw [q1] at h1
      cases h1
      exact ⟨h2, h, h3⟩
  · have := q2 .i64
    simp [idxSl] at this
/-- Codes that are sound. -/
def SoundP (l : List Code) (main : Int) : Prop := 1 ≤ l.length ∧ l.length ≤ 40 ∧ 0 ≤ main ∧ main < l.length ∧ paramsAt l main = 0 ∧ answersAt l main = false ∧ ∀ k : Nat, k < l.length → ∃ h, Hts l k h
end Go.Proofs.YthiflgncldmkjaaDoor
/- Whether codes are sound; how great codes are. -/
set_option linter.unusedVariables false
set_option linter.unusedSimpArgs false
set_option maxRecDepth 100000
namespace Go.Proofs.YthiflgncldmkjaaDoor
open Go.Ri

theorem CodesRow.few {H : AH} {ls : AV} {l : List Code} (h : CodesRow H ls l) : l.length ≤ 9223372036854775807 := by
  obtain ⟨_, _, ⟨_, h⟩, _⟩ := h
  exact h
def IS (H : AH) (ls : AV) (l : List Code) (i : Nat) (t : St) : Prop :=
  t.1 0 = ls ∧ t.1 42 = .int .i64 (l.length : Nat) ∧ t.1 43 = .int .i64 (i : Nat) ∧ Ext H.next H t.2 ∧ ∀ k : Nat, k < i → ∃ h, Hts l k h
theorem sound_loop (d : Nat) {H : AH} (hw : H.wf) (hT : Tabs H) {ls : AV} {l : List Code} (hl : CodesRow H ls l) {T : Tm} {H1 : AH} (h0 : IS H ls l 0 (T, H1)) :
    Ret (Ri.iter big (F27_L0 (RT (d + 4)) (Ri.iter big)) (T, H1)) fun r => Ext H.next H r.2.2 ∧ ((r.1 = .exit 0 ∧ ∀ k : Nat, k < l.length → ∃ h, Hts l k h) ∨ (r.1 = .ret ∧ r.2.1 4 = .bool false ∧ ¬ ∀ k : Nat, k < l.length → ∃ h, Hts l k h)) := by
  have hfew := hl.few
  refine Ret.upTo (n := l.length) (IS H ls l) (by unfold big; omega) h0 ?_ ?_
  · rintro i ⟨T1, H2⟩ hi ⟨t0, t42, t43, hx, hdone⟩
    simp only at t0 t42 t43 hx
    have hcmp : decide (((i : Nat) : Int) < ((l.length : Nat) : Int)) = true := decide_eq_true (by omega)
    obtain ⟨⟨v, H3⟩, h28, hx3, hr⟩ := Heights_spec d hx.wf (hT.ext hx hT.two) (hl.mono (hx.sub hw)) (k := ((i : Nat) : Int)) (by unfold InI; omega)
    simp only at hx3 hr
    have hx4 : Ext H.next H H3 := hx.trans hx3 hx.next
    unfold F27_L0
    rcases hr with ⟨hs, h, rfl, _, hh⟩ | ⟨rfl, hno⟩
    · simp -implicitDefEqProofs only [go_sem, Nat.reduceAdd, Nat.reduceMul, Nat.reduceLT, Nat.reduceLeDiff, Nat.reduceEqDiff, Nat.reduceBEq, reduceCtorEq, Int.reduceLT, Int.reduceLE, Int.reduceEq, Int.reduceGT, Int.reduceGE, Int.reduceToNat, Int.reduceNeg, t0, t42, t43, hcmp, h28, wrapS (i := i) (by omega)]
      refine .mk (.inl ⟨rfl, ?_, ?_, ?_, hx4, fun k hk => ?_⟩)
      · simp -implicitDefEqProofs only [go_sem, Nat.reduceAdd, Nat.reduceMul, Nat.reduceLT, Nat.reduceLeDiff, Nat.reduceEqDiff, Nat.reduceBEq, reduceCtorEq, Int.reduceLT, Int.reduceLE, Int.reduceEq, Int.reduceGT, Int.reduceGE, Int.reduceToNat, Int.reduceNeg, t0]
      · simp -implicitDefEqProofs only [go_sem, Nat.reduceAdd, Nat.reduceMul, Nat.reduceLT, Nat.reduceLeDiff, Nat.reduceEqDiff, Nat.reduceBEq, reduceCtorEq, Int.reduceLT, Int.reduceLE, Int.reduceEq, Int.reduceGT, Int.reduceGE, Int.reduceToNat, Int.reduceNeg, t42]
      · simp -implicitDefEqProofs only [go_sem, Nat.reduceAdd, Nat.reduceMul, Nat.reduceLT, Nat.reduceLeDiff, Nat.reduceEqDiff, Nat.reduceBEq, reduceCtorEq, Int.reduceLT, Int.reduceLE, Int.reduceEq, Int.reduceGT, Int.reduceGE, Int.reduceToNat, Int.reduceNeg]
      · by_cases hki : k = i
        · subst hki; exact ⟨h, hh⟩
        · exact hdone k (by omega)
    · simp -implicitDefEqProofs only [go_sem, Nat.reduceAdd, Nat.reduceMul, Nat.reduceLT, Nat.reduceLeDiff, Nat.reduceEqDiff, Nat.reduceBEq, reduceCtorEq, Int.reduceLT, Int.reduceLE, Int.reduceEq, Int.reduceGT, Int.reduceGE, Int.reduceToNat, Int.reduceNeg, t0, t42, t43, hcmp, h28]
      refine .mk (.inr ⟨by simp, hx4, .inr ⟨rfl, ?_, fun h => hno (h i hi)⟩⟩)
      simp -implicitDefEqProofs only [go_sem, Nat.reduceAdd, Nat.reduceMul, Nat.reduceLT, Nat.reduceLeDiff, Nat.reduceEqDiff, Nat.reduceBEq, reduceCtorEq, Int.reduceLT, Int.reduceLE, Int.reduceEq, Int.reduceGT, Int.reduceGE, Int.reduceToNat, Int.reduceNeg]
  · rintro ⟨T1, H2⟩ ⟨t0, t42, t43, hx, hdone⟩
    simp only at t0 t42 t43 hx
    have hcmp : decide (((l.length : Nat) : Int) < ((l.length : Nat) : Int)) = false := decide_eq_false (by omega)
    unfold F27_L0
    simp -implicitDefEqProofs only [go_sem, Nat.reduceAdd, Nat.reduceMul, Nat.reduceLT, Nat.reduceLeDiff, Nat.reduceEqDiff, Nat.reduceBEq, reduceCtorEq, Int.reduceLT, Int.reduceLE, Int.reduceEq, Int.reduceGT, Int.reduceGE, Int.reduceToNat, Int.reduceNeg, t42, t43, hcmp]
    exact .mk ⟨by simp, hx, .inl ⟨rfl, hdone⟩⟩

theorem Sound_spec (d : Nat) {H : AH} (hw : H.wf) (hT : Tabs H) {ls : AV} {l : List Code} (hl : CodesRow H ls l) {main : Int} (hm : InI main) :
    Ret (RT (d + 5) 27 [ls, .int .i64 main] H) fun r => Ext H.next H r.2 ∧ ∃ b : Bool, r.1 = .bool b ∧ (b = true ↔ SoundP l main) := by
  rw [R27]
  unfold F27
  have hal := hl.alen
  have no : ¬ SoundP l main → Ret (some (AV.bool false, H)) fun r => Ext H.next H r.2 ∧ ∃ b : Bool, r.1 = .bool b ∧ (b = true ↔ SoundP l main) := fun h => .mk ⟨.refl hw, false, rfl, by simp [h]⟩
  by_cases p1 : ((l.length : Nat) : Int) < 1
  · simp -implicitDefEqProofs only [go_sem, Nat.reduceAdd, Nat.reduceMul, Nat.reduceLT, Nat.reduceLeDiff, Nat.reduceEqDiff, Nat.reduceBEq, reduceCtorEq, Int.reduceLT, Int.reduceLE, Int.reduceEq, Int.reduceGT, Int.reduceGE, Int.reduceToNat, Int.reduceNeg, hal, decide_eq_true p1]
    exact no fun h => by have := h.1; omega
  by_cases p2 : ((l.length : Nat) : Int) > 40
  · simp -implicitDefEqProofs only [go_sem, Nat.reduceAdd, Nat.reduceMul, Nat.reduceLT, Nat.reduceLeDiff, Nat.reduceEqDiff, Nat.reduceBEq, reduceCtorEq, Int.reduceLT, Int.reduceLE, Int.reduceEq, Int.reduceGT, Int.reduceGE, Int.reduceToNat, Int.reduceNeg, hal, decide_eq_false p1, decide_eq_true p2]
    exact no fun h => by have := h.2.1; omega
  by_cases p3 : main < 0
  · simp -implicitDefEqProofs only [go_sem, Nat.reduceAdd, Nat.reduceMul, Nat.reduceLT, Nat.reduceLeDiff, Nat.reduceEqDiff, Nat.reduceBEq, reduceCtorEq, Int.reduceLT, Int.reduceLE, Int.reduceEq, Int.reduceGT, Int.reduceGE, Int.reduceToNat, Int.reduceNeg, hal, decide_eq_false p1, decide_eq_false p2, decide_eq_true p3]
    exact no fun h => by have := h.2.2.1; omega
  by_cases p4 : main ≥ ((l.length : Nat) : Int)
  · simp -implicitDefEqProofs only [go_sem, Nat.reduceAdd, Nat.reduceMul, Nat.reduceLT, Nat.reduceLeDiff, Nat.reduceEqDiff, Nat.reduceBEq, reduceCtorEq, Int.reduceLT, Int.reduceLE, Int.reduceEq, Int.reduceGT, Int.reduceGE, Int.reduceToNat, Int.reduceNeg, hal, decide_eq_false p1, decide_eq_false p2, decide_eq_false p3, decide_eq_true p4]
    exact no fun h => by have := h.2.2.2.1; omega
  obtain ⟨b, o, c, q1, q2, _, _, q5, q6, _⟩ := codes_at hl (n := main) (by omega) (by omega)
  have hpa : paramsAt l main = c.params := by simp [paramsAt, q1]
  have haa : answersAt l main = c.answers := by simp [answersAt, q1]
  by_cases p5 : c.params = 0
  · cases p6 : c.answers
    · rw [p6] at q6
      simp -implicitDefEqProofs only [go_sem, Nat.reduceAdd, Nat.reduceMul, Nat.reduceLT, Nat.reduceLeDiff, Nat.reduceEqDiff, Nat.reduceBEq, reduceCtorEq, Int.reduceLT, Int.reduceLE, Int.reduceEq, Int.reduceGT, Int.reduceGE, Int.reduceToNat, Int.reduceNeg, hal, decide_eq_false p1, decide_eq_false p2, decide_eq_false p3, decide_eq_false p4, q2, q5, q6, decide_eq_true p5]
      refine Ret.then (sound_loop d hw hT hl ⟨?_, ?_, ?_, .refl hw, fun k hk => absurd hk (Nat.not_lt_zero _)⟩) ?_
      · simp -implicitDefEqProofs only [go_sem, Nat.reduceAdd, Nat.reduceMul, Nat.reduceLT, Nat.reduceLeDiff, Nat.reduceEqDiff, Nat.reduceBEq, reduceCtorEq, Int.reduceLT, Int.reduceLE, Int.reduceEq, Int.reduceGT, Int.reduceGE, Int.reduceToNat, Int.reduceNeg]
      · simp -implicitDefEqProofs only [go_sem, Nat.reduceAdd, Nat.reduceMul, Nat.reduceLT, Nat.reduceLeDiff, Nat.reduceEqDiff, Nat.reduceBEq, reduceCtorEq, Int.reduceLT, Int.reduceLE, Int.reduceEq, Int.reduceGT, Int.reduceGE, Int.reduceToNat, Int.reduceNeg]
      · simp -implicitDefEqProofs only [go_sem, Nat.reduceAdd, Nat.reduceMul, Nat.reduceLT, Nat.reduceLeDiff, Nat.reduceEqDiff, Nat.reduceBEq, reduceCtorEq, Int.reduceLT, Int.reduceLE, Int.reduceEq, Int.reduceGT, Int.reduceGE, Int.reduceToNat, Int.reduceNeg]
        rfl
      · rintro ⟨e, T, H1⟩ ⟨hx, ⟨rfl, hall⟩ | ⟨rfl, h4, hno⟩⟩
        · simp only at hx
          simp -implicitDefEqProofs only [go_sem, Nat.reduceAdd, Nat.reduceMul, Nat.reduceLT, Nat.reduceLeDiff, Nat.reduceEqDiff, Nat.reduceBEq, reduceCtorEq, Int.reduceLT, Int.reduceLE, Int.reduceEq, Int.reduceGT, Int.reduceGE, Int.reduceToNat, Int.reduceNeg]
          exact .mk ⟨hx, true, rfl, by simp only [true_iff]; exact ⟨by omega, by omega, by omega, by omega, by rw [hpa, p5], by rw [haa, p6], hall⟩⟩
        · simp only at hx h4
          simp -implicitDefEqProofs only [go_sem, Nat.reduceAdd, Nat.reduceMul, Nat.reduceLT, Nat.reduceLeDiff, Nat.reduceEqDiff, Nat.reduceBEq, reduceCtorEq, Int.reduceLT, Int.reduceLE, Int.reduceEq, Int.reduceGT, Int.reduceGE, Int.reduceToNat, Int.reduceNeg, h4]
          exact .mk ⟨hx, false, rfl, by simp only [Bool.false_eq_true, false_iff]; exact fun h => hno h.2.2.2.2.2.2⟩
    · rw [p6] at q6
      simp -implicitDefEqProofs only [go_sem, Nat.reduceAdd, Nat.reduceMul, Nat.reduceLT, Nat.reduceLeDiff, Nat.reduceEqDiff, Nat.reduceBEq, reduceCtorEq, Int.reduceLT, Int.reduceLE, Int.reduceEq, Int.reduceGT, Int.reduceGE, Int.reduceToNat, Int.reduceNeg, hal, decide_eq_false p1, decide_eq_false p2, decide_eq_false p3, decide_eq_false p4, q2, q5, q6, decide_eq_true p5]
      exact no fun h => by have := h.2.2.2.2.2.1; rw [haa, p6] at this; cases this
  · simp -implicitDefEqProofs only [go_sem, Nat.reduceAdd, Nat.reduceMul, Nat.reduceLT, Nat.reduceLeDiff, Nat.reduceEqDiff, Nat.reduceBEq, reduceCtorEq, Int.reduceLT, Int.reduceLE, Int.reduceEq, Int.reduceGT, Int.reduceGE, Int.reduceToNat, Int.reduceNeg, hal, decide_eq_false p1, decide_eq_false p2, decide_eq_false p3, decide_eq_false p4, q2, q5, decide_eq_false p5]
    exact no fun h => p5 (by rw [← hpa]; exact h.2.2.2.2.1)

/-! ### How great -/
theorem Size_spec (d : Nat) {H : AH} {ls : AV} {l : List Code} (hl : CodesRow H ls l) (most : Int) : Ret (RT (d + 1) 26 [ls, .int .i64 most] H) fun r => (∃ n, r.1 = .int .i64 n) ∧ r.2 = H := by
  rw [R26]
  unfold F26
  have hfew := hl.few
  have hal := hl.alen
  refine Ret.then (Q' := fun r => r.1 = .exit 0 ∧ (∃ n, r.2.1 5 = .int .i64 n) ∧ r.2.2 = H) (Ret.upTo (n := l.length) (fun i t => t.1 0 = ls ∧ t.1 1 = .int .i64 most ∧ (∃ n, t.1 5 = .int .i64 n) ∧ t.1 6 = .int .i64 (i : Nat) ∧ t.2 = H) (by unfold big; omega) ⟨?_, ?_, ⟨0, ?_⟩, ?_, rfl⟩ ?_ ?_) ?_
  · simp -implicitDefEqProofs only [go_sem, Nat.reduceAdd, Nat.reduceMul, Nat.reduceLT, Nat.reduceLeDiff, Nat.reduceEqDiff, Nat.reduceBEq, reduceCtorEq, Int.reduceLT, Int.reduceLE, Int.reduceEq, Int.reduceGT, Int.reduceGE, Int.reduceToNat, Int.reduceNeg]
  · simp -implicitDefEqProofs only [go_sem, Nat.reduceAdd, Nat.reduceMul, Nat.reduceLT, Nat.reduceLeDiff, Nat.reduceEqDiff, Nat.reduceBEq, reduceCtorEq, Int.reduceLT, Int.reduceLE, Int.reduceEq, Int.reduceGT, Int.reduceGE, Int.reduceToNat, Int.reduceNeg]
  · simp -implicitDefEqProofs only [go_sem, Nat.reduceAdd, Nat.reduceMul, Nat.reduceLT, Nat.reduceLeDiff, Nat.reduceEqDiff, Nat.reduceBEq, reduceCtorEq, Int.reduceLT, Int.reduceLE, Int.reduceEq, Int.reduceGT, Int.reduceGE, Int.reduceToNat, Int.reduceNeg]
  · simp -implicitDefEqProofs only [go_sem, Nat.reduceAdd, Nat.reduceMul, Nat.reduceLT, Nat.reduceLeDiff, Nat.reduceEqDiff, Nat.reduceBEq, reduceCtorEq, Int.reduceLT, Int.reduceLE, Int.reduceEq, Int.reduceGT, Int.reduceGE, Int.reduceToNat, Int.reduceNeg]
    rfl
  · rintro i ⟨T1, H2⟩ hi ⟨t0, t1, ⟨n, t5⟩, t6, hH⟩
    simp only at t0 t1 t5 t6 hH
    subst hH
    have hcmp : decide (((i : Nat) : Int) < ((l.length : Nat) : Int)) = true := decide_eq_true (by omega)
    obtain ⟨b, o, c, q1, q2, ⟨s, _, q4, q3⟩, _⟩ := codes_at hl (n := ((i : Nat) : Int)) (by omega) (by omega)
    have hia := q4.alen
    unfold F26_L0
    by_cases hle : n ≤ most
    · rw [Nat.add_zero] at q3
      simp -implicitDefEqProofs only [go_sem, Nat.reduceAdd, Nat.reduceMul, Nat.reduceLT, Nat.reduceLeDiff, Nat.reduceEqDiff, Nat.reduceBEq, reduceCtorEq, Int.reduceLT, Int.reduceLE, Int.reduceEq, Int.reduceGT, Int.reduceGE, Int.reduceToNat, Int.reduceNeg, t0, t1, t5, t6, hal, hcmp, decide_eq_true hle, q2, q3, hia, wrapS (i := i) (by omega)]
      refine .mk (.inl ⟨rfl, ?_, ?_, ?_, ?_, rfl⟩)
      · simp -implicitDefEqProofs only [go_sem, Nat.reduceAdd, Nat.reduceMul, Nat.reduceLT, Nat.reduceLeDiff, Nat.reduceEqDiff, Nat.reduceBEq, reduceCtorEq, Int.reduceLT, Int.reduceLE, Int.reduceEq, Int.reduceGT, Int.reduceGE, Int.reduceToNat, Int.reduceNeg, t0]
      · simp -implicitDefEqProofs only [go_sem, Nat.reduceAdd, Nat.reduceMul, Nat.reduceLT, Nat.reduceLeDiff, Nat.reduceEqDiff, Nat.reduceBEq, reduceCtorEq, Int.reduceLT, Int.reduceLE, Int.reduceEq, Int.reduceGT, Int.reduceGE, Int.reduceToNat, Int.reduceNeg, t1]
      · simp -implicitDefEqProofs only [go_sem, Nat.reduceAdd, Nat.reduceMul, Nat.reduceLT, Nat.reduceLeDiff, Nat.reduceEqDiff, Nat.reduceBEq, reduceCtorEq, Int.reduceLT, Int.reduceLE, Int.reduceEq, Int.reduceGT, Int.reduceGE, Int.reduceToNat, Int.reduceNeg]
        exact ⟨_, rfl⟩
      · simp -implicitDefEqProofs only [go_sem, Nat.reduceAdd, Nat.reduceMul, Nat.reduceLT, Nat.reduceLeDiff, Nat.reduceEqDiff, Nat.reduceBEq, reduceCtorEq, Int.reduceLT, Int.reduceLE, Int.reduceEq, Int.reduceGT, Int.reduceGE, Int.reduceToNat, Int.reduceNeg]
    · simp -implicitDefEqProofs only [go_sem, Nat.reduceAdd, Nat.reduceMul, Nat.reduceLT, Nat.reduceLeDiff, Nat.reduceEqDiff, Nat.reduceBEq, reduceCtorEq, Int.reduceLT, Int.reduceLE, Int.reduceEq, Int.reduceGT, Int.reduceGE, Int.reduceToNat, Int.reduceNeg, t0, t1, t5, t6, hal, hcmp, decide_eq_false hle]
      refine .mk (.inr ⟨by simp, rfl, ⟨n, ?_⟩, rfl⟩)
      simp -implicitDefEqProofs only [go_sem, Nat.reduceAdd, Nat.reduceMul, Nat.reduceLT, Nat.reduceLeDiff, Nat.reduceEqDiff, Nat.reduceBEq, reduceCtorEq, Int.reduceLT, Int.reduceLE, Int.reduceEq, Int.reduceGT, Int.reduceGE, Int.reduceToNat, Int.reduceNeg, t5]
  · rintro ⟨T1, H2⟩ ⟨t0, t1, ⟨n, t5⟩, t6, hH⟩
    simp only at t0 t1 t5 t6 hH
    have hcmp : decide (((l.length : Nat) : Int) < ((l.length : Nat) : Int)) = false := decide_eq_false (by omega)
    unfold F26_L0
    simp -implicitDefEqProofs only [go_sem, Nat.reduceAdd, Nat.reduceMul, Nat.reduceLT, Nat.reduceLeDiff, Nat.reduceEqDiff, Nat.reduceBEq, reduceCtorEq, Int.reduceLT, Int.reduceLE, Int.reduceEq, Int.reduceGT, Int.reduceGE, Int.reduceToNat, Int.reduceNeg, t0, t6, hal, hcmp]
    refine .mk ⟨by simp, rfl, ⟨n, ?_⟩, hH⟩
    simp -implicitDefEqProofs only [go_sem, Nat.reduceAdd, Nat.reduceMul, Nat.reduceLT, Nat.reduceLeDiff, Nat.reduceEqDiff, Nat.reduceBEq, reduceCtorEq, Int.reduceLT, Int.reduceLE, Int.reduceEq, Int.reduceGT, Int.reduceGE, Int.reduceToNat, Int.reduceNeg, t5]
  · rintro ⟨e, T1, H2⟩ ⟨rfl, ⟨n, t5⟩, hH⟩
    simp only at t5 hH
    simp -implicitDefEqProofs only [go_sem, Nat.reduceAdd, Nat.reduceMul, Nat.reduceLT, Nat.reduceLeDiff, Nat.reduceEqDiff, Nat.reduceBEq, reduceCtorEq, Int.reduceLT, Int.reduceLE, Int.reduceEq, Int.reduceGT, Int.reduceGE, Int.reduceToNat, Int.reduceNeg, t5]
    exact .mk ⟨⟨n, rfl⟩, hH⟩
theorem great_spec (d : Nat) {H : AH} {ls : AV} {l : List Code} (hl : CodesRow H ls l) : Ret (RT (d + 2) 25 [ls] H) fun r => (∃ b, r.1 = .bool b) ∧ r.2 = H := by
  rw [R25]
  unfold F25
  obtain ⟨⟨v1, H1⟩, h1, ⟨n1, hn1⟩, hH1⟩ := Size_spec d hl 1500
  obtain ⟨⟨v2, H2⟩, h2, ⟨n2, hn2⟩, hH2⟩ := Size_spec d hl 70000
  simp only at hn1 hH1 hn2 hH2
  subst hn1 hH1 hn2 hH2
  have hal := hl.alen
  by_cases p1 : n1 > 1500
  · by_cases p2 : n2 ≤ 70000
    · simp -implicitDefEqProofs only [go_sem, Nat.reduceAdd, Nat.reduceMul, Nat.reduceLT, Nat.reduceLeDiff, Nat.reduceEqDiff, Nat.reduceBEq, reduceCtorEq, Int.reduceLT, Int.reduceLE, Int.reduceEq, Int.reduceGT, Int.reduceGE, Int.reduceToNat, Int.reduceNeg, h1, h2, decide_eq_true p1, decide_eq_true p2]
      exact .mk ⟨⟨_, rfl⟩, rfl⟩
    · simp -implicitDefEqProofs only [go_sem, Nat.reduceAdd, Nat.reduceMul, Nat.reduceLT, Nat.reduceLeDiff, Nat.reduceEqDiff, Nat.reduceBEq, reduceCtorEq, Int.reduceLT, Int.reduceLE, Int.reduceEq, Int.reduceGT, Int.reduceGE, Int.reduceToNat, Int.reduceNeg, h1, h2, hal, decide_eq_true p1, decide_eq_false p2]
      exact .mk ⟨⟨_, rfl⟩, rfl⟩
  · simp -implicitDefEqProofs only [go_sem, Nat.reduceAdd, Nat.reduceMul, Nat.reduceLT, Nat.reduceLeDiff, Nat.reduceEqDiff, Nat.reduceBEq, reduceCtorEq, Int.reduceLT, Int.reduceLE, Int.reduceEq, Int.reduceGT, Int.reduceGE, Int.reduceToNat, Int.reduceNeg, h1, h2, hal, decide_eq_false p1]
    exact .mk ⟨⟨_, rfl⟩, rfl⟩
end Go.Proofs.YthiflgncldmkjaaDoor
/- One code more: what is sound stays so. -/
set_option linter.unusedVariables false
set_option linter.unusedSimpArgs false
set_option maxRecDepth 100000
namespace Go.Ri
theorem Ext.res {N : Nat} {H0 H : AH} (h : Ext N H0 H) (n : Nat) : Ext N H0 (H.res n) := ⟨h.low, Nat.le_trans h.next (by simp), fun b B hB => Nat.lt_of_lt_of_le (h.wf b B hB) (by simp)⟩
end Go.Ri
namespace Go.Proofs.YthiflgncldmkjaaDoor
open Go.Ri

theorem may_call {l : List Code} {c : Code} {i : Ins} (hm : mayI l c i = true) (e : i.op = 19) : 0 ≤ i.n ∧ i.n < (l.length : Nat) ∧ 0 ≤ i.m ∧ i.m ≤ 8 ∧ i.m = paramsAt l i.n := by
  unfold mayI at hm
  split at hm
  · cases hm
  · simp [e] at hm
    omega
theorem paramsAt_more (l : List Code) (x : List Code) {n : Int} (h : n.toNat < l.length) : paramsAt (l ++ x) n = paramsAt l n ∧ answersAt (l ++ x) n = answersAt l n := by
  simp [paramsAt, answersAt, List.getElem?_append_left h]
theorem mayI_call {l : List Code} {c : Code} {i : Ins} (e : i.op = 19) : mayI l c i = if (lineOf i.op i.n i.m).isNone = true then false else decide (0 ≤ i.n) && decide (i.n < (l.length : Nat)) && decide (0 ≤ i.m) && decide (i.m ≤ 8) && decide (i.m = paramsAt l i.n) := by
  unfold mayI
  rw [if_neg (show ¬ (i.op = 2 ∨ i.op = 3) by omega), if_neg (show ¬ (i.op = 4 ∨ i.op = 5 ∨ i.op = 6) by omega), if_neg (show ¬ (i.op = 17 ∨ i.op = 18) by omega), if_pos e]
theorem mayI_more {l : List Code} {c : Code} {i : Ins} (hm : mayI l c i = true) (x : List Code) : mayI (l ++ x) c i = true := by
  by_cases e : i.op = 19
  · obtain ⟨h1, h2, h3, h4, h5⟩ := may_call hm e
    have hp := (paramsAt_more l x (n := i.n) (by omega)).1
    rw [mayI_call e] at hm ⊢
    split at hm
    · cases hm
    · rename_i h
      rw [if_neg h, hp]
      simp only [Bool.and_eq_true, decide_eq_true_eq, List.length_append]
      refine ⟨⟨⟨⟨h1, by omega⟩, h3⟩, h4⟩, h5⟩
  · unfold mayI at hm ⊢
    rw [if_neg e] at hm ⊢
    exact hm
theorem Good.more {l : List Code} {c : Code} {h : List Int} (g : Good l c h) (hmay : ∀ i ∈ c.ins, mayI l c i = true) (x : List Code) : Good (l ++ x) c h := by
  refine ⟨g.len, g.zero, fun a i y hi hy h0 => ?_, g.reach⟩
  have hm := hmay i (List.mem_of_getElem? hi)
  have htk : tk (l ++ x) i = tk l i := rfl
  have hlv : lv (l ++ x) i = lv l i := by
    unfold lv
    by_cases e : i.op = 19
    · obtain ⟨h1, h2, _⟩ := may_call hm e
      rw [if_pos e, if_pos e, (paramsAt_more l x (n := i.n) (by omega)).2]
    · rw [if_neg e, if_neg e]
  obtain ⟨h1, h2⟩ := g.step a i y hi hy h0
  exact ⟨h1, fun p hp => by rw [htk, hlv]; exact h2 p hp⟩
theorem Hts.more {l : List Code} {k : Int} {h : List Int} (g : Hts l k h) (x : List Code) : Hts (l ++ x) k h := by
  obtain ⟨c, h0, h1, h2, h3⟩ := g
  refine ⟨c, h0, ?_, ⟨h2.some_, h2.few, h2.cells, h2.params, fun i hi => mayI_more (h2.may i hi) x⟩, h3.more h2.may x⟩
  rw [List.getElem?_append_left (List.getElem?_eq_some_iff.1 h1).1]
  exact h1
theorem SoundP.more {l : List Code} {main : Int} (h : SoundP l main) (c : Code) (hl : (l ++ [c]).length ≤ 40) : SoundP (l ++ [c]) main ↔ ∃ g, Hts (l ++ [c]) ((l.length : Nat) : Int) g := by
  obtain ⟨h1, h2, h3, h4, h5, h6, h7⟩ := h
  constructor
  · intro hs
    exact hs.2.2.2.2.2.2 l.length (by simp)
  · intro hg
    have hm := paramsAt_more l [c] (n := main) (by omega)
    refine ⟨by simp, hl, h3, by simp; omega, by rw [hm.1, h5], by rw [hm.2, h6], fun k hk => ?_⟩
    by_cases hkl : k < l.length
    · obtain ⟨g, hg'⟩ := h7 k hkl
      exact ⟨g, hg'.more [c]⟩
    · have : k = l.length := by simp at hk; omega
      subst this
      exact hg

/-- A code more behind a row of codes. -/
theorem codes_more {N : Nat} {H : AH} {sv : AV} {rows : List (List AV)} {l : List Code} {x : List AV} {c : Code} (hown : Own N 4 24 H sv (rows.flatten ++ x)) (hr : ∀ x ∈ rows, x.length = 4) (hl : rows.length = l.length)
    (hc : ∀ i (h : i < rows.length) (h' : i < l.length), CodeAt H rows[i] l[i]) (hx : CodeAt H x c) (hfew : l.length + 1 ≤ 9223372036854775807) : CodesRow H sv (l ++ [c]) := by
  have hx4 : x.length = 4 := by obtain ⟨s, rfl, _⟩ := hx; rfl
  have e : rows.flatten ++ x = (rows ++ [x]).flatten := by simp
  rw [e] at hown
  refine ⟨rows ++ [x], hown.row (by omega) fun y hy => ?_, ⟨by simp [hl], by simpa using hfew⟩, fun i h h' => ?_⟩
  · simp only [List.mem_append, List.mem_cons, List.not_mem_nil, or_false] at hy
    rcases hy with hy | rfl
    · exact hr y hy
    · exact hx4
  · by_cases hi : i < l.length
    · rw [List.getElem_append_left (by omega), List.getElem_append_left hi]
      exact hc i (by omega) hi
    · have : i = l.length := by simp at h'; omega
      subst this
      rw [List.getElem_append_right (by omega), List.getElem_append_right (Nat.le_refl _)]
      simp only [hl, Nat.sub_self, List.getElem_cons_zero]
      exact hx

theorem aBin_bool (a b : Bool) : aBin Tryd.prog .eql 4 (.bool a) (.bool b) = some (.bool (a == b)) := by kernel_rfl
theorem law_more (d : Nat) {H : AH} (hw : H.wf) (hT : Tabs H) {ls : AV} {l : List Code} (hl : CodesRow H ls l) (hbig : l.length * 48 ≤ 140737488351232) {main : Int} (hm : InI main) {x : List AV} {c : Code} (hx : CodeAt H x c) :
    Ret (RT (d + 6) 5 [ls, .int .i64 main, .agg x] H) fun r => r.1 = .bool true := by
  rw [R5]
  unfold F5
  obtain ⟨s, rfl, hxr⟩ := hx
  have hx : CodeAt H [s, .int .i64 c.cells, .int .i64 c.params, .bool c.answers] c := ⟨s, rfl, hxr⟩
  have hx1 : Ext H.next H (H.new [s, .int .i64 c.cells, .int .i64 c.params, .bool c.answers] 24) := (Ext.refl hw).new _ _
  have hx2 := hx1.res 1
  have hl0 := hl
  obtain ⟨rows, hrow, ⟨hrn, _⟩, hrc⟩ := hl
  obtain ⟨hs1, hs2⟩ := (hrow.mono (hx2.sub hw)).src
  have hs3 := flat_len rows hrow.len
  have happ := app_own (n := rows.length) (x := ls) (ds := rows.flatten) ysl36 ysl36.seq (Own.nil (H.next + 2) 4 24 ((H.new [s, .int .i64 c.cells, .int .i64 c.params, .bool c.answers] 24).res 1)) (Ext.self hx2.wf (by simp)) hs1 hs2 hs3 (by simp [hs3]; omega)
  obtain ⟨⟨r1, H1⟩, ha1, g1, g2, g3, g4, g5⟩ := happ
  simp only at g1 g2 g3 g4 g5
  simp only [List.nil_append] at g1
  have hnil : ∀ b, ¬ At (.slice none 0 (.kn 0)) b := fun b ⟨n, c, h⟩ => by cases h
  have hbox : H1.m H.next = some ⟨[s, .int .i64 c.cells, .int .i64 c.params, .bool c.answers], 24, true⟩ := by rw [g2.low _ (by omega)]; simp
  have hx3 : Ext H.next H H1 := hx2.trans (g2.less (by omega)) (Nat.le_refl _)
  -- the new element
  have hn2 : H.next + 2 ≤ H1.next := by simpa using g3
  have hx4 : Ext H.next H (H1.put (H.next + 1) ⟨[s, .int .i64 c.cells, .int .i64 c.params, .bool c.answers], 24, true⟩) := hx3.put (by omega) (by omega) _
  have g1' := g1.put (b := H.next + 1) (fun h => by rcases g5 _ h with h | h; exact hnil _ h; simp at h; omega) ⟨[s, .int .i64 c.cells, .int .i64 c.params, .bool c.answers], 24, true⟩
  obtain ⟨⟨r2, H2⟩, ha2, k1, k2, k3, k4, k5⟩ := app_own (n := 1) (x := .slice (some (H.next + 1, 0)) 1 (.kn 1)) (ds := [s, .int .i64 c.cells, .int .i64 c.params, .bool c.answers]) ysl36 ysl36.seq (g1'.low (Nat.le_add_right _ 2)) hx4 rfl (by simp [srcN, AH.ldN]) rfl (by simp [hs3]; omega)
  simp only at k1 k2 k3 k4 k5
  have hc2 : CodesRow H2 r2 (l ++ [c]) := codes_more k1 hrow.len hrn (fun i h h' => (hrc i h h').mono (k2.sub hw)) (hx.mono (k2.sub hw)) (by omega)
  have hT2 := hT.ext k2 hT.two
  have hl2 := hl0.mono (k2.sub hw)
  obtain ⟨⟨v3, H3⟩, h25, ⟨b3, hb3⟩, hH3⟩ := great_spec (d + 3) hc2
  simp only at hb3 hH3
  subst hb3 hH3
  obtain ⟨⟨v4, H4⟩, h26, ⟨n4, hn4⟩, hH4⟩ := Size_spec (d + 4) hc2 70000
  simp only at hn4 hH4
  subst hn4 hH4
  have hal2 := hc2.alen
  obtain ⟨⟨v5, H5⟩, h27, hx5, b5, hb5, hs5⟩ := Sound_spec d k2.wf hT2 hl2 hm
  simp only at hb5 hx5
  subst hb5
  have hx25 : Ext H.next H H5 := k2.trans hx5 k2.next
  have fin : ∀ G : AH, Ext H.next H G → RT (d + 5) 22 [] G = some (.bool true, G) := fun G hG => RT_22 _ (hT.ext hG hT.two)
  have hcell : ∀ G : AH, G.m H.next = some ⟨[s, .int .i64 c.cells, .int .i64 c.params, .bool c.answers], 24, true⟩ → (G.m H.next).bind (fun B => B.cells[0]?) = some s := fun G h => by rw [h]; rfl
  cases b3
  · by_cases p1 : n4 > 70000
    · simp -implicitDefEqProofs only [go_sem, Nat.reduceAdd, Nat.reduceMul, Nat.reduceLT, Nat.reduceLeDiff, Nat.reduceEqDiff, Nat.reduceBEq, reduceCtorEq, Int.reduceLT, Int.reduceLE, Int.reduceEq, Int.reduceGT, Int.reduceGE, Int.reduceToNat, Int.reduceNeg, ha1, hbox, ha2, h25, h26, decide_eq_true p1, fin _ k2]
      exact .mk rfl
    · by_cases p2 : (((l ++ [c]).length : Nat) : Int) > 40
      · simp -implicitDefEqProofs only [go_sem, Nat.reduceAdd, Nat.reduceMul, Nat.reduceLT, Nat.reduceLeDiff, Nat.reduceEqDiff, Nat.reduceBEq, reduceCtorEq, Int.reduceLT, Int.reduceLE, Int.reduceEq, Int.reduceGT, Int.reduceGE, Int.reduceToNat, Int.reduceNeg, ha1, hbox, ha2, h25, h26, decide_eq_false p1, hal2, decide_eq_true p2, fin _ k2]
        exact .mk rfl
      · cases b5
        · simp -implicitDefEqProofs only [go_sem, Nat.reduceAdd, Nat.reduceMul, Nat.reduceLT, Nat.reduceLeDiff, Nat.reduceEqDiff, Nat.reduceBEq, reduceCtorEq, Int.reduceLT, Int.reduceLE, Int.reduceEq, Int.reduceGT, Int.reduceGE, Int.reduceToNat, Int.reduceNeg, ha1, hbox, ha2, h25, h26, decide_eq_false p1, hal2, decide_eq_false p2, h27, fin _ hx25]
          exact .mk rfl
        · have hsl : SoundP l main := hs5.1 rfl
          have hc5 := hc2.mono (hx5.sub k2.wf)
          have hal5 := hl0.alen
          obtain ⟨⟨v6, H6⟩, h28, hx6, hr6⟩ := Heights_spec (d + 1) hx25.wf (hT.ext hx25 hT.two) hc5 (k := ((l.length : Nat) : Int)) (by unfold InI; omega)
          simp only at hx6 hr6
          have hx26 : Ext H.next H H6 := hx25.trans hx6 hx25.next
          obtain ⟨⟨v7, H7⟩, h27', hx7, b7, hb7, hs7⟩ := Sound_spec d hx26.wf (hT.ext hx26 hT.two) (hc5.mono (hx6.sub hx25.wf)) hm
          simp only at hb7 hx7
          subst hb7
          have hx27 : Ext H.next H H7 := hx26.trans hx7 hx26.next
          have hiff := hsl.more c (by omega)
          rcases hr6 with ⟨hs6, h6, rfl, _, hh6⟩ | ⟨rfl, hno⟩
          · have hb : b7 = true := hs7.2 (hiff.2 ⟨h6, hh6⟩)
            subst hb
            simp -implicitDefEqProofs only [go_sem, Nat.reduceAdd, Nat.reduceMul, Nat.reduceLT, Nat.reduceLeDiff, Nat.reduceEqDiff, Nat.reduceBEq, reduceCtorEq, Int.reduceLT, Int.reduceLE, Int.reduceEq, Int.reduceGT, Int.reduceGE, Int.reduceToNat, Int.reduceNeg, ha1, hbox, ha2, h25, h26, decide_eq_false p1, hal2, decide_eq_false p2, h27, hal5, h28, h27', aBin_bool, fin _ hx27]
            exact .mk rfl
          · have hb : b7 = false := by
              cases b7
              · rfl
              · exact absurd (hiff.1 (hs7.1 rfl)) hno
            subst hb
            simp -implicitDefEqProofs only [go_sem, Nat.reduceAdd, Nat.reduceMul, Nat.reduceLT, Nat.reduceLeDiff, Nat.reduceEqDiff, Nat.reduceBEq, reduceCtorEq, Int.reduceLT, Int.reduceLE, Int.reduceEq, Int.reduceGT, Int.reduceGE, Int.reduceToNat, Int.reduceNeg, ha1, hbox, ha2, h25, h26, decide_eq_false p1, hal2, decide_eq_false p2, h27, hal5, h28, h27', aBin_bool, fin _ hx27]
            exact .mk rfl
  · simp -implicitDefEqProofs only [go_sem, Nat.reduceAdd, Nat.reduceMul, Nat.reduceLT, Nat.reduceLeDiff, Nat.reduceEqDiff, Nat.reduceBEq, reduceCtorEq, Int.reduceLT, Int.reduceLE, Int.reduceEq, Int.reduceGT, Int.reduceGE, Int.reduceToNat, Int.reduceNeg, ha1, hbox, ha2, h25, fin _ k2]
    exact .mk rfl
end Go.Proofs.YthiflgncldmkjaaDoor
/- The document's small functions on codes: cells, may, effect, follow, shape. -/
set_option linter.unusedVariables false
set_option linter.unusedSimpArgs false
set_option maxRecDepth 100000
namespace Go.Ri
theorem new_put1 (H : AH) (a cs cs' : List AV) (ea e e' : TypeId) : ((H.new a ea).new cs e).put (H.next + 1) ⟨cs', e', true⟩ = (H.new a ea).new cs' e' := new_put (H.new a ea) cs cs' e e'
end Go.Ri
namespace Go.Proofs.YthiflgncldmkjaaDoor
open Go.Ri

theorem cells_spec (d : Nat) {H : AH} {s : AV} {c : Code} (hc : InI c.cells) {n m : Int} (hn : InI n) (hm : InI m) :
    RT (d + 1) 119 [.agg [s, .int .i64 c.cells, .int .i64 c.params, .bool c.answers], .int .i64 n, .int .i64 m] H = some (.bool (within c n m), H.new [s, .int .i64 c.cells, .int .i64 c.params, .bool c.answers] 24) := by
  rw [R119]
  unfold F119
  by_cases h1 : n ≥ 0
  · by_cases h2 : m ≥ 1
    · by_cases h3 : m ≤ c.cells
      · have hw : IntKind.i64.wrap (c.cells - m) = c.cells - m := wrap_id (by unfold InI at *; omega)
        simp -implicitDefEqProofs only [go_sem, Nat.reduceAdd, Nat.reduceMul, Nat.reduceLT, Nat.reduceLeDiff, Nat.reduceEqDiff, Nat.reduceBEq, reduceCtorEq, Int.reduceLT, Int.reduceLE, Int.reduceEq, Int.reduceGT, Int.reduceGE, Int.reduceToNat, Int.reduceNeg, decide_eq_true h1, decide_eq_true h2, decide_eq_true h3, hw]
        have e : within c n m = decide (n ≤ c.cells - m) := by
          unfold within
          by_cases q : n ≤ c.cells - m
          · rw [decide_eq_true (show 0 ≤ n from h1), decide_eq_true (show 1 ≤ m from h2), decide_eq_true (show n ≤ c.cells by omega), decide_eq_true (show m ≤ c.cells - n by omega), decide_eq_true q]; rfl
          · rw [decide_eq_false q, decide_eq_false (show ¬ (m ≤ c.cells - n) by omega)]; simp
        rw [e]
      · simp -implicitDefEqProofs only [go_sem, Nat.reduceAdd, Nat.reduceMul, Nat.reduceLT, Nat.reduceLeDiff, Nat.reduceEqDiff, Nat.reduceBEq, reduceCtorEq, Int.reduceLT, Int.reduceLE, Int.reduceEq, Int.reduceGT, Int.reduceGE, Int.reduceToNat, Int.reduceNeg, decide_eq_true h1, decide_eq_true h2, decide_eq_false h3]
        have e : within c n m = false := by
          unfold within
          rw [decide_eq_false (show ¬ (m ≤ c.cells - n) by omega)]; simp
        rw [e]
    · simp -implicitDefEqProofs only [go_sem, Nat.reduceAdd, Nat.reduceMul, Nat.reduceLT, Nat.reduceLeDiff, Nat.reduceEqDiff, Nat.reduceBEq, reduceCtorEq, Int.reduceLT, Int.reduceLE, Int.reduceEq, Int.reduceGT, Int.reduceGE, Int.reduceToNat, Int.reduceNeg, decide_eq_true h1, decide_eq_false h2]
      have : ¬ (1 ≤ m) := h2
      simp [within, this]
  · simp -implicitDefEqProofs only [go_sem, Nat.reduceAdd, Nat.reduceMul, Nat.reduceLT, Nat.reduceLeDiff, Nat.reduceEqDiff, Nat.reduceBEq, reduceCtorEq, Int.reduceLT, Int.reduceLE, Int.reduceEq, Int.reduceGT, Int.reduceGE, Int.reduceToNat, Int.reduceNeg, decide_eq_false h1]
    have : ¬ (0 ≤ n) := h1
    simp [within, this]

theorem may_ref (d : Nat) {H : AH} (hw : H.wf) (hT : Tabs H) {ls s : AV} {l : List Code} {c : Code} (hcs : CodesRow H ls l) (hins : InsRow H s c.ins) (hcc : InI c.cells) {i : Ins} (hi : i.Ok) :
    Ret (RT (d + 2) 96 [ls, .agg [s, .int .i64 c.cells, .int .i64 c.params, .bool c.answers], .agg (insC i)] H) fun r => r.1 = .bool (mayI l c i) ∧ Ext H.next H r.2 := by
  rw [R96]
  unfold F96
  have hin : insC i = [.int .i64 i.op, .int .i64 i.n, .int .i64 i.m] := rfl
  have hx : Ext H.next H ((H.new [s, .int .i64 c.cells, .int .i64 c.params, .bool c.answers] 24).new (insC i) 29) := ((Ext.refl hw).new _ _).new _ _
  have hT1 := hT.ext hx hT.two
  have hcs1 := hcs.mono (hx.sub hw)
  have hins1 : InsRow _ s c.ins := ⟨hins.1.mono (hx.sub hw), hins.2⟩
  have hx2 := hx.new [s, .int .i64 c.cells, .int .i64 c.params, .bool c.answers] 24
  rw [hin] at hx hx2 hT1 hcs1 hins1 ⊢
  obtain ⟨op, n, m⟩ := i
  obtain ⟨ho, hn, hm⟩ := hi
  simp only at ho hn hm hx hx2 hT1 hcs1 hins1 ⊢
  have h63 := RT_63 (d + 1) (op := op) hn hm hT1
  have hal := hins1.alen
  have hcl := hcs1.alen
  rcases lineAV_of (i := ⟨op, n, m⟩) with ⟨hl, hv⟩ | ⟨t, hl, hv⟩
  · simp only at hl hv
    simp -implicitDefEqProofs only [go_sem, Nat.reduceAdd, Nat.reduceMul, Nat.reduceLT, Nat.reduceLeDiff, Nat.reduceEqDiff, Nat.reduceBEq, reduceCtorEq, Int.reduceLT, Int.reduceLE, Int.reduceEq, Int.reduceGT, Int.reduceGE, Int.reduceToNat, Int.reduceNeg, h63, hv]
    exact .mk ⟨by simp [mayI, hl], hx⟩
  · simp only at hl hv
    simp -implicitDefEqProofs only [go_sem, Nat.reduceAdd, Nat.reduceMul, Nat.reduceLT, Nat.reduceLeDiff, Nat.reduceEqDiff, Nat.reduceBEq, reduceCtorEq, Int.reduceLT, Int.reduceLE, Int.reduceEq, Int.reduceGT, Int.reduceGE, Int.reduceToNat, Int.reduceNeg, h63, hv]
    have hwn := fun (a b : Int) (ha : InI a) (hb : InI b) => cells_spec d (H := (H.new [s, .int .i64 c.cells, .int .i64 c.params, .bool c.answers] 24).new [.int .i64 op, .int .i64 n, .int .i64 m] 29) (s := s) hcc ha hb
    have hns : (lineOf op n m).isNone = false := by rw [hl]; rfl
    by_cases e2 : op = 2
    · subst e2
      simp -implicitDefEqProofs only [go_sem, Nat.reduceAdd, Nat.reduceMul, Nat.reduceLT, Nat.reduceLeDiff, Nat.reduceEqDiff, Nat.reduceBEq, reduceCtorEq, Int.reduceLT, Int.reduceLE, Int.reduceEq, Int.reduceGT, Int.reduceGE, Int.reduceToNat, Int.reduceNeg, F96_J3, hwn n 1 hn (by unfold InI; omega)]
      exact .mk ⟨by simp [mayI, hns], hx2⟩
    by_cases e3 : op = 3
    · subst e3
      simp -implicitDefEqProofs only [go_sem, Nat.reduceAdd, Nat.reduceMul, Nat.reduceLT, Nat.reduceLeDiff, Nat.reduceEqDiff, Nat.reduceBEq, reduceCtorEq, Int.reduceLT, Int.reduceLE, Int.reduceEq, Int.reduceGT, Int.reduceGE, Int.reduceToNat, Int.reduceNeg, F96_J3, hwn n 1 hn (by unfold InI; omega)]
      exact .mk ⟨by simp [mayI, hns], hx2⟩
    have hfin : (op = 4 ∨ op = 5 ∨ op = 6) → mayI l c ⟨op, n, m⟩ = (decide (m ≤ 64) && within c n m) := fun h => by
      rcases h with rfl | rfl | rfl <;> simp [mayI, hns]
    by_cases e4 : op = 4 ∨ op = 5 ∨ op = 6
    · have hf := hfin e4
      have hwn' := hwn n m hn hm
      cases hwb : within c n m
      · rw [hwb] at hwn'
        rcases e4 with rfl | rfl | rfl <;> simp -implicitDefEqProofs only [go_sem, Nat.reduceAdd, Nat.reduceMul, Nat.reduceLT, Nat.reduceLeDiff, Nat.reduceEqDiff, Nat.reduceBEq, reduceCtorEq, Int.reduceLT, Int.reduceLE, Int.reduceEq, Int.reduceGT, Int.reduceGE, Int.reduceToNat, Int.reduceNeg, F96_J3, F96_J2, hwn'] <;> exact .mk ⟨by rw [hf, hwb]; simp, hx2⟩
      · rw [hwb] at hwn'
        rcases e4 with rfl | rfl | rfl <;> simp -implicitDefEqProofs only [go_sem, Nat.reduceAdd, Nat.reduceMul, Nat.reduceLT, Nat.reduceLeDiff, Nat.reduceEqDiff, Nat.reduceBEq, reduceCtorEq, Int.reduceLT, Int.reduceLE, Int.reduceEq, Int.reduceGT, Int.reduceGE, Int.reduceToNat, Int.reduceNeg, F96_J3, F96_J2, hwn'] <;> exact .mk ⟨by rw [hf, hwb]; simp, hx2⟩
    have n4 : op ≠ 4 := fun h => e4 (.inl h)
    have n5 : op ≠ 5 := fun h => e4 (.inr (.inl h))
    have n6 : op ≠ 6 := fun h => e4 (.inr (.inr h))
    by_cases e17 : op = 17 ∨ op = 18
    · have hf : mayI l c ⟨op, n, m⟩ = (decide (0 ≤ n) && decide (n < (c.ins.length : Nat))) := by
        rcases e17 with rfl | rfl <;> simp [mayI, hns]
      by_cases h0 : n ≥ 0
      · rcases e17 with rfl | rfl <;> simp -implicitDefEqProofs only [go_sem, Nat.reduceAdd, Nat.reduceMul, Nat.reduceLT, Nat.reduceLeDiff, Nat.reduceEqDiff, Nat.reduceBEq, reduceCtorEq, Int.reduceLT, Int.reduceLE, Int.reduceEq, Int.reduceGT, Int.reduceGE, Int.reduceToNat, Int.reduceNeg, F96_J3, F96_J2, F96_J1, decide_eq_true h0, hal] <;> exact .mk ⟨by rw [hf]; simp [h0], hx⟩
      · have h0' : ¬ (0 ≤ n) := h0
        rcases e17 with rfl | rfl <;> simp -implicitDefEqProofs only [go_sem, Nat.reduceAdd, Nat.reduceMul, Nat.reduceLT, Nat.reduceLeDiff, Nat.reduceEqDiff, Nat.reduceBEq, reduceCtorEq, Int.reduceLT, Int.reduceLE, Int.reduceEq, Int.reduceGT, Int.reduceGE, Int.reduceToNat, Int.reduceNeg, F96_J3, F96_J2, F96_J1, decide_eq_false h0] <;> exact .mk ⟨by rw [hf]; simp [h0'], hx⟩
    have n17 : op ≠ 17 := fun h => e17 (.inl h)
    have n18 : op ≠ 18 := fun h => e17 (.inr h)
    by_cases e19 : op = 19
    · subst e19
      have hf : mayI l c ⟨19, n, m⟩ = (decide (0 ≤ n) && decide (n < (l.length : Nat)) && decide (0 ≤ m) && decide (m ≤ 8) && decide (m = paramsAt l n)) := by simp [mayI, hns]
      by_cases h0 : n < 0
      · simp -implicitDefEqProofs only [go_sem, Nat.reduceAdd, Nat.reduceMul, Nat.reduceLT, Nat.reduceLeDiff, Nat.reduceEqDiff, Nat.reduceBEq, reduceCtorEq, Int.reduceLT, Int.reduceLE, Int.reduceEq, Int.reduceGT, Int.reduceGE, Int.reduceToNat, Int.reduceNeg, F96_J3, F96_J2, F96_J1, decide_eq_true h0]
        have h0' : ¬ (0 ≤ n) := by omega
        exact .mk ⟨by rw [hf]; simp [h0'], hx⟩
      by_cases h1 : n ≥ ((l.length : Nat) : Int)
      · simp -implicitDefEqProofs only [go_sem, Nat.reduceAdd, Nat.reduceMul, Nat.reduceLT, Nat.reduceLeDiff, Nat.reduceEqDiff, Nat.reduceBEq, reduceCtorEq, Int.reduceLT, Int.reduceLE, Int.reduceEq, Int.reduceGT, Int.reduceGE, Int.reduceToNat, Int.reduceNeg, F96_J3, F96_J2, F96_J1, decide_eq_false h0, hcl, decide_eq_true h1]
        have h1' : ¬ (n < (l.length : Nat)) := by omega
        exact .mk ⟨by rw [hf]; simp [h1'], hx⟩
      obtain ⟨b, o, c', q1, q2, q3, q4, q5, _⟩ := codes_at hcs1 (n := n) (by omega) (by omega)
      have hp : paramsAt l n = c'.params := by simp [paramsAt, q1]
      have k0 : decide (0 ≤ n) = true := decide_eq_true (by omega)
      have k1 : decide (n < ((l.length : Nat) : Int)) = true := decide_eq_true (by omega)
      by_cases h2 : c'.params = m
      · by_cases h3 : c'.params ≥ 0
        · simp -implicitDefEqProofs only [go_sem, Nat.reduceAdd, Nat.reduceMul, Nat.reduceLT, Nat.reduceLeDiff, Nat.reduceEqDiff, Nat.reduceBEq, reduceCtorEq, Int.reduceLT, Int.reduceLE, Int.reduceEq, Int.reduceGT, Int.reduceGE, Int.reduceToNat, Int.reduceNeg, F96_J3, F96_J2, F96_J1, decide_eq_false h0, hcl, decide_eq_false h1, q2, q5, decide_eq_true h2, decide_eq_true h3]
          refine .mk ⟨?_, hx⟩
          rw [hf, hp, k0, k1, decide_eq_true h2.symm, decide_eq_true (show 0 ≤ m by omega), h2]
          simp
        · simp -implicitDefEqProofs only [go_sem, Nat.reduceAdd, Nat.reduceMul, Nat.reduceLT, Nat.reduceLeDiff, Nat.reduceEqDiff, Nat.reduceBEq, reduceCtorEq, Int.reduceLT, Int.reduceLE, Int.reduceEq, Int.reduceGT, Int.reduceGE, Int.reduceToNat, Int.reduceNeg, F96_J3, F96_J2, F96_J1, decide_eq_false h0, hcl, decide_eq_false h1, q2, q5, decide_eq_true h2, decide_eq_false h3]
          refine .mk ⟨?_, hx⟩
          rw [hf, hp, k0, k1, decide_eq_false (show ¬ (0 ≤ m) by omega)]
          simp
      · simp -implicitDefEqProofs only [go_sem, Nat.reduceAdd, Nat.reduceMul, Nat.reduceLT, Nat.reduceLeDiff, Nat.reduceEqDiff, Nat.reduceBEq, reduceCtorEq, Int.reduceLT, Int.reduceLE, Int.reduceEq, Int.reduceGT, Int.reduceGE, Int.reduceToNat, Int.reduceNeg, F96_J3, F96_J2, F96_J1, decide_eq_false h0, hcl, decide_eq_false h1, q2, q5, decide_eq_false h2]
        refine .mk ⟨?_, hx⟩
        rw [hf, hp, k0, k1, decide_eq_false (fun h => h2 h.symm : ¬ (m = c'.params))]
        simp
    by_cases e20 : op = 20
    · subst e20
      have hf : mayI l c ⟨20, n, m⟩ = decide (n = if c.answers = true then 1 else 0) := by simp [mayI, hns]
      cases hans : c.answers
      · simp -implicitDefEqProofs only [go_sem, Nat.reduceAdd, Nat.reduceMul, Nat.reduceLT, Nat.reduceLeDiff, Nat.reduceEqDiff, Nat.reduceBEq, reduceCtorEq, Int.reduceLT, Int.reduceLE, Int.reduceEq, Int.reduceGT, Int.reduceGE, Int.reduceToNat, Int.reduceNeg, F96_J3, F96_J2, F96_J1, F96_J0, hans]
        rw [hans] at hx
        exact .mk ⟨by rw [hf]; simp [hans], hx⟩
      · simp -implicitDefEqProofs only [go_sem, Nat.reduceAdd, Nat.reduceMul, Nat.reduceLT, Nat.reduceLeDiff, Nat.reduceEqDiff, Nat.reduceBEq, reduceCtorEq, Int.reduceLT, Int.reduceLE, Int.reduceEq, Int.reduceGT, Int.reduceGE, Int.reduceToNat, Int.reduceNeg, F96_J3, F96_J2, F96_J1, F96_J0, hans]
        rw [hans] at hx
        exact .mk ⟨by rw [hf]; simp [hans], hx⟩
    by_cases e24 : op = 24
    · subst e24
      have hf : mayI l c ⟨24, n, m⟩ = (decide (0 ≤ n) && decide (1 ≤ m) && decide (m ≤ 3)) := by simp [mayI, hns]
      by_cases h0 : n ≥ 0
      · by_cases h1 : m ≥ 1
        · simp -implicitDefEqProofs only [go_sem, Nat.reduceAdd, Nat.reduceMul, Nat.reduceLT, Nat.reduceLeDiff, Nat.reduceEqDiff, Nat.reduceBEq, reduceCtorEq, Int.reduceLT, Int.reduceLE, Int.reduceEq, Int.reduceGT, Int.reduceGE, Int.reduceToNat, Int.reduceNeg, F96_J3, F96_J2, F96_J1, decide_eq_true h0, decide_eq_true h1]
          exact .mk ⟨by rw [hf]; simp [h0, h1], hx⟩
        · simp -implicitDefEqProofs only [go_sem, Nat.reduceAdd, Nat.reduceMul, Nat.reduceLT, Nat.reduceLeDiff, Nat.reduceEqDiff, Nat.reduceBEq, reduceCtorEq, Int.reduceLT, Int.reduceLE, Int.reduceEq, Int.reduceGT, Int.reduceGE, Int.reduceToNat, Int.reduceNeg, F96_J3, F96_J2, F96_J1, decide_eq_true h0, decide_eq_false h1]
          have h1' : ¬ (1 ≤ m) := h1
          exact .mk ⟨by rw [hf]; simp [h1'], hx⟩
      · simp -implicitDefEqProofs only [go_sem, Nat.reduceAdd, Nat.reduceMul, Nat.reduceLT, Nat.reduceLeDiff, Nat.reduceEqDiff, Nat.reduceBEq, reduceCtorEq, Int.reduceLT, Int.reduceLE, Int.reduceEq, Int.reduceGT, Int.reduceGE, Int.reduceToNat, Int.reduceNeg, F96_J3, F96_J2, F96_J1, decide_eq_false h0]
        have h0' : ¬ (0 ≤ n) := h0
        exact .mk ⟨by rw [hf]; simp [h0'], hx⟩
    simp -implicitDefEqProofs only [go_sem, Nat.reduceAdd, Nat.reduceMul, Nat.reduceLT, Nat.reduceLeDiff, Nat.reduceEqDiff, Nat.reduceBEq, reduceCtorEq, Int.reduceLT, Int.reduceLE, Int.reduceEq, Int.reduceGT, Int.reduceGE, Int.reduceToNat, Int.reduceNeg, F96_J3, F96_J2, F96_J1, decide_eq_false e2, decide_eq_false e3, decide_eq_false n4, decide_eq_false n5, decide_eq_false n6, decide_eq_false n17, decide_eq_false n18, decide_eq_false e19, decide_eq_false e20, decide_eq_false e24]
    exact .mk ⟨by simp [mayI, hns, e2, e3, n4, n5, n6, n17, n18, e19, e20, e24], hx⟩

theorem effect_spec (d : Nat) {H : AH} (hw : H.wf) {ls : AV} {l : List Code} {c : Code} (hcs : CodesRow H ls l) {i : Ins} (hm : mayI l c i = true) :
    Ret (RT (d + 1) 71 [ls, .agg (insC i)] H) fun r => r.1 = .tuple [.int .i64 (tk l i), .int .i64 (lv l i)] ∧ Ext H.next H r.2 := by
  rw [R71]
  unfold F71
  have hop := mayI_op hm
  have hin : insC i = [.int .i64 i.op, .int .i64 i.n, .int .i64 i.m] := rfl
  have hr := rowAt_in hop
  have hx : Ext H.next H ((H.new (insC i) 29).new [.str (wordOf i.op), .int .i64 (nums i.op), .int .i64 (takes i.op), .int .i64 (leaves i.op)] 133) := ((Ext.refl hw).new _ _).new _ _
  have hcs1 := hcs.mono (hx.sub hw)
  rw [hin] at hx hcs1 ⊢
  by_cases e20 : i.op = 20
  · simp -implicitDefEqProofs only [go_sem, Nat.reduceAdd, Nat.reduceMul, Nat.reduceLT, Nat.reduceLeDiff, Nat.reduceEqDiff, Nat.reduceBEq, reduceCtorEq, Int.reduceLT, Int.reduceLE, Int.reduceEq, Int.reduceGT, Int.reduceGE, Int.reduceToNat, Int.reduceNeg, RT_92, hr, new_put1, decide_eq_true e20]
    exact .mk ⟨by simp [tk, lv, e20], hx⟩
  by_cases e19 : i.op = 19
  · obtain ⟨h1, h2, _⟩ := may_call hm e19
    obtain ⟨b, o, c', q1, q2, q3, q4, q5, q6, _⟩ := codes_at hcs1 h1 h2
    have ha : answersAt l i.n = c'.answers := by simp [answersAt, q1]
    cases hans : c'.answers
    · rw [hans] at q6
      simp -implicitDefEqProofs only [go_sem, Nat.reduceAdd, Nat.reduceMul, Nat.reduceLT, Nat.reduceLeDiff, Nat.reduceEqDiff, Nat.reduceBEq, reduceCtorEq, Int.reduceLT, Int.reduceLE, Int.reduceEq, Int.reduceGT, Int.reduceGE, Int.reduceToNat, Int.reduceNeg, RT_92, hr, new_put1, decide_eq_false e20, decide_eq_true e19, q2, q6]
      exact .mk ⟨by simp [tk, lv, e19, ha, hans], hx⟩
    · rw [hans] at q6
      simp -implicitDefEqProofs only [go_sem, Nat.reduceAdd, Nat.reduceMul, Nat.reduceLT, Nat.reduceLeDiff, Nat.reduceEqDiff, Nat.reduceBEq, reduceCtorEq, Int.reduceLT, Int.reduceLE, Int.reduceEq, Int.reduceGT, Int.reduceGE, Int.reduceToNat, Int.reduceNeg, RT_92, hr, new_put1, decide_eq_false e20, decide_eq_true e19, q2, q6]
      exact .mk ⟨by simp [tk, lv, e19, ha, hans], hx⟩
  · simp -implicitDefEqProofs only [go_sem, Nat.reduceAdd, Nat.reduceMul, Nat.reduceLT, Nat.reduceLeDiff, Nat.reduceEqDiff, Nat.reduceBEq, reduceCtorEq, Int.reduceLT, Int.reduceLE, Int.reduceEq, Int.reduceGT, Int.reduceGE, Int.reduceToNat, Int.reduceNeg, RT_92, hr, new_put1, decide_eq_false e20, decide_eq_false e19]
    exact .mk ⟨by simp [tk, lv, e19, e20], hx⟩
end Go.Proofs.YthiflgncldmkjaaDoor
/- The document's heights, round by round: follow, shape, the loops. -/
set_option linter.unusedVariables false
set_option linter.unusedSimpArgs false
set_option maxRecDepth 100000
namespace Go.Proofs.YthiflgncldmkjaaDoor
open Go.Ri

theorem Way.loose {l : List Code} {c : Code} {h : List Int} {w : List Nat} {ex : Nat → Prop} (W : Way l c h w ex) : Way l c h [] (fun _ => True) :=
  ⟨W.len, W.zero, W.known, fun a ha => by simp at ha, fun _ _ _ _ _ _ hne _ => absurd trivial hne⟩
theorem follow_spec (d : Nat) {H : AH} (hw : H.wf) (i : Ins) {a : Nat} (ha : a < 70000) :
    Ret (RT (d + 1) 72 [.agg (insC i), .int .i64 (a : Nat)] H) fun r => Row r.2 r.1 1 ((nextI i a).map fun p => [.int .i64 p]) ∧ Ext H.next H r.2 ∧ ∀ b o n c, r.1 = .slice (some (b, o)) n c → H.next ≤ b ∧ b < r.2.next := by
  rw [R72]
  unfold F72
  have hin : insC i = [.int .i64 i.op, .int .i64 i.n, .int .i64 i.m] := rfl
  have hx : Ext H.next H (H.new (insC i) 29) := (Ext.refl hw).new _ _
  rw [hin] at hx ⊢
  have hwr := wrapS (i := a) (by omega)
  have one : ∀ p : Int, Row (((H.new [.int .i64 i.op, .int .i64 i.n, .int .i64 i.m] 29).new [.int .i64 p] 3)) (.slice (some (H.next + 1, 0)) 1 (.kn 1)) 1 [[.int .i64 p]] := fun p =>
    Own.row (l := [[.int .i64 p]]) (by omega) (Own.made (N := 0) (H := H.new [.int .i64 i.op, .int .i64 i.n, .int .i64 i.m] 29) (n := 1) (Nat.zero_le _) rfl) (by simp)
  by_cases e20 : i.op = 20
  · simp -implicitDefEqProofs only [go_sem, Nat.reduceAdd, Nat.reduceMul, Nat.reduceLT, Nat.reduceLeDiff, Nat.reduceEqDiff, Nat.reduceBEq, reduceCtorEq, Int.reduceLT, Int.reduceLE, Int.reduceEq, Int.reduceGT, Int.reduceGE, Int.reduceToNat, Int.reduceNeg, decide_eq_true e20]
    refine .mk ⟨?_, hx, fun b o n c h => by cases h⟩
    have e17 : ¬ i.op = 17 := by omega
    have e18 : ¬ i.op = 18 := by omega
    simp only [nextI, if_neg e17, if_neg e18, if_pos e20]
    exact Row.nil _ _
  by_cases e17 : i.op = 17
  · simp -implicitDefEqProofs only [go_sem, Nat.reduceAdd, Nat.reduceMul, Nat.reduceLT, Nat.reduceLeDiff, Nat.reduceEqDiff, Nat.reduceBEq, reduceCtorEq, Int.reduceLT, Int.reduceLE, Int.reduceEq, Int.reduceGT, Int.reduceGE, Int.reduceToNat, Int.reduceNeg, decide_eq_false e20, decide_eq_true e17]
    refine .mk ⟨?_, hx.new _ _, fun b o n c h => by cases h; simp⟩
    simp only [nextI, if_pos e17]
    exact one i.n
  by_cases e18 : i.op = 18
  · have h1 : OwnI (H.next + 1) ((H.new [.int .i64 i.op, .int .i64 i.n, .int .i64 i.m] 29).new [.int .i64 ((a + 1 : Nat) : Int)] 3) (.slice (some (H.next + 1, 0)) 1 (.kn 1)) [((a + 1 : Nat) : Int)] := Own.made (n := 1) (by simp) rfl
    obtain ⟨⟨sv, H2⟩, hap, g1, g2, g3, g4, g5⟩ := OwnI.more (x := i.n) (h1.low (Nat.le_succ _)) (hx.new [.int .i64 ((a + 1 : Nat) : Int)] 3) (by simp)
    simp only at g1 g2 g3 g4 g5
    simp only [new_next] at hap g3
    simp -implicitDefEqProofs only [go_sem, Nat.reduceAdd, Nat.reduceMul, Nat.reduceLT, Nat.reduceLeDiff, Nat.reduceEqDiff, Nat.reduceBEq, reduceCtorEq, Int.reduceLT, Int.reduceLE, Int.reduceEq, Int.reduceGT, Int.reduceGE, Int.reduceToNat, Int.reduceNeg, decide_eq_false e20, decide_eq_false e17, decide_eq_true e18, hwr, hap, F72_J0]
    refine .mk ⟨?_, g2, fun b o n c h => ?_⟩
    · simp only [nextI, if_neg e17, if_pos e18]
      exact Own.row (l := [[.int .i64 ((a + 1 : Nat) : Int)], [.int .i64 i.n]]) (by omega) (by simpa [OwnI, intsC] using g1) (by simp)
    · show H.next ≤ b ∧ b < H2.next
      obtain ⟨p, nn, cc, hsh⟩ := g1.shape
      have ho : o = 0 := by
        rcases g1 with ⟨hh, _⟩ | ⟨b', n', c', B', hh, _⟩
        · rw [hh] at h; cases h
        · rw [hh] at h; cases h; rfl
      subst ho
      rcases g5 b ⟨n, c, h⟩ with ⟨_, _, hh⟩ | hh
      · cases hh; exact ⟨by omega, by omega⟩
      · simp only [new_next] at hh; exact ⟨by omega, hh.2⟩
  · simp -implicitDefEqProofs only [go_sem, Nat.reduceAdd, Nat.reduceMul, Nat.reduceLT, Nat.reduceLeDiff, Nat.reduceEqDiff, Nat.reduceBEq, reduceCtorEq, Int.reduceLT, Int.reduceLE, Int.reduceEq, Int.reduceGT, Int.reduceGE, Int.reduceToNat, Int.reduceNeg, decide_eq_false e20, decide_eq_false e17, decide_eq_false e18, hwr, F72_J0]
    refine .mk ⟨?_, hx.new _ _, fun b o n c h => by cases h; simp⟩
    simp only [nextI, if_neg e17, if_neg e18, if_neg e20]
    exact one _

section
variable {Hb : AH} {ls s : AV} {l : List Code} {c : Code}
/-- The document's code stands in the first block behind the base. -/
structure Cr (Hb : AH) (s : AV) (c : Code) (H : AH) : Prop where
  ext : Ext Hb.next Hb H
  blk : H.m Hb.next = some ⟨[s, .int .i64 c.cells, .int .i64 c.params, .bool c.answers], 24, true⟩
theorem Cr.lt {H : AH} (h : Cr Hb s c H) : Hb.next < H.next := h.ext.wf _ _ h.blk

def IP (Hb : AH) (ls s : AV) (l : List Code) (c : Code) (i : Nat) (t : St) : Prop :=
  t.1 0 = ls ∧ t.1 3 = .ptr (some (Hb.next, 0)) ∧ t.1 5 = .int .i64 (c.ins.length : Nat) ∧ t.1 6 = .int .i64 (i : Nat) ∧ Cr Hb s c t.2 ∧ ∀ j, j < i → ∀ x, c.ins[j]? = some x → mayI l c x = true
theorem shape_loop (d : Nat) (B : Base Hb ls s l c) (hlen : c.ins.length ≤ 65536) {T : Tm} {H : AH} (h0 : IP Hb ls s l c 0 (T, H)) :
    Ret (Ri.iter big (F70_L0 (RT (d + 2)) (Ri.iter big)) (T, H)) fun r => Ext Hb.next Hb r.2.2 ∧ ((r.1 = .exit 0 ∧ ∀ i ∈ c.ins, mayI l c i = true) ∨ (r.1 = .ret ∧ r.2.1 4 = .bool false ∧ ¬ ∀ i ∈ c.ins, mayI l c i = true)) := by
  refine Ret.upTo (n := c.ins.length) (IP Hb ls s l c) (by unfold big; omega) h0 ?_ ?_
  · rintro i ⟨T1, H1⟩ hi ⟨t0, t3, t5, t6, hck, hdone⟩
    simp only at t0 t3 t5 t6 hck
    have hcmp : decide (((i : Nat) : Int) < ((c.ins.length : Nat) : Int)) = true := decide_eq_true (by omega)
    have hsub := hck.ext.sub B.wf
    have hins : InsRow H1 s c.ins := ⟨B.ins.1.mono hsub, B.ins.2⟩
    obtain ⟨pb, po, e1, e2, _⟩ := hins.1.at (i := i) (by simpa using hi)
    simp only [List.getElem_map] at e2
    obtain ⟨⟨v, H2⟩, h96, hv, hx2⟩ := may_ref d hck.ext.wf (B.tabs.ext hck.ext B.tabs.two) (B.codes.mono hsub) hins B.cells (hins.2 c.ins[i] (List.getElem_mem _))
    simp only at hv hx2
    subst hv
    have hx3 : Ext Hb.next Hb H2 := hck.ext.trans hx2 hck.ext.next
    have hb2 : H2.m Hb.next = some ⟨[s, .int .i64 c.cells, .int .i64 c.params, .bool c.answers], 24, true⟩ := by rw [hx2.low _ hck.lt]; exact hck.blk
    unfold F70_L0
    cases hmv : mayI l c c.ins[i]
    · rw [hmv] at h96
      simp -implicitDefEqProofs only [go_sem, Nat.reduceAdd, Nat.reduceMul, Nat.reduceLT, Nat.reduceLeDiff, Nat.reduceEqDiff, Nat.reduceBEq, reduceCtorEq, Int.reduceLT, Int.reduceLE, Int.reduceEq, Int.reduceGT, Int.reduceGE, Int.reduceToNat, Int.reduceNeg, t0, t3, t5, t6, hcmp, hck.blk, e1, e2, h96]
      refine .mk (.inr ⟨by simp, hx3, .inr ⟨rfl, ?_, fun h => ?_⟩⟩)
      · simp -implicitDefEqProofs only [go_sem, Nat.reduceAdd, Nat.reduceMul, Nat.reduceLT, Nat.reduceLeDiff, Nat.reduceEqDiff, Nat.reduceBEq, reduceCtorEq, Int.reduceLT, Int.reduceLE, Int.reduceEq, Int.reduceGT, Int.reduceGE, Int.reduceToNat, Int.reduceNeg]
      · rw [h _ (List.getElem_mem _)] at hmv
        cases hmv
    · rw [hmv] at h96
      simp -implicitDefEqProofs only [go_sem, Nat.reduceAdd, Nat.reduceMul, Nat.reduceLT, Nat.reduceLeDiff, Nat.reduceEqDiff, Nat.reduceBEq, reduceCtorEq, Int.reduceLT, Int.reduceLE, Int.reduceEq, Int.reduceGT, Int.reduceGE, Int.reduceToNat, Int.reduceNeg, t0, t3, t5, t6, hcmp, hck.blk, e1, e2, h96, wrapS (i := i) (by omega)]
      refine .mk (.inl ⟨rfl, ?_, ?_, ?_, ?_, ⟨hx3, hb2⟩, fun j hj x hx => ?_⟩)
      · simp -implicitDefEqProofs only [go_sem, Nat.reduceAdd, Nat.reduceMul, Nat.reduceLT, Nat.reduceLeDiff, Nat.reduceEqDiff, Nat.reduceBEq, reduceCtorEq, Int.reduceLT, Int.reduceLE, Int.reduceEq, Int.reduceGT, Int.reduceGE, Int.reduceToNat, Int.reduceNeg, t0]
      · simp -implicitDefEqProofs only [go_sem, Nat.reduceAdd, Nat.reduceMul, Nat.reduceLT, Nat.reduceLeDiff, Nat.reduceEqDiff, Nat.reduceBEq, reduceCtorEq, Int.reduceLT, Int.reduceLE, Int.reduceEq, Int.reduceGT, Int.reduceGE, Int.reduceToNat, Int.reduceNeg, t3]
      · simp -implicitDefEqProofs only [go_sem, Nat.reduceAdd, Nat.reduceMul, Nat.reduceLT, Nat.reduceLeDiff, Nat.reduceEqDiff, Nat.reduceBEq, reduceCtorEq, Int.reduceLT, Int.reduceLE, Int.reduceEq, Int.reduceGT, Int.reduceGE, Int.reduceToNat, Int.reduceNeg, t5]
      · simp -implicitDefEqProofs only [go_sem, Nat.reduceAdd, Nat.reduceMul, Nat.reduceLT, Nat.reduceLeDiff, Nat.reduceEqDiff, Nat.reduceBEq, reduceCtorEq, Int.reduceLT, Int.reduceLE, Int.reduceEq, Int.reduceGT, Int.reduceGE, Int.reduceToNat, Int.reduceNeg]
      · by_cases hji : j = i
        · subst hji
          rw [List.getElem?_eq_getElem hi] at hx
          cases hx
          exact hmv
        · exact hdone j (by omega) x hx
  · rintro ⟨T1, H1⟩ ⟨t0, t3, t5, t6, hck, hdone⟩
    simp only at t5 t6 hck
    have hcmp : decide (((c.ins.length : Nat) : Int) < ((c.ins.length : Nat) : Int)) = false := decide_eq_false (by omega)
    unfold F70_L0
    simp -implicitDefEqProofs only [go_sem, Nat.reduceAdd, Nat.reduceMul, Nat.reduceLT, Nat.reduceLeDiff, Nat.reduceEqDiff, Nat.reduceBEq, reduceCtorEq, Int.reduceLT, Int.reduceLE, Int.reduceEq, Int.reduceGT, Int.reduceGE, Int.reduceToNat, Int.reduceNeg, t5, t6, hcmp]
    refine .mk ⟨by simp, hck.ext, .inl ⟨rfl, fun i hi => ?_⟩⟩
    obtain ⟨j, hj⟩ := List.mem_iff_getElem?.1 hi
    exact hdone j (List.getElem?_eq_some_iff.1 hj).1 i hj
theorem shape_spec (d : Nat) (B : Base Hb ls s l c) : Ret (RT (d + 3) 70 [ls, .agg [s, .int .i64 c.cells, .int .i64 c.params, .bool c.answers]] Hb) fun r => Ext Hb.next Hb r.2 ∧ ∃ b : Bool, r.1 = .bool b ∧ (b = true ↔ OwnOk l c) := by
  rw [R70]
  unfold F70
  have hal := B.ins.alen
  have hx1 : Ext Hb.next Hb (Hb.new [s, .int .i64 c.cells, .int .i64 c.params, .bool c.answers] 24) := (Ext.refl B.wf).new _ _
  have no : ¬ OwnOk l c → Ret (some (AV.bool false, Hb.new [s, .int .i64 c.cells, .int .i64 c.params, .bool c.answers] 24)) fun r => Ext Hb.next Hb r.2 ∧ ∃ b : Bool, r.1 = .bool b ∧ (b = true ↔ OwnOk l c) :=
    fun h => .mk ⟨hx1, false, rfl, by simp [h]⟩
  by_cases p1 : ((c.ins.length : Nat) : Int) = 0
  · simp -implicitDefEqProofs only [go_sem, Nat.reduceAdd, Nat.reduceMul, Nat.reduceLT, Nat.reduceLeDiff, Nat.reduceEqDiff, Nat.reduceBEq, reduceCtorEq, Int.reduceLT, Int.reduceLE, Int.reduceEq, Int.reduceGT, Int.reduceGE, Int.reduceToNat, Int.reduceNeg, hal, decide_eq_true p1]
    exact no fun h => by have := h.some_; omega
  by_cases p2 : ((c.ins.length : Nat) : Int) > 65536
  · simp -implicitDefEqProofs only [go_sem, Nat.reduceAdd, Nat.reduceMul, Nat.reduceLT, Nat.reduceLeDiff, Nat.reduceEqDiff, Nat.reduceBEq, reduceCtorEq, Int.reduceLT, Int.reduceLE, Int.reduceEq, Int.reduceGT, Int.reduceGE, Int.reduceToNat, Int.reduceNeg, hal, decide_eq_false p1, decide_eq_true p2]
    exact no fun h => by have := h.few; omega
  by_cases p3 : c.cells < 0
  · simp -implicitDefEqProofs only [go_sem, Nat.reduceAdd, Nat.reduceMul, Nat.reduceLT, Nat.reduceLeDiff, Nat.reduceEqDiff, Nat.reduceBEq, reduceCtorEq, Int.reduceLT, Int.reduceLE, Int.reduceEq, Int.reduceGT, Int.reduceGE, Int.reduceToNat, Int.reduceNeg, hal, decide_eq_false p1, decide_eq_false p2, decide_eq_true p3]
    exact no fun h => by have := h.cells; omega
  by_cases p4 : c.cells > 65536
  · simp -implicitDefEqProofs only [go_sem, Nat.reduceAdd, Nat.reduceMul, Nat.reduceLT, Nat.reduceLeDiff, Nat.reduceEqDiff, Nat.reduceBEq, reduceCtorEq, Int.reduceLT, Int.reduceLE, Int.reduceEq, Int.reduceGT, Int.reduceGE, Int.reduceToNat, Int.reduceNeg, hal, decide_eq_false p1, decide_eq_false p2, decide_eq_false p3, decide_eq_true p4]
    exact no fun h => by have := h.cells; omega
  by_cases p5 : c.params < 0
  · simp -implicitDefEqProofs only [go_sem, Nat.reduceAdd, Nat.reduceMul, Nat.reduceLT, Nat.reduceLeDiff, Nat.reduceEqDiff, Nat.reduceBEq, reduceCtorEq, Int.reduceLT, Int.reduceLE, Int.reduceEq, Int.reduceGT, Int.reduceGE, Int.reduceToNat, Int.reduceNeg, hal, decide_eq_false p1, decide_eq_false p2, decide_eq_false p3, decide_eq_false p4, decide_eq_true p5]
    exact no fun h => by have := h.params; omega
  by_cases p6 : c.params > 8
  · simp -implicitDefEqProofs only [go_sem, Nat.reduceAdd, Nat.reduceMul, Nat.reduceLT, Nat.reduceLeDiff, Nat.reduceEqDiff, Nat.reduceBEq, reduceCtorEq, Int.reduceLT, Int.reduceLE, Int.reduceEq, Int.reduceGT, Int.reduceGE, Int.reduceToNat, Int.reduceNeg, hal, decide_eq_false p1, decide_eq_false p2, decide_eq_false p3, decide_eq_false p4, decide_eq_false p5, decide_eq_true p6]
    exact no fun h => by have := h.params; omega
  by_cases p7 : c.params > c.cells
  · simp -implicitDefEqProofs only [go_sem, Nat.reduceAdd, Nat.reduceMul, Nat.reduceLT, Nat.reduceLeDiff, Nat.reduceEqDiff, Nat.reduceBEq, reduceCtorEq, Int.reduceLT, Int.reduceLE, Int.reduceEq, Int.reduceGT, Int.reduceGE, Int.reduceToNat, Int.reduceNeg, hal, decide_eq_false p1, decide_eq_false p2, decide_eq_false p3, decide_eq_false p4, decide_eq_false p5, decide_eq_false p6, decide_eq_true p7]
    exact no fun h => by have := h.params; omega
  simp -implicitDefEqProofs only [go_sem, Nat.reduceAdd, Nat.reduceMul, Nat.reduceLT, Nat.reduceLeDiff, Nat.reduceEqDiff, Nat.reduceBEq, reduceCtorEq, Int.reduceLT, Int.reduceLE, Int.reduceEq, Int.reduceGT, Int.reduceGE, Int.reduceToNat, Int.reduceNeg, hal, decide_eq_false p1, decide_eq_false p2, decide_eq_false p3, decide_eq_false p4, decide_eq_false p5, decide_eq_false p6, decide_eq_false p7]
  refine Ret.then (shape_loop d B (by omega) ⟨?_, ?_, ?_, ?_, ⟨hx1, by simp⟩, fun j hj => absurd hj (Nat.not_lt_zero _)⟩) ?_
  · simp -implicitDefEqProofs only [go_sem, Nat.reduceAdd, Nat.reduceMul, Nat.reduceLT, Nat.reduceLeDiff, Nat.reduceEqDiff, Nat.reduceBEq, reduceCtorEq, Int.reduceLT, Int.reduceLE, Int.reduceEq, Int.reduceGT, Int.reduceGE, Int.reduceToNat, Int.reduceNeg]
  · simp -implicitDefEqProofs only [go_sem, Nat.reduceAdd, Nat.reduceMul, Nat.reduceLT, Nat.reduceLeDiff, Nat.reduceEqDiff, Nat.reduceBEq, reduceCtorEq, Int.reduceLT, Int.reduceLE, Int.reduceEq, Int.reduceGT, Int.reduceGE, Int.reduceToNat, Int.reduceNeg]
  · simp -implicitDefEqProofs only [go_sem, Nat.reduceAdd, Nat.reduceMul, Nat.reduceLT, Nat.reduceLeDiff, Nat.reduceEqDiff, Nat.reduceBEq, reduceCtorEq, Int.reduceLT, Int.reduceLE, Int.reduceEq, Int.reduceGT, Int.reduceGE, Int.reduceToNat, Int.reduceNeg]
  · simp -implicitDefEqProofs only [go_sem, Nat.reduceAdd, Nat.reduceMul, Nat.reduceLT, Nat.reduceLeDiff, Nat.reduceEqDiff, Nat.reduceBEq, reduceCtorEq, Int.reduceLT, Int.reduceLE, Int.reduceEq, Int.reduceGT, Int.reduceGE, Int.reduceToNat, Int.reduceNeg]
    rfl
  · rintro ⟨e, T, H1⟩ ⟨hx, ⟨rfl, hall⟩ | ⟨rfl, h4, hno⟩⟩
    · simp only at hx
      simp -implicitDefEqProofs only [go_sem, Nat.reduceAdd, Nat.reduceMul, Nat.reduceLT, Nat.reduceLeDiff, Nat.reduceEqDiff, Nat.reduceBEq, reduceCtorEq, Int.reduceLT, Int.reduceLE, Int.reduceEq, Int.reduceGT, Int.reduceGE, Int.reduceToNat, Int.reduceNeg]
      exact .mk ⟨hx, true, rfl, by simp only [true_iff]; exact ⟨by omega, by omega, by omega, by omega, hall⟩⟩
    · simp only at hx h4
      simp -implicitDefEqProofs only [go_sem, Nat.reduceAdd, Nat.reduceMul, Nat.reduceLT, Nat.reduceLeDiff, Nat.reduceEqDiff, Nat.reduceBEq, reduceCtorEq, Int.reduceLT, Int.reduceLE, Int.reduceEq, Int.reduceGT, Int.reduceGE, Int.reduceToNat, Int.reduceNeg, h4]
      exact .mk ⟨hx, false, rfl, by simp only [Bool.false_eq_true, false_iff]; exact fun h => hno h.may⟩
end
end Go.Proofs.YthiflgncldmkjaaDoor
/- The document's heights: the loops. -/
set_option linter.unusedVariables false
set_option linter.unusedSimpArgs false
set_option maxRecDepth 100000
namespace Go.Proofs.YthiflgncldmkjaaDoor
open Go.Ri

theorem OwnI.blk {N : Nat} {H : AH} {s : AV} {h : List Int} (ho : OwnI N H s h) (hw : H.wf) (hne : 0 < h.length) :
    ∃ b B, At s b ∧ N ≤ b ∧ b < H.next ∧ H.m b = some B ∧ B.rw_ = true ∧ h.length ≤ B.cells.length ∧ (∀ k (i : Nat), i < h.length → idxSl s (.int k (i : Nat)) 1 = some (.ptr (some (b, i)))) ∧
      (∀ (i : Nat) x, h[i]? = some x → B.cells[i]? = some (.int .i64 x)) ∧ ∀ (i : Nat) v, i < h.length → OwnI N (H.put b ⟨B.cells.set i (.int .i64 v), B.elem, true⟩) s (h.set i v) := by
  obtain ⟨b, B, q1, q2, q3, q4, q5, _, _, _, _⟩ := ho.cell hw (i := 0) (by rw [intsC_len]; exact hne)
  have key : ∀ i : Nat, i < h.length → i < B.cells.length ∧ B.cells[i]? = (intsC h)[i]? ∧ (∀ k, idxSl s (.int k (i : Nat)) 1 = some (.ptr (some (b, i)))) ∧ ∀ v, Own N 1 3 (H.put b ⟨B.cells.set i v, B.elem, B.rw_⟩) s ((intsC h).set i v) := fun i hi => by
    obtain ⟨b', B', p1, p2, p3, p4, p5, p6, p7, p8, p9⟩ := ho.cell hw (i := i) (by rw [intsC_len]; exact hi)
    have := p1.one q1
    subst this
    rw [q4] at p4
    cases p4
    exact ⟨p6, p7, p8, p9⟩
  refine ⟨b, B, q1, q2, q3, q4, q5, ?_, fun k i hi => (key i hi).2.2.1 k, fun i x hx => ?_, fun i v hi => ?_⟩
  · have := (key (h.length - 1) (by omega)).1
    omega
  · have hi := (List.getElem?_eq_some_iff.1 hx).1
    rw [(key i hi).2.1, intsC_get, hx]
    rfl
  · have := (key i hi).2.2.2 (.int .i64 v)
    rw [intsC_set, q5] at this
    exact this

section
variable {Hb : AH} {ls s : AV} {l : List Code} {c : Code}
structure J1 (Hb : AH) (ls s : AV) (l : List Code) (c : Code) (i : Ins) (a : Nat) (x : Int) (sv hs : AV) (n0 : Nat) (j : Nat) (t : St) : Prop where
  t0 : t.1 0 = ls
  t6 : t.1 6 = .ptr (some (Hb.next, 0))
  t7 : t.1 7 = hs
  t10 : t.1 10 = .int .i64 (a : Nat)
  t12 : t.1 12 = .int .i64 (tk l i)
  t13 : t.1 13 = .int .i64 (lv l i)
  t14 : t.1 14 = sv
  t15 : t.1 15 = .int .i64 (j : Nat)
  row : Row t.2 sv 1 ((nextI i a).map fun p => [.int .i64 p])
  rest : ∃ (h : List Int) (more : Bool), t.1 9 = .bool more ∧ Cr Hb s c t.2 ∧ OwnI (Hb.next + 1) t.2 hs h ∧ Way l c h [] (fun b => more = true ∨ a ≤ b) ∧ h[a]? = some x ∧ negs h ≤ n0 ∧ (more = true → negs h < n0) ∧
    ∀ j', j' < j → ∀ p, (nextI i a)[j']? = some p → ∃ q : Nat, p = q ∧ h[q]? = some (x - tk l i + lv l i)
def EJ (Hb : AH) (ls s : AV) (l : List Code) (c : Code) (i : Ins) (a : Nat) (x : Int) (sv hs : AV) (n0 : Nat) (r : Ex × St) : Prop :=
  (r.1 = .exit 6 ∧ J1 Hb ls s l c i a x sv hs n0 (nextI i a).length r.2) ∨ (r.1 = .ret ∧ r.2.1 4 = .slice none 0 (.kn 0) ∧ r.2.1 5 = .bool false ∧ Ext Hb.next Hb r.2.2 ∧ ¬ ∃ g, Good l c g)
set_option maxHeartbeats 4000000 in
theorem jloop1 (d : Nat) {i : Ins} (hm : mayI l c i = true) {a : Nat} (hi : c.ins[a]? = some i) {x : Int} (h0x : 0 ≤ x) (ho : okAt l i x) {sv hs : AV} {n0 N1 : Nat}
    (hlen : c.ins.length ≤ 65536) (hsv : ∀ b, AtR sv b → N1 ≤ b) (hhs : ∀ b, At hs b → b < N1) {T : Tm} {H : AH} (h0 : J1 Hb ls s l c i a x sv hs n0 0 (T, H)) :
    Ret (Ri.iter big (F29_L1 (RT d) (Ri.iter big)) (T, H)) (EJ Hb ls s l c i a x sv hs n0) := by
  have hnl : (nextI i a).length ≤ 2 := by
    unfold nextI
    split
    · simp
    · split
      · simp
      · split <;> simp
  have hrg := okAt_range hm ho
  refine Ret.upTo (n := (nextI i a).length) (J1 Hb ls s l c i a x sv hs n0) (by unfold big; omega) h0 ?_ ?_
  · rintro j ⟨T1, H1⟩ hj ⟨t0, t6, t7, t10, t12, t13, t14, t15, row, h, more, t9, hck, hown, W, hax, hn0, hmore, hdone⟩
    simp only at t0 t6 t7 t10 t12 t13 t14 t15 row t9 hck hown
    obtain ⟨pb, po, e1, _, e3⟩ := row.at (i := j) (by simpa using hj)
    have e3 := e3 0 (by omega)
    simp only [List.getElem_map, List.getElem?_cons_zero, Nat.add_zero] at e3
    have hpm : (nextI i a)[j] ∈ nextI i a := List.getElem_mem hj
    have hp0 := next_nat hm hpm
    obtain ⟨q, hq⟩ : ∃ q : Nat, (nextI i a)[j] = q := ⟨_, (Int.toNat_of_nonneg hp0).symm⟩
    have hjq : (nextI i a)[j]? = some ((q : Nat) : Int) := by rw [List.getElem?_eq_getElem hj, hq]
    rw [hq] at e3 hpm
    have hcmp : decide (((j : Nat) : Int) < (((nextI i a).length : Nat) : Int)) = true := decide_eq_true (by omega)
    have hals : aLen Tryd.prog 40 sv = some (.int .i64 ((nextI i a).length : Nat)) := by rw [row.alen ysl40.under, List.length_map]
    have hal : aLen Tryd.prog 40 hs = some (.int .i64 (h.length : Nat)) := by rw [hown.alen ysl40.under, intsC_len]
    have hah : a < h.length := (List.getElem?_eq_some_iff.1 hax).1
    obtain ⟨bh, Bh, ha, hNb, hbn, hBm, hrw, hcl, hidx, hget, hset⟩ := OwnI.blk hown hck.ext.wf (by omega)
    unfold F29_L1
    by_cases hge : ((q : Nat) : Int) ≥ ((h.length : Nat) : Int)
    · simp -implicitDefEqProofs only [go_sem, Nat.reduceAdd, Nat.reduceMul, Nat.reduceLT, Nat.reduceLeDiff, Nat.reduceEqDiff, Nat.reduceBEq, reduceCtorEq, Int.reduceLT, Int.reduceLE, Int.reduceEq, Int.reduceGT, Int.reduceGE, Int.reduceToNat, Int.reduceNeg, t7, t14, t15, hals, hcmp, e1, e3, hal, decide_eq_true hge]
      refine .mk (.inr ⟨by simp, .inr ⟨rfl, ?_, ?_, hck.ext, ?_⟩⟩)
      · simp -implicitDefEqProofs only [go_sem, Nat.reduceAdd, Nat.reduceMul, Nat.reduceLT, Nat.reduceLeDiff, Nat.reduceEqDiff, Nat.reduceBEq, reduceCtorEq, Int.reduceLT, Int.reduceLE, Int.reduceEq, Int.reduceGT, Int.reduceGE, Int.reduceToNat, Int.reduceNeg]
      · simp -implicitDefEqProofs only [go_sem, Nat.reduceAdd, Nat.reduceMul, Nat.reduceLT, Nat.reduceLeDiff, Nat.reduceEqDiff, Nat.reduceBEq, reduceCtorEq, Int.reduceLT, Int.reduceLE, Int.reduceEq, Int.reduceGT, Int.reduceGE, Int.reduceToNat, Int.reduceNeg]
      · refine W.none hi hax h0x (.inr ⟨_, hpm, fun q' e => ⟨0, .inr ?_⟩⟩)
        have := Int.ofNat_inj.1 e
        omega
    · have hql : q < h.length := by omega
      have hgq : h[q]? = some h[q] := List.getElem?_eq_getElem hql
      have hpos : h[q] = -1 ∨ 0 ≤ h[q] := (W.known q _ hgq).imp id fun h => h.1
      have hbk : ¬ Hb.next = bh := by omega
      have hbk' : ¬ bh = Hb.next := by omega
      by_cases hneg : h[q] < 0
      · have hq1 : h[q] = -1 := by omega
        have hgq' := hgq
        rw [hq1] at hgq'
        have haq : a ≠ q := by
          rintro rfl
          rw [hax] at hgq'
          cases hgq'
          omega
        have hW2 := (W.put hi hax h0x ho hpm hgq').loose
        have hng := negs_set hgq' hrg.2.2.1
        have hown2 := hset q (x - tk l i + lv l i) hql
        have hx2 : Ext Hb.next Hb (H1.put bh ⟨Bh.cells.set q (.int .i64 (x - tk l i + lv l i)), Bh.elem, true⟩) := hck.ext.put (by omega) hbn _
        have hrow2 : Row (H1.put bh ⟨Bh.cells.set q (.int .i64 (x - tk l i + lv l i)), Bh.elem, true⟩) sv 1 ((nextI i a).map fun p => [.int .i64 p]) := row.keep fun b hb => by
          have := hsv b hb
          have := hhs bh ha
          have : ¬ b = bh := by omega
          simp [this]
        obtain ⟨pb', po', e1', _, e3'⟩ := hrow2.at (i := j) (by simpa using hj)
        have e3' := e3' 0 (by omega)
        simp only [List.getElem_map, List.getElem?_cons_zero, Nat.add_zero, hq] at e3'
        have hpp : pb' = pb ∧ po' = po := by
          have := (e1' .i64).symm.trans (e1 .i64)
          simpa using this
        obtain ⟨rfl, rfl⟩ := hpp
        have hcs1 : (Bh.cells.set q (.int .i64 (x - tk l i + lv l i)))[q]? = some (.int .i64 (x - tk l i + lv l i)) := List.getElem?_set_self (by omega)
        have hcs2 : (Bh.cells.set q (.int .i64 (x - tk l i + lv l i)))[a]? = some (.int .i64 x) := by rw [List.getElem?_set_ne (Ne.symm haq)]; exact hget a x hax
        have hqc : q < Bh.cells.length := by omega
        simp -implicitDefEqProofs only [go_sem, Nat.reduceAdd, Nat.reduceMul, Nat.reduceLT, Nat.reduceLeDiff, Nat.reduceEqDiff, Nat.reduceBEq, reduceCtorEq, Int.reduceLT, Int.reduceLE, Int.reduceEq, Int.reduceGT, Int.reduceGE, Int.reduceToNat, Int.reduceNeg, t7, t14, t15, hals, hcmp, e1, e3, hal, decide_eq_false hge, hidx _ _ hql, hBm, hget q _ hgq, decide_eq_true hneg, t10, hidx _ _ hah, hget a x hax, t12, t13, wrapR (x := x - tk l i) (by omega), wrapR (x := x - tk l i + lv l i) (by omega), hrw, hqc, F29_J0, e3', hcs1, hcs2, wrapS (i := j) (by omega)]
        refine .mk (.inl ⟨rfl, ⟨?_, ?_, ?_, ?_, ?_, ?_, ?_, ?_, hrow2, h.set q (x - tk l i + lv l i), true, ?_, ⟨hx2, by simp [hbk, hck.blk]⟩, hown2, ?_, ?_, by omega, fun _ => by omega, ?_⟩⟩)
        · simp -implicitDefEqProofs only [go_sem, Nat.reduceAdd, Nat.reduceMul, Nat.reduceLT, Nat.reduceLeDiff, Nat.reduceEqDiff, Nat.reduceBEq, reduceCtorEq, Int.reduceLT, Int.reduceLE, Int.reduceEq, Int.reduceGT, Int.reduceGE, Int.reduceToNat, Int.reduceNeg, t0]
        · simp -implicitDefEqProofs only [go_sem, Nat.reduceAdd, Nat.reduceMul, Nat.reduceLT, Nat.reduceLeDiff, Nat.reduceEqDiff, Nat.reduceBEq, reduceCtorEq, Int.reduceLT, Int.reduceLE, Int.reduceEq, Int.reduceGT, Int.reduceGE, Int.reduceToNat, Int.reduceNeg, t6]
        · simp -implicitDefEqProofs only [go_sem, Nat.reduceAdd, Nat.reduceMul, Nat.reduceLT, Nat.reduceLeDiff, Nat.reduceEqDiff, Nat.reduceBEq, reduceCtorEq, Int.reduceLT, Int.reduceLE, Int.reduceEq, Int.reduceGT, Int.reduceGE, Int.reduceToNat, Int.reduceNeg, t7]
        · simp -implicitDefEqProofs only [go_sem, Nat.reduceAdd, Nat.reduceMul, Nat.reduceLT, Nat.reduceLeDiff, Nat.reduceEqDiff, Nat.reduceBEq, reduceCtorEq, Int.reduceLT, Int.reduceLE, Int.reduceEq, Int.reduceGT, Int.reduceGE, Int.reduceToNat, Int.reduceNeg, t10]
        · simp -implicitDefEqProofs only [go_sem, Nat.reduceAdd, Nat.reduceMul, Nat.reduceLT, Nat.reduceLeDiff, Nat.reduceEqDiff, Nat.reduceBEq, reduceCtorEq, Int.reduceLT, Int.reduceLE, Int.reduceEq, Int.reduceGT, Int.reduceGE, Int.reduceToNat, Int.reduceNeg, t12]
        · simp -implicitDefEqProofs only [go_sem, Nat.reduceAdd, Nat.reduceMul, Nat.reduceLT, Nat.reduceLeDiff, Nat.reduceEqDiff, Nat.reduceBEq, reduceCtorEq, Int.reduceLT, Int.reduceLE, Int.reduceEq, Int.reduceGT, Int.reduceGE, Int.reduceToNat, Int.reduceNeg, t13]
        · simp -implicitDefEqProofs only [go_sem, Nat.reduceAdd, Nat.reduceMul, Nat.reduceLT, Nat.reduceLeDiff, Nat.reduceEqDiff, Nat.reduceBEq, reduceCtorEq, Int.reduceLT, Int.reduceLE, Int.reduceEq, Int.reduceGT, Int.reduceGE, Int.reduceToNat, Int.reduceNeg, t14]
        · simp -implicitDefEqProofs only [go_sem, Nat.reduceAdd, Nat.reduceMul, Nat.reduceLT, Nat.reduceLeDiff, Nat.reduceEqDiff, Nat.reduceBEq, reduceCtorEq, Int.reduceLT, Int.reduceLE, Int.reduceEq, Int.reduceGT, Int.reduceGE, Int.reduceToNat, Int.reduceNeg]
        · simp -implicitDefEqProofs only [go_sem, Nat.reduceAdd, Nat.reduceMul, Nat.reduceLT, Nat.reduceLeDiff, Nat.reduceEqDiff, Nat.reduceBEq, reduceCtorEq, Int.reduceLT, Int.reduceLE, Int.reduceEq, Int.reduceGT, Int.reduceGE, Int.reduceToNat, Int.reduceNeg]
        · exact ⟨hW2.len, hW2.zero, hW2.known, hW2.wait, fun _ _ _ _ _ _ hne _ => absurd (.inl rfl) hne⟩
        · rw [List.getElem?_set_ne (Ne.symm haq)]
          exact hax
        · intro j' hj' p hp
          by_cases hjj : j' = j
          · subst hjj
            rw [hjq] at hp
            cases hp
            exact ⟨q, rfl, List.getElem?_set_self hql⟩
          · obtain ⟨r, e, hr⟩ := hdone j' (by omega) p hp
            refine ⟨r, e, ?_⟩
            have : q ≠ r := by
              rintro rfl
              rw [hgq'] at hr
              have := Option.some.inj hr
              omega
            rw [List.getElem?_set_ne this]
            exact hr
      · by_cases heq : h[q] = x - tk l i + lv l i
        · simp -implicitDefEqProofs only [go_sem, Nat.reduceAdd, Nat.reduceMul, Nat.reduceLT, Nat.reduceLeDiff, Nat.reduceEqDiff, Nat.reduceBEq, reduceCtorEq, Int.reduceLT, Int.reduceLE, Int.reduceEq, Int.reduceGT, Int.reduceGE, Int.reduceToNat, Int.reduceNeg, t7, t14, t15, hals, hcmp, e1, e3, hal, decide_eq_false hge, hidx _ _ hql, hBm, hget q _ hgq, decide_eq_false hneg, t10, hidx _ _ hah, hget a x hax, t12, t13, wrapR (x := x - tk l i) (by omega), wrapR (x := x - tk l i + lv l i) (by omega), F29_J0, decide_eq_true heq, wrapS (i := j) (by omega)]
          refine .mk (.inl ⟨rfl, ⟨?_, ?_, ?_, ?_, ?_, ?_, ?_, ?_, row, h, more, ?_, hck, hown, W, hax, hn0, hmore, ?_⟩⟩)
          · simp -implicitDefEqProofs only [go_sem, Nat.reduceAdd, Nat.reduceMul, Nat.reduceLT, Nat.reduceLeDiff, Nat.reduceEqDiff, Nat.reduceBEq, reduceCtorEq, Int.reduceLT, Int.reduceLE, Int.reduceEq, Int.reduceGT, Int.reduceGE, Int.reduceToNat, Int.reduceNeg, t0]
          · simp -implicitDefEqProofs only [go_sem, Nat.reduceAdd, Nat.reduceMul, Nat.reduceLT, Nat.reduceLeDiff, Nat.reduceEqDiff, Nat.reduceBEq, reduceCtorEq, Int.reduceLT, Int.reduceLE, Int.reduceEq, Int.reduceGT, Int.reduceGE, Int.reduceToNat, Int.reduceNeg, t6]
          · simp -implicitDefEqProofs only [go_sem, Nat.reduceAdd, Nat.reduceMul, Nat.reduceLT, Nat.reduceLeDiff, Nat.reduceEqDiff, Nat.reduceBEq, reduceCtorEq, Int.reduceLT, Int.reduceLE, Int.reduceEq, Int.reduceGT, Int.reduceGE, Int.reduceToNat, Int.reduceNeg, t7]
          · simp -implicitDefEqProofs only [go_sem, Nat.reduceAdd, Nat.reduceMul, Nat.reduceLT, Nat.reduceLeDiff, Nat.reduceEqDiff, Nat.reduceBEq, reduceCtorEq, Int.reduceLT, Int.reduceLE, Int.reduceEq, Int.reduceGT, Int.reduceGE, Int.reduceToNat, Int.reduceNeg, t10]
          · simp -implicitDefEqProofs only [go_sem, Nat.reduceAdd, Nat.reduceMul, Nat.reduceLT, Nat.reduceLeDiff, Nat.reduceEqDiff, Nat.reduceBEq, reduceCtorEq, Int.reduceLT, Int.reduceLE, Int.reduceEq, Int.reduceGT, Int.reduceGE, Int.reduceToNat, Int.reduceNeg, t12]
          · simp -implicitDefEqProofs only [go_sem, Nat.reduceAdd, Nat.reduceMul, Nat.reduceLT, Nat.reduceLeDiff, Nat.reduceEqDiff, Nat.reduceBEq, reduceCtorEq, Int.reduceLT, Int.reduceLE, Int.reduceEq, Int.reduceGT, Int.reduceGE, Int.reduceToNat, Int.reduceNeg, t13]
          · simp -implicitDefEqProofs only [go_sem, Nat.reduceAdd, Nat.reduceMul, Nat.reduceLT, Nat.reduceLeDiff, Nat.reduceEqDiff, Nat.reduceBEq, reduceCtorEq, Int.reduceLT, Int.reduceLE, Int.reduceEq, Int.reduceGT, Int.reduceGE, Int.reduceToNat, Int.reduceNeg, t14]
          · simp -implicitDefEqProofs only [go_sem, Nat.reduceAdd, Nat.reduceMul, Nat.reduceLT, Nat.reduceLeDiff, Nat.reduceEqDiff, Nat.reduceBEq, reduceCtorEq, Int.reduceLT, Int.reduceLE, Int.reduceEq, Int.reduceGT, Int.reduceGE, Int.reduceToNat, Int.reduceNeg]
          · simp -implicitDefEqProofs only [go_sem, Nat.reduceAdd, Nat.reduceMul, Nat.reduceLT, Nat.reduceLeDiff, Nat.reduceEqDiff, Nat.reduceBEq, reduceCtorEq, Int.reduceLT, Int.reduceLE, Int.reduceEq, Int.reduceGT, Int.reduceGE, Int.reduceToNat, Int.reduceNeg, t9]
          · intro j' hj' p hp
            by_cases hjj : j' = j
            · subst hjj
              rw [hjq] at hp
              cases hp
              exact ⟨q, rfl, by rw [hgq, heq]⟩
            · exact hdone j' (by omega) p hp
        · simp -implicitDefEqProofs only [go_sem, Nat.reduceAdd, Nat.reduceMul, Nat.reduceLT, Nat.reduceLeDiff, Nat.reduceEqDiff, Nat.reduceBEq, reduceCtorEq, Int.reduceLT, Int.reduceLE, Int.reduceEq, Int.reduceGT, Int.reduceGE, Int.reduceToNat, Int.reduceNeg, t7, t14, t15, hals, hcmp, e1, e3, hal, decide_eq_false hge, hidx _ _ hql, hBm, hget q _ hgq, decide_eq_false hneg, t10, hidx _ _ hah, hget a x hax, t12, t13, wrapR (x := x - tk l i) (by omega), wrapR (x := x - tk l i + lv l i) (by omega), F29_J0, decide_eq_false heq]
          refine .mk (.inr ⟨by simp, .inr ⟨rfl, ?_, ?_, hck.ext, ?_⟩⟩)
          · simp -implicitDefEqProofs only [go_sem, Nat.reduceAdd, Nat.reduceMul, Nat.reduceLT, Nat.reduceLeDiff, Nat.reduceEqDiff, Nat.reduceBEq, reduceCtorEq, Int.reduceLT, Int.reduceLE, Int.reduceEq, Int.reduceGT, Int.reduceGE, Int.reduceToNat, Int.reduceNeg]
          · simp -implicitDefEqProofs only [go_sem, Nat.reduceAdd, Nat.reduceMul, Nat.reduceLT, Nat.reduceLeDiff, Nat.reduceEqDiff, Nat.reduceBEq, reduceCtorEq, Int.reduceLT, Int.reduceLE, Int.reduceEq, Int.reduceGT, Int.reduceGE, Int.reduceToNat, Int.reduceNeg]
          · refine W.none hi hax h0x (.inr ⟨_, hpm, fun q' e => ⟨h[q], .inl ?_⟩⟩)
            have := Int.ofNat_inj.1 e
            subst this
            exact ⟨hgq, by omega, heq⟩
  · rintro ⟨T1, H1⟩ ⟨t0, t6, t7, t10, t12, t13, t14, t15, row, h, more, t9, hck, hown, W, hax, hn0, hmore, hdone⟩
    simp only at t0 t6 t7 t10 t12 t13 t14 t15 row t9 hck hown
    have hcmp : decide ((((nextI i a).length : Nat) : Int) < (((nextI i a).length : Nat) : Int)) = false := decide_eq_false (by omega)
    have hals : aLen Tryd.prog 40 sv = some (.int .i64 ((nextI i a).length : Nat)) := by rw [row.alen ysl40.under, List.length_map]
    unfold F29_L1
    simp -implicitDefEqProofs only [go_sem, Nat.reduceAdd, Nat.reduceMul, Nat.reduceLT, Nat.reduceLeDiff, Nat.reduceEqDiff, Nat.reduceBEq, reduceCtorEq, Int.reduceLT, Int.reduceLE, Int.reduceEq, Int.reduceGT, Int.reduceGE, Int.reduceToNat, Int.reduceNeg, t14, t15, hals, hcmp]
    refine .mk ⟨by simp, .inl ⟨rfl, ⟨?_, ?_, ?_, ?_, ?_, ?_, ?_, ?_, row, h, more, ?_, hck, hown, W, hax, hn0, hmore, hdone⟩⟩⟩
    · simp -implicitDefEqProofs only [go_sem, Nat.reduceAdd, Nat.reduceMul, Nat.reduceLT, Nat.reduceLeDiff, Nat.reduceEqDiff, Nat.reduceBEq, reduceCtorEq, Int.reduceLT, Int.reduceLE, Int.reduceEq, Int.reduceGT, Int.reduceGE, Int.reduceToNat, Int.reduceNeg, t0]
    · simp -implicitDefEqProofs only [go_sem, Nat.reduceAdd, Nat.reduceMul, Nat.reduceLT, Nat.reduceLeDiff, Nat.reduceEqDiff, Nat.reduceBEq, reduceCtorEq, Int.reduceLT, Int.reduceLE, Int.reduceEq, Int.reduceGT, Int.reduceGE, Int.reduceToNat, Int.reduceNeg, t6]
    · simp -implicitDefEqProofs only [go_sem, Nat.reduceAdd, Nat.reduceMul, Nat.reduceLT, Nat.reduceLeDiff, Nat.reduceEqDiff, Nat.reduceBEq, reduceCtorEq, Int.reduceLT, Int.reduceLE, Int.reduceEq, Int.reduceGT, Int.reduceGE, Int.reduceToNat, Int.reduceNeg, t7]
    · simp -implicitDefEqProofs only [go_sem, Nat.reduceAdd, Nat.reduceMul, Nat.reduceLT, Nat.reduceLeDiff, Nat.reduceEqDiff, Nat.reduceBEq, reduceCtorEq, Int.reduceLT, Int.reduceLE, Int.reduceEq, Int.reduceGT, Int.reduceGE, Int.reduceToNat, Int.reduceNeg, t10]
    · simp -implicitDefEqProofs only [go_sem, Nat.reduceAdd, Nat.reduceMul, Nat.reduceLT, Nat.reduceLeDiff, Nat.reduceEqDiff, Nat.reduceBEq, reduceCtorEq, Int.reduceLT, Int.reduceLE, Int.reduceEq, Int.reduceGT, Int.reduceGE, Int.reduceToNat, Int.reduceNeg, t12]
    · simp -implicitDefEqProofs only [go_sem, Nat.reduceAdd, Nat.reduceMul, Nat.reduceLT, Nat.reduceLeDiff, Nat.reduceEqDiff, Nat.reduceBEq, reduceCtorEq, Int.reduceLT, Int.reduceLE, Int.reduceEq, Int.reduceGT, Int.reduceGE, Int.reduceToNat, Int.reduceNeg, t13]
    · simp -implicitDefEqProofs only [go_sem, Nat.reduceAdd, Nat.reduceMul, Nat.reduceLT, Nat.reduceLeDiff, Nat.reduceEqDiff, Nat.reduceBEq, reduceCtorEq, Int.reduceLT, Int.reduceLE, Int.reduceEq, Int.reduceGT, Int.reduceGE, Int.reduceToNat, Int.reduceNeg, t14]
    · simp -implicitDefEqProofs only [go_sem, Nat.reduceAdd, Nat.reduceMul, Nat.reduceLT, Nat.reduceLeDiff, Nat.reduceEqDiff, Nat.reduceBEq, reduceCtorEq, Int.reduceLT, Int.reduceLE, Int.reduceEq, Int.reduceGT, Int.reduceGE, Int.reduceToNat, Int.reduceNeg, t15]
    · simp -implicitDefEqProofs only [go_sem, Nat.reduceAdd, Nat.reduceMul, Nat.reduceLT, Nat.reduceLeDiff, Nat.reduceEqDiff, Nat.reduceBEq, reduceCtorEq, Int.reduceLT, Int.reduceLE, Int.reduceEq, Int.reduceGT, Int.reduceGE, Int.reduceToNat, Int.reduceNeg, t9]
end
end Go.Proofs.YthiflgncldmkjaaDoor
/- The document's heights: the fill, and one round. -/
set_option linter.unusedVariables false
set_option linter.unusedSimpArgs false
set_option maxRecDepth 100000
namespace Go.Proofs.YthiflgncldmkjaaDoor
open Go.Ri

section
variable {Hb : AH} {ls s : AV} {l : List Code} {c : Code}
def JF (Hb : AH) (ls s : AV) (c : Code) (i : Nat) (t : St) : Prop :=
  t.1 0 = ls ∧ t.1 6 = .ptr (some (Hb.next, 0)) ∧ t.1 8 = .int .i64 (i : Nat) ∧ Cr Hb s c t.2 ∧ OwnI (Hb.next + 1) t.2 (t.1 7) (List.replicate i (-1))
theorem jfill (d : Nat) (B : Base Hb ls s l c) (hlen : c.ins.length ≤ 65536) {T : Tm} {H : AH} (h0 : JF Hb ls s c 0 (T, H)) :
    Ret (Ri.iter big (F29_L5 (RT d) (Ri.iter big)) (T, H)) fun r => r.1 = .exit 0 ∧ JF Hb ls s c c.ins.length r.2 := by
  refine Ret.upTo (n := c.ins.length) (JF Hb ls s c) (by unfold big; omega) h0 ?_ ?_
  · rintro i ⟨T1, H1⟩ hi ⟨t0, t6, t8, hck, hown⟩
    simp only at t0 t6 t8 hck hown
    have hal := B.ins.alen
    have hcmp : decide (((i : Nat) : Int) < ((c.ins.length : Nat) : Int)) = true := decide_eq_true (by omega)
    obtain ⟨⟨hs', H2⟩, hap, g1, g2, g3, g4, g5⟩ := OwnI.more (x := -1) hown (Ext.self hck.ext.wf hck.lt) (by simp; omega)
    simp only at g1 g2 g3 g4 g5
    have hx2 : Ext Hb.next Hb H2 := hck.ext.trans (g2.less (Nat.le_succ _)) (Nat.le_refl _)
    have hb2 : H2.m Hb.next = some ⟨[s, .int .i64 c.cells, .int .i64 c.params, .bool c.answers], 24, true⟩ := by rw [g2.low _ (Nat.lt_succ_self _)]; exact hck.blk
    unfold F29_L5
    simp -implicitDefEqProofs only [go_sem, Nat.reduceAdd, Nat.reduceMul, Nat.reduceLT, Nat.reduceLeDiff, Nat.reduceEqDiff, Nat.reduceBEq, reduceCtorEq, Int.reduceLT, Int.reduceLE, Int.reduceEq, Int.reduceGT, Int.reduceGE, Int.reduceToNat, Int.reduceNeg, t6, t8, hck.blk, hal, hcmp, hap, wrapS (i := i) (by omega)]
    refine .mk (.inl ⟨rfl, ?_, ?_, ?_, ⟨hx2, hb2⟩, ?_⟩)
    · simp -implicitDefEqProofs only [go_sem, Nat.reduceAdd, Nat.reduceMul, Nat.reduceLT, Nat.reduceLeDiff, Nat.reduceEqDiff, Nat.reduceBEq, reduceCtorEq, Int.reduceLT, Int.reduceLE, Int.reduceEq, Int.reduceGT, Int.reduceGE, Int.reduceToNat, Int.reduceNeg, t0]
    · simp -implicitDefEqProofs only [go_sem, Nat.reduceAdd, Nat.reduceMul, Nat.reduceLT, Nat.reduceLeDiff, Nat.reduceEqDiff, Nat.reduceBEq, reduceCtorEq, Int.reduceLT, Int.reduceLE, Int.reduceEq, Int.reduceGT, Int.reduceGE, Int.reduceToNat, Int.reduceNeg, t6]
    · simp -implicitDefEqProofs only [go_sem, Nat.reduceAdd, Nat.reduceMul, Nat.reduceLT, Nat.reduceLeDiff, Nat.reduceEqDiff, Nat.reduceBEq, reduceCtorEq, Int.reduceLT, Int.reduceLE, Int.reduceEq, Int.reduceGT, Int.reduceGE, Int.reduceToNat, Int.reduceNeg]
    · simp -implicitDefEqProofs only [go_sem, Nat.reduceAdd, Nat.reduceMul, Nat.reduceLT, Nat.reduceLeDiff, Nat.reduceEqDiff, Nat.reduceBEq, reduceCtorEq, Int.reduceLT, Int.reduceLE, Int.reduceEq, Int.reduceGT, Int.reduceGE, Int.reduceToNat, Int.reduceNeg]
      rw [List.replicate_succ']
      exact g1
  · rintro ⟨T1, H1⟩ ⟨t0, t6, t8, hck, hown⟩
    simp only at t0 t6 t8 hck hown
    have hal := B.ins.alen
    have hcmp : decide (((c.ins.length : Nat) : Int) < ((c.ins.length : Nat) : Int)) = false := decide_eq_false (by omega)
    unfold F29_L5
    simp -implicitDefEqProofs only [go_sem, Nat.reduceAdd, Nat.reduceMul, Nat.reduceLT, Nat.reduceLeDiff, Nat.reduceEqDiff, Nat.reduceBEq, reduceCtorEq, Int.reduceLT, Int.reduceLE, Int.reduceEq, Int.reduceGT, Int.reduceGE, Int.reduceToNat, Int.reduceNeg, t6, t8, hck.blk, hal, hcmp]
    refine .mk ⟨by simp, rfl, ?_, ?_, ?_, hck, ?_⟩
    · simp -implicitDefEqProofs only [go_sem, Nat.reduceAdd, Nat.reduceMul, Nat.reduceLT, Nat.reduceLeDiff, Nat.reduceEqDiff, Nat.reduceBEq, reduceCtorEq, Int.reduceLT, Int.reduceLE, Int.reduceEq, Int.reduceGT, Int.reduceGE, Int.reduceToNat, Int.reduceNeg, t0]
    · simp -implicitDefEqProofs only [go_sem, Nat.reduceAdd, Nat.reduceMul, Nat.reduceLT, Nat.reduceLeDiff, Nat.reduceEqDiff, Nat.reduceBEq, reduceCtorEq, Int.reduceLT, Int.reduceLE, Int.reduceEq, Int.reduceGT, Int.reduceGE, Int.reduceToNat, Int.reduceNeg, t6]
    · simp -implicitDefEqProofs only [go_sem, Nat.reduceAdd, Nat.reduceMul, Nat.reduceLT, Nat.reduceLeDiff, Nat.reduceEqDiff, Nat.reduceBEq, reduceCtorEq, Int.reduceLT, Int.reduceLE, Int.reduceEq, Int.reduceGT, Int.reduceGE, Int.reduceToNat, Int.reduceNeg, t8]
    · simp -implicitDefEqProofs only [go_sem, Nat.reduceAdd, Nat.reduceMul, Nat.reduceLT, Nat.reduceLeDiff, Nat.reduceEqDiff, Nat.reduceBEq, reduceCtorEq, Int.reduceLT, Int.reduceLE, Int.reduceEq, Int.reduceGT, Int.reduceGE, Int.reduceToNat, Int.reduceNeg]
      exact hown

structure J2 (Hb : AH) (ls s : AV) (l : List Code) (c : Code) (hs : AV) (n0 : Nat) (a : Nat) (t : St) : Prop where
  t0 : t.1 0 = ls
  t6 : t.1 6 = .ptr (some (Hb.next, 0))
  t7 : t.1 7 = hs
  t10 : t.1 10 = .int .i64 (a : Nat)
  rest : ∃ (h : List Int) (more : Bool), t.1 9 = .bool more ∧ Cr Hb s c t.2 ∧ OwnI (Hb.next + 1) t.2 hs h ∧ Way l c h [] (fun b => more = true ∨ a ≤ b) ∧ negs h ≤ n0 ∧ (more = true → negs h < n0)
def EK (Hb : AH) (ls s : AV) (l : List Code) (c : Code) (hs : AV) (n0 : Nat) (r : Ex × St) : Prop :=
  (r.1 = .exit 4 ∧ J2 Hb ls s l c hs n0 c.ins.length r.2) ∨ (r.1 = .ret ∧ r.2.1 4 = .slice none 0 (.kn 0) ∧ r.2.1 5 = .bool false ∧ Ext Hb.next Hb r.2.2 ∧ ¬ ∃ g, Good l c g)
theorem Way.next_ {l : List Code} {c : Code} {h : List Int} {more : Bool} {a : Nat} (W : Way l c h [] (fun b => more = true ∨ a ≤ b))
    (hd : ∀ i x, c.ins[a]? = some i → h[a]? = some x → 0 ≤ x → Done l i a x h) : Way l c h [] (fun b => more = true ∨ a + 1 ≤ b) := by
  refine ⟨W.len, W.zero, W.known, W.wait, fun b i x hb h0 hw hne hi => ?_⟩
  by_cases hba : b = a
  · subst hba
    exact hd i x hi hb h0
  · refine W.done b i x hb h0 hw (fun h => hne ?_) hi
    rcases h with h | h
    · exact .inl h
    · exact .inr (by omega)
set_option maxHeartbeats 4000000 in
theorem jround (d : Nat) (B : Base Hb ls s l c) (hmay : ∀ i ∈ c.ins, mayI l c i = true) (hlen : c.ins.length ≤ 65536) {hs : AV} {n0 : Nat} {a : Nat} (hac : a < c.ins.length) {T : Tm} {H : AH}
    (hI : J2 Hb ls s l c hs n0 a (T, H)) : Ret (F29_L3 (RT (d + 1)) (Ri.iter big) (T, H)) fun r => (r.1 = .normal ∧ J2 Hb ls s l c hs n0 (a + 1) r.2) ∨ (r.1 ≠ .normal ∧ EK Hb ls s l c hs n0 r) := by
  obtain ⟨t0, t6, t7, t10, h, more, t9, hck, hown, W, hn0, hmore⟩ := hI
  simp only at t0 t6 t7 t10 t9 hck hown
  have hhl := W.len
  have hah : a < h.length := by omega
  have hcmp : decide (((a : Nat) : Int) < ((h.length : Nat) : Int)) = true := decide_eq_true (by omega)
  have hal : aLen Tryd.prog 40 hs = some (.int .i64 (h.length : Nat)) := by rw [hown.alen ysl40.under, intsC_len]
  obtain ⟨bh, Bh, ha, hNb, hbn, hBm, hrw, hcl, hidx, hget, hset⟩ := OwnI.blk hown hck.ext.wf (by omega)
  obtain ⟨x, hax⟩ : ∃ x, h[a]? = some x := ⟨_, List.getElem?_eq_getElem hah⟩
  have hpos : x = -1 ∨ 0 ≤ x := (W.known a x hax).imp id fun h => h.1
  have hws : IntKind.i64.wrap (((a : Nat) : Int) + 1) = ((a + 1 : Nat) : Int) := wrapS (i := a) (by omega)
  unfold F29_L3
  by_cases hneg : x < 0
  · simp -implicitDefEqProofs only [go_sem, Nat.reduceAdd, Nat.reduceMul, Nat.reduceLT, Nat.reduceLeDiff, Nat.reduceEqDiff, Nat.reduceBEq, reduceCtorEq, Int.reduceLT, Int.reduceLE, Int.reduceEq, Int.reduceGT, Int.reduceGE, Int.reduceToNat, Int.reduceNeg, t7, t10, hal, hcmp, hidx _ _ hah, hBm, hget a x hax, decide_eq_true hneg, F29_J2, hws]
    refine .mk (.inl ⟨rfl, ?_, ?_, ?_, ?_, h, more, ?_, hck, hown, W.next_ fun i y _ hy h0 => ?_, hn0, hmore⟩)
    · simp -implicitDefEqProofs only [go_sem, Nat.reduceAdd, Nat.reduceMul, Nat.reduceLT, Nat.reduceLeDiff, Nat.reduceEqDiff, Nat.reduceBEq, reduceCtorEq, Int.reduceLT, Int.reduceLE, Int.reduceEq, Int.reduceGT, Int.reduceGE, Int.reduceToNat, Int.reduceNeg, t0]
    · simp -implicitDefEqProofs only [go_sem, Nat.reduceAdd, Nat.reduceMul, Nat.reduceLT, Nat.reduceLeDiff, Nat.reduceEqDiff, Nat.reduceBEq, reduceCtorEq, Int.reduceLT, Int.reduceLE, Int.reduceEq, Int.reduceGT, Int.reduceGE, Int.reduceToNat, Int.reduceNeg, t6]
    · simp -implicitDefEqProofs only [go_sem, Nat.reduceAdd, Nat.reduceMul, Nat.reduceLT, Nat.reduceLeDiff, Nat.reduceEqDiff, Nat.reduceBEq, reduceCtorEq, Int.reduceLT, Int.reduceLE, Int.reduceEq, Int.reduceGT, Int.reduceGE, Int.reduceToNat, Int.reduceNeg, t7]
    · simp -implicitDefEqProofs only [go_sem, Nat.reduceAdd, Nat.reduceMul, Nat.reduceLT, Nat.reduceLeDiff, Nat.reduceEqDiff, Nat.reduceBEq, reduceCtorEq, Int.reduceLT, Int.reduceLE, Int.reduceEq, Int.reduceGT, Int.reduceGE, Int.reduceToNat, Int.reduceNeg]
    · simp -implicitDefEqProofs only [go_sem, Nat.reduceAdd, Nat.reduceMul, Nat.reduceLT, Nat.reduceLeDiff, Nat.reduceEqDiff, Nat.reduceBEq, reduceCtorEq, Int.reduceLT, Int.reduceLE, Int.reduceEq, Int.reduceGT, Int.reduceGE, Int.reduceToNat, Int.reduceNeg, t9]
    · rw [hax] at hy
      cases hy
      omega
  · have h0x : 0 ≤ x := by omega
    obtain ⟨i, hi⟩ : ∃ i, c.ins[a]? = some i := ⟨_, List.getElem?_eq_getElem hac⟩
    have him : i ∈ c.ins := List.mem_of_getElem? hi
    have hm := hmay i him
    have hsub := hck.ext.sub B.wf
    have hins : InsRow H s c.ins := ⟨B.ins.1.mono hsub, B.ins.2⟩
    obtain ⟨pb, po, e1, e2, _⟩ := hins.1.at (i := a) (by simpa using hac)
    simp only [List.getElem_map] at e2
    have hig : c.ins[a] = i := by rw [List.getElem?_eq_getElem hac] at hi; exact Option.some.inj hi
    rw [hig] at e2
    have hin : insC i = [.int .i64 i.op, .int .i64 i.n, .int .i64 i.m] := rfl
    have hkn : ¬ Hb.next = H.next := Nat.ne_of_lt hck.lt
    have hbn' : ¬ bh = H.next := by omega
    have hx1 : Ext Hb.next Hb (H.new (insC i) 29) := hck.ext.new _ _
    obtain ⟨⟨v, H2⟩, h71, hv, hx2⟩ := effect_spec d hx1.wf (B.codes.mono (hx1.sub B.wf)) (i := i) hm
    simp only at hv hx2
    subst hv
    simp only [new_next] at hx2
    have hx12 : Ext Hb.next Hb H2 := hx1.trans hx2 (by have := hck.lt; omega)
    have hb2 : H2.m bh = some Bh := by rw [hx2.low bh (by omega)]; simp [hbn', hBm]
    have hi2 : H2.m H.next = some ⟨insC i, 29, true⟩ := by rw [hx2.low _ (by omega)]; simp
    obtain ⟨⟨sv, H3⟩, h72, hrow3, hx3, hat3⟩ := follow_spec d hx12.wf i (a := a) (by omega)
    simp only at hrow3 hx3 hat3
    have hn2 : H.next < H2.next := hx12.wf _ _ hi2
    have old : ∀ b, b < H.next → H3.m b = H.m b := fun b hb => by
      rw [hx3.low b (by omega), hx2.low b (by omega)]
      have h1 : ¬ b = H.next := by omega
      simp [h1]
    have hlow : ∀ b, At hs b → b < H2.next := fun b hb => by
      obtain ⟨B', h1, _⟩ := hown.at hb
      have := hck.ext.wf _ _ h1
      omega
    have hlow1 : ∀ b, At hs b → b < H.next := fun b hb => by
      obtain ⟨B', h1, _⟩ := hown.at hb
      exact hck.ext.wf _ _ h1
    have hck3 : Cr Hb s c H3 := ⟨hx12.trans hx3 (by have := hck.lt; omega), by rw [old _ hck.lt]; exact hck.blk⟩
    have bad : ¬ okAt l i x → ¬ ∃ g, Good l c g := fun hb => W.none hi hax h0x (.inl hb)
    have tail : okAt l i x → ∀ T' : Tm, T' 0 = ls → T' 6 = .ptr (some (Hb.next, 0)) → T' 7 = hs → T' 9 = .bool more → T' 10 = .int .i64 (a : Nat) → T' 12 = .int .i64 (tk l i) → T' 13 = .int .i64 (lv l i) → T' 14 = sv → T' 15 = .int .i64 0 →
        Ret (jn ((Ri.iter big (F29_L1 (RT (d + 1)) (Ri.iter big)) (T', H3)).bind fun r137 => match r137.1 with
           | .normal => none
           | .exit j138 => if j138 = 6 then
           (some (.inl (r137.2.1, r137.2.2)))
           else
           (if j138 = 5 then some (.inl (r137.2.1, r137.2.2)) else (some (.exit j138, r137.2.1, r137.2.2)).map .inr)
           | .ret => (some (.ret, r137.2.1, r137.2.2)).map .inr) (F29_J2 (RT (d + 1)) (Ri.iter big))) fun r => (r.1 = .normal ∧ J2 Hb ls s l c hs n0 (a + 1) r.2) ∨ (r.1 ≠ .normal ∧ EK Hb ls s l c hs n0 r) := by
      intro ho T' a0 a6 a7 a9 a10 a12 a13 a14 a15
      obtain ⟨⟨e, T4, H4⟩, hit, hE⟩ := jloop1 (d + 1) hm hi h0x ho (N1 := H2.next) (sv := sv) (hs := hs) (n0 := n0) (Hb := Hb) (ls := ls) (s := s) (T := T') (H := H3) hlen (fun b ⟨o, n, cc, e⟩ => (hat3 b o n cc e).1) hlow
        ⟨a0, a6, a7, a10, a12, a13, a14, a15, hrow3, h, more, a9, hck3, hown.to fun b hb => old b (hlow1 b hb), W, hax, hn0, hmore, fun j' hj' => absurd hj' (Nat.not_lt_zero _)⟩
      rcases hE with ⟨he, q⟩ | ⟨he, q1, q2, q3, q4⟩
      · simp only at he
        subst he
        obtain ⟨b0, b6, b7, b10, _, _, _, _, _, h4, more4, k1, k2, k3, k4, k5, k6, k7, k8⟩ := q
        simp only at b0 b6 b7 b10 k1 k2 k3
        simp -implicitDefEqProofs only [go_sem, Nat.reduceAdd, Nat.reduceMul, Nat.reduceLT, Nat.reduceLeDiff, Nat.reduceEqDiff, Nat.reduceBEq, reduceCtorEq, Int.reduceLT, Int.reduceLE, Int.reduceEq, Int.reduceGT, Int.reduceGE, Int.reduceToNat, Int.reduceNeg, hit, F29_J2, b10, hws]
        refine .mk (.inl ⟨rfl, ?_, ?_, ?_, ?_, h4, more4, ?_, k2, k3, k4.next_ fun i' y hi' hy hy0 => ?_, k6, k7⟩)
        · simp -implicitDefEqProofs only [go_sem, Nat.reduceAdd, Nat.reduceMul, Nat.reduceLT, Nat.reduceLeDiff, Nat.reduceEqDiff, Nat.reduceBEq, reduceCtorEq, Int.reduceLT, Int.reduceLE, Int.reduceEq, Int.reduceGT, Int.reduceGE, Int.reduceToNat, Int.reduceNeg, b0]
        · simp -implicitDefEqProofs only [go_sem, Nat.reduceAdd, Nat.reduceMul, Nat.reduceLT, Nat.reduceLeDiff, Nat.reduceEqDiff, Nat.reduceBEq, reduceCtorEq, Int.reduceLT, Int.reduceLE, Int.reduceEq, Int.reduceGT, Int.reduceGE, Int.reduceToNat, Int.reduceNeg, b6]
        · simp -implicitDefEqProofs only [go_sem, Nat.reduceAdd, Nat.reduceMul, Nat.reduceLT, Nat.reduceLeDiff, Nat.reduceEqDiff, Nat.reduceBEq, reduceCtorEq, Int.reduceLT, Int.reduceLE, Int.reduceEq, Int.reduceGT, Int.reduceGE, Int.reduceToNat, Int.reduceNeg, b7]
        · simp -implicitDefEqProofs only [go_sem, Nat.reduceAdd, Nat.reduceMul, Nat.reduceLT, Nat.reduceLeDiff, Nat.reduceEqDiff, Nat.reduceBEq, reduceCtorEq, Int.reduceLT, Int.reduceLE, Int.reduceEq, Int.reduceGT, Int.reduceGE, Int.reduceToNat, Int.reduceNeg]
        · simp -implicitDefEqProofs only [go_sem, Nat.reduceAdd, Nat.reduceMul, Nat.reduceLT, Nat.reduceLeDiff, Nat.reduceEqDiff, Nat.reduceBEq, reduceCtorEq, Int.reduceLT, Int.reduceLE, Int.reduceEq, Int.reduceGT, Int.reduceGE, Int.reduceToNat, Int.reduceNeg, k1]
        · rw [hi] at hi'
          cases hi'
          rw [k5] at hy
          cases hy
          refine ⟨ho, fun p hp => ?_⟩
          obtain ⟨j, hj⟩ := List.mem_iff_getElem?.1 hp
          exact k8 j (List.getElem?_eq_some_iff.1 hj).1 p hj
      · simp only at he q1 q2 q3
        subst he
        simp -implicitDefEqProofs only [go_sem, Nat.reduceAdd, Nat.reduceMul, Nat.reduceLT, Nat.reduceLeDiff, Nat.reduceEqDiff, Nat.reduceBEq, reduceCtorEq, Int.reduceLT, Int.reduceLE, Int.reduceEq, Int.reduceGT, Int.reduceGE, Int.reduceToNat, Int.reduceNeg, hit]
        exact .mk (.inr ⟨by simp, .inr ⟨rfl, q1, q2, q3, q4⟩⟩)
    rw [hin] at e2 h71 hi2 h72
    have done : ∀ T' : Tm, T' 4 = .slice none 0 (.kn 0) → T' 5 = .bool false → ¬ okAt l i x → Ret (some (Ex.ret, T', H2)) fun r => (r.1 = .normal ∧ J2 Hb ls s l c hs n0 (a + 1) r.2) ∨ (r.1 ≠ .normal ∧ EK Hb ls s l c hs n0 r) :=
      fun T' h4 h5 hb => .mk (.inr ⟨by simp, .inr ⟨rfl, h4, h5, hx12, bad hb⟩⟩)
    by_cases q1 : x < tk l i
    · simp -implicitDefEqProofs only [go_sem, Nat.reduceAdd, Nat.reduceMul, Nat.reduceLT, Nat.reduceLeDiff, Nat.reduceEqDiff, Nat.reduceBEq, reduceCtorEq, Int.reduceLT, Int.reduceLE, Int.reduceEq, Int.reduceGT, Int.reduceGE, Int.reduceToNat, Int.reduceNeg, t0, t6, t7, t10, hal, hcmp, hidx _ _ hah, hBm, hget a x hax, decide_eq_false hneg, hck.blk, e1, e2, new_put, h71, hb2, hi2, decide_eq_true q1]
      exact done _ (by simp -implicitDefEqProofs only [go_sem, Nat.reduceAdd, Nat.reduceMul, Nat.reduceLT, Nat.reduceLeDiff, Nat.reduceEqDiff, Nat.reduceBEq, reduceCtorEq, Int.reduceLT, Int.reduceLE, Int.reduceEq, Int.reduceGT, Int.reduceGE, Int.reduceToNat, Int.reduceNeg]) (by simp -implicitDefEqProofs only [go_sem, Nat.reduceAdd, Nat.reduceMul, Nat.reduceLT, Nat.reduceLeDiff, Nat.reduceEqDiff, Nat.reduceBEq, reduceCtorEq, Int.reduceLT, Int.reduceLE, Int.reduceEq, Int.reduceGT, Int.reduceGE, Int.reduceToNat, Int.reduceNeg]) fun h => by have := h.1; omega
    by_cases q2 : x > 4096
    · simp -implicitDefEqProofs only [go_sem, Nat.reduceAdd, Nat.reduceMul, Nat.reduceLT, Nat.reduceLeDiff, Nat.reduceEqDiff, Nat.reduceBEq, reduceCtorEq, Int.reduceLT, Int.reduceLE, Int.reduceEq, Int.reduceGT, Int.reduceGE, Int.reduceToNat, Int.reduceNeg, t0, t6, t7, t10, hal, hcmp, hidx _ _ hah, hBm, hget a x hax, decide_eq_false hneg, hck.blk, e1, e2, new_put, h71, hb2, hi2, decide_eq_false q1, decide_eq_true q2]
      exact done _ (by simp -implicitDefEqProofs only [go_sem, Nat.reduceAdd, Nat.reduceMul, Nat.reduceLT, Nat.reduceLeDiff, Nat.reduceEqDiff, Nat.reduceBEq, reduceCtorEq, Int.reduceLT, Int.reduceLE, Int.reduceEq, Int.reduceGT, Int.reduceGE, Int.reduceToNat, Int.reduceNeg]) (by simp -implicitDefEqProofs only [go_sem, Nat.reduceAdd, Nat.reduceMul, Nat.reduceLT, Nat.reduceLeDiff, Nat.reduceEqDiff, Nat.reduceBEq, reduceCtorEq, Int.reduceLT, Int.reduceLE, Int.reduceEq, Int.reduceGT, Int.reduceGE, Int.reduceToNat, Int.reduceNeg]) fun h => by have := h.2.1; omega
    by_cases q24 : i.op = 24
    · have q20 : ¬ i.op = 20 := by omega
      by_cases q4 : x = 0
      · simp -implicitDefEqProofs only [go_sem, Nat.reduceAdd, Nat.reduceMul, Nat.reduceLT, Nat.reduceLeDiff, Nat.reduceEqDiff, Nat.reduceBEq, reduceCtorEq, Int.reduceLT, Int.reduceLE, Int.reduceEq, Int.reduceGT, Int.reduceGE, Int.reduceToNat, Int.reduceNeg, t0, t6, t7, t10, hal, hcmp, hidx _ _ hah, hBm, hget a x hax, decide_eq_false hneg, hck.blk, e1, e2, new_put, h71, hb2, hi2, decide_eq_false q1, decide_eq_false q2, decide_eq_true q24, decide_eq_true q4, decide_eq_false q20, h72]
        refine tail ⟨by omega, by omega, fun h => absurd h q20, fun _ => q4⟩ _ ?_ ?_ ?_ ?_ ?_ ?_ ?_ ?_ ?_ <;> simp -implicitDefEqProofs only [go_sem, Nat.reduceAdd, Nat.reduceMul, Nat.reduceLT, Nat.reduceLeDiff, Nat.reduceEqDiff, Nat.reduceBEq, reduceCtorEq, Int.reduceLT, Int.reduceLE, Int.reduceEq, Int.reduceGT, Int.reduceGE, Int.reduceToNat, Int.reduceNeg, t0, t6, t7, t9, t10]
      · simp -implicitDefEqProofs only [go_sem, Nat.reduceAdd, Nat.reduceMul, Nat.reduceLT, Nat.reduceLeDiff, Nat.reduceEqDiff, Nat.reduceBEq, reduceCtorEq, Int.reduceLT, Int.reduceLE, Int.reduceEq, Int.reduceGT, Int.reduceGE, Int.reduceToNat, Int.reduceNeg, t0, t6, t7, t10, hal, hcmp, hidx _ _ hah, hBm, hget a x hax, decide_eq_false hneg, hck.blk, e1, e2, new_put, h71, hb2, hi2, decide_eq_false q1, decide_eq_false q2, decide_eq_true q24, decide_eq_false q4]
        exact done _ (by simp -implicitDefEqProofs only [go_sem, Nat.reduceAdd, Nat.reduceMul, Nat.reduceLT, Nat.reduceLeDiff, Nat.reduceEqDiff, Nat.reduceBEq, reduceCtorEq, Int.reduceLT, Int.reduceLE, Int.reduceEq, Int.reduceGT, Int.reduceGE, Int.reduceToNat, Int.reduceNeg]) (by simp -implicitDefEqProofs only [go_sem, Nat.reduceAdd, Nat.reduceMul, Nat.reduceLT, Nat.reduceLeDiff, Nat.reduceEqDiff, Nat.reduceBEq, reduceCtorEq, Int.reduceLT, Int.reduceLE, Int.reduceEq, Int.reduceGT, Int.reduceGE, Int.reduceToNat, Int.reduceNeg]) fun h => q4 (h.2.2.2 q24)
    by_cases q20 : i.op = 20
    · by_cases q3 : x = tk l i
      · simp -implicitDefEqProofs only [go_sem, Nat.reduceAdd, Nat.reduceMul, Nat.reduceLT, Nat.reduceLeDiff, Nat.reduceEqDiff, Nat.reduceBEq, reduceCtorEq, Int.reduceLT, Int.reduceLE, Int.reduceEq, Int.reduceGT, Int.reduceGE, Int.reduceToNat, Int.reduceNeg, t0, t6, t7, t10, hal, hcmp, hidx _ _ hah, hBm, hget a x hax, decide_eq_false hneg, hck.blk, e1, e2, new_put, h71, hb2, hi2, decide_eq_false q1, decide_eq_false q2, decide_eq_false q24, decide_eq_true q20, decide_eq_true q3, h72]
        refine tail ⟨by omega, by omega, fun _ => q3, fun h => absurd h q24⟩ _ ?_ ?_ ?_ ?_ ?_ ?_ ?_ ?_ ?_ <;> simp -implicitDefEqProofs only [go_sem, Nat.reduceAdd, Nat.reduceMul, Nat.reduceLT, Nat.reduceLeDiff, Nat.reduceEqDiff, Nat.reduceBEq, reduceCtorEq, Int.reduceLT, Int.reduceLE, Int.reduceEq, Int.reduceGT, Int.reduceGE, Int.reduceToNat, Int.reduceNeg, t0, t6, t7, t9, t10]
      · simp -implicitDefEqProofs only [go_sem, Nat.reduceAdd, Nat.reduceMul, Nat.reduceLT, Nat.reduceLeDiff, Nat.reduceEqDiff, Nat.reduceBEq, reduceCtorEq, Int.reduceLT, Int.reduceLE, Int.reduceEq, Int.reduceGT, Int.reduceGE, Int.reduceToNat, Int.reduceNeg, t0, t6, t7, t10, hal, hcmp, hidx _ _ hah, hBm, hget a x hax, decide_eq_false hneg, hck.blk, e1, e2, new_put, h71, hb2, hi2, decide_eq_false q1, decide_eq_false q2, decide_eq_false q24, decide_eq_true q20, decide_eq_false q3]
        exact done _ (by simp -implicitDefEqProofs only [go_sem, Nat.reduceAdd, Nat.reduceMul, Nat.reduceLT, Nat.reduceLeDiff, Nat.reduceEqDiff, Nat.reduceBEq, reduceCtorEq, Int.reduceLT, Int.reduceLE, Int.reduceEq, Int.reduceGT, Int.reduceGE, Int.reduceToNat, Int.reduceNeg]) (by simp -implicitDefEqProofs only [go_sem, Nat.reduceAdd, Nat.reduceMul, Nat.reduceLT, Nat.reduceLeDiff, Nat.reduceEqDiff, Nat.reduceBEq, reduceCtorEq, Int.reduceLT, Int.reduceLE, Int.reduceEq, Int.reduceGT, Int.reduceGE, Int.reduceToNat, Int.reduceNeg]) fun h => q3 (h.2.2.1 q20)
    · simp -implicitDefEqProofs only [go_sem, Nat.reduceAdd, Nat.reduceMul, Nat.reduceLT, Nat.reduceLeDiff, Nat.reduceEqDiff, Nat.reduceBEq, reduceCtorEq, Int.reduceLT, Int.reduceLE, Int.reduceEq, Int.reduceGT, Int.reduceGE, Int.reduceToNat, Int.reduceNeg, t0, t6, t7, t10, hal, hcmp, hidx _ _ hah, hBm, hget a x hax, decide_eq_false hneg, hck.blk, e1, e2, new_put, h71, hb2, hi2, decide_eq_false q1, decide_eq_false q2, decide_eq_false q24, decide_eq_false q20, h72]
      refine tail ⟨by omega, by omega, fun h => absurd h q20, fun h => absurd h q24⟩ _ ?_ ?_ ?_ ?_ ?_ ?_ ?_ ?_ ?_ <;> simp -implicitDefEqProofs only [go_sem, Nat.reduceAdd, Nat.reduceMul, Nat.reduceLT, Nat.reduceLeDiff, Nat.reduceEqDiff, Nat.reduceBEq, reduceCtorEq, Int.reduceLT, Int.reduceLE, Int.reduceEq, Int.reduceGT, Int.reduceGE, Int.reduceToNat, Int.reduceNeg, t0, t6, t7, t9, t10]
end
end Go.Proofs.YthiflgncldmkjaaDoor
/- The document's heights: what the function comes to. -/
set_option linter.unusedVariables false
set_option linter.unusedSimpArgs false
set_option maxRecDepth 100000
namespace Go.Proofs.YthiflgncldmkjaaDoor
open Go.Ri

theorem AH.ldN_sub {H H' : AH} (hs : H.sub H') {p : Nat × Nat} {n : Nat} {v : List AV} (h : H.ldN p n = some v) : H'.ldN p n = some v := by
  unfold AH.ldN at h ⊢
  cases hB : H.m p.1 with
  | none => simp [hB] at h
  | some B => simp only [hB] at h; simp only [hs _ _ hB]; exact h
theorem ldAgg_sub {H H' : AH} (hs : H.sub H') {p : Nat × Nat} {n : Nat} {v : AV} (h : ldAgg (.ptr (some p)) n H = some v) : ldAgg (.ptr (some p)) n H' = some v := by
  unfold ldAgg at h ⊢
  simp only [Option.map_eq_some_iff] at h ⊢
  obtain ⟨a, h1, h2⟩ := h
  exact ⟨a, AH.ldN_sub hs h1, h2⟩

section
variable {Hb : AH} {ls s : AV} {l : List Code} {c : Code}
structure JO (Hb : AH) (ls s : AV) (l : List Code) (c : Code) (hs : AV) (f : Nat) (t : St) : Prop where
  t0 : t.1 0 = ls
  t6 : t.1 6 = .ptr (some (Hb.next, 0))
  t7 : t.1 7 = hs
  rest : ∃ (h : List Int) (more : Bool), t.1 9 = .bool more ∧ Cr Hb s c t.2 ∧ OwnI (Hb.next + 1) t.2 hs h ∧ ((more = true ∧ Way l c h [] (fun _ => True) ∧ negs h + 2 ≤ f) ∨ (more = false ∧ Good l c h ∧ 1 ≤ f))
def EO (Hb : AH) (ls s : AV) (l : List Code) (c : Code) (hs : AV) (r : Ex × St) : Prop :=
  (r.1 = .exit 2 ∧ r.2.1 7 = hs ∧ Cr Hb s c r.2.2 ∧ ∃ h, OwnI (Hb.next + 1) r.2.2 hs h ∧ Good l c h) ∨ (r.1 = .ret ∧ r.2.1 4 = .slice none 0 (.kn 0) ∧ r.2.1 5 = .bool false ∧ Ext Hb.next Hb r.2.2 ∧ ¬ ∃ g, Good l c g)
theorem jloop3 (d : Nat) (B : Base Hb ls s l c) (hmay : ∀ i ∈ c.ins, mayI l c i = true) (hlen : c.ins.length ≤ 65536) (h1 : 1 ≤ c.ins.length) {hs : AV} {n0 : Nat} {T : Tm} {H : AH} (h0 : J2 Hb ls s l c hs n0 0 (T, H)) :
    Ret (Ri.iter big (F29_L3 (RT (d + 1)) (Ri.iter big)) (T, H)) (EK Hb ls s l c hs n0) := by
  refine Ret.upTo (n := c.ins.length) (J2 Hb ls s l c hs n0) (by unfold big; omega) h0 (fun a t ha hI => jround d B hmay hlen ha hI) ?_
  rintro ⟨T1, H1⟩ ⟨t0, t6, t7, t10, h, more, t9, hck, hown, W, hn0, hmore⟩
  simp only at t0 t6 t7 t10 t9 hck hown
  have hcmp : decide (((c.ins.length : Nat) : Int) < ((h.length : Nat) : Int)) = false := decide_eq_false (by have := W.len; omega)
  have hal : aLen Tryd.prog 40 hs = some (.int .i64 (h.length : Nat)) := by rw [hown.alen ysl40.under, intsC_len]
  unfold F29_L3
  simp -implicitDefEqProofs only [go_sem, Nat.reduceAdd, Nat.reduceMul, Nat.reduceLT, Nat.reduceLeDiff, Nat.reduceEqDiff, Nat.reduceBEq, reduceCtorEq, Int.reduceLT, Int.reduceLE, Int.reduceEq, Int.reduceGT, Int.reduceGE, Int.reduceToNat, Int.reduceNeg, t7, t10, hal, hcmp]
  refine .mk ⟨by simp, .inl ⟨rfl, ?_, ?_, ?_, ?_, h, more, ?_, hck, hown, W, hn0, hmore⟩⟩
  · simp -implicitDefEqProofs only [go_sem, Nat.reduceAdd, Nat.reduceMul, Nat.reduceLT, Nat.reduceLeDiff, Nat.reduceEqDiff, Nat.reduceBEq, reduceCtorEq, Int.reduceLT, Int.reduceLE, Int.reduceEq, Int.reduceGT, Int.reduceGE, Int.reduceToNat, Int.reduceNeg, t0]
  · simp -implicitDefEqProofs only [go_sem, Nat.reduceAdd, Nat.reduceMul, Nat.reduceLT, Nat.reduceLeDiff, Nat.reduceEqDiff, Nat.reduceBEq, reduceCtorEq, Int.reduceLT, Int.reduceLE, Int.reduceEq, Int.reduceGT, Int.reduceGE, Int.reduceToNat, Int.reduceNeg, t6]
  · simp -implicitDefEqProofs only [go_sem, Nat.reduceAdd, Nat.reduceMul, Nat.reduceLT, Nat.reduceLeDiff, Nat.reduceEqDiff, Nat.reduceBEq, reduceCtorEq, Int.reduceLT, Int.reduceLE, Int.reduceEq, Int.reduceGT, Int.reduceGE, Int.reduceToNat, Int.reduceNeg, t7]
  · simp -implicitDefEqProofs only [go_sem, Nat.reduceAdd, Nat.reduceMul, Nat.reduceLT, Nat.reduceLeDiff, Nat.reduceEqDiff, Nat.reduceBEq, reduceCtorEq, Int.reduceLT, Int.reduceLE, Int.reduceEq, Int.reduceGT, Int.reduceGE, Int.reduceToNat, Int.reduceNeg, t10]
  · simp -implicitDefEqProofs only [go_sem, Nat.reduceAdd, Nat.reduceMul, Nat.reduceLT, Nat.reduceLeDiff, Nat.reduceEqDiff, Nat.reduceBEq, reduceCtorEq, Int.reduceLT, Int.reduceLE, Int.reduceEq, Int.reduceGT, Int.reduceGE, Int.reduceToNat, Int.reduceNeg, t9]
theorem jouter (d : Nat) (B : Base Hb ls s l c) (hmay : ∀ i ∈ c.ins, mayI l c i = true) (hlen : c.ins.length ≤ 65536) (h1 : 1 ≤ c.ins.length) {hs : AV} (f : Nat) (t : St) (hI : JO Hb ls s l c hs (f + 1) t) :
    Ret (F29_L4 (RT (d + 1)) (Ri.iter big) t) fun r => (r.1 = .normal ∧ JO Hb ls s l c hs f r.2) ∨ (r.1 ≠ .normal ∧ EO Hb ls s l c hs r) := by
  obtain ⟨T, H⟩ := t
  obtain ⟨t0, t6, t7, h, more, t9, hck, hown, hw⟩ := hI
  simp only at t0 t6 t7 t9 hck hown
  unfold F29_L4
  rcases hw with ⟨rfl, W, hf⟩ | ⟨rfl, hg, hf⟩
  · simp -implicitDefEqProofs only [go_sem, Nat.reduceAdd, Nat.reduceMul, Nat.reduceLT, Nat.reduceLeDiff, Nat.reduceEqDiff, Nat.reduceBEq, reduceCtorEq, Int.reduceLT, Int.reduceLE, Int.reduceEq, Int.reduceGT, Int.reduceGE, Int.reduceToNat, Int.reduceNeg, t9]
    refine Ret.then (jloop3 d B hmay hlen h1 (hs := hs) (n0 := negs h) ⟨?_, ?_, ?_, ?_, h, false, ?_, hck, hown, ⟨W.len, W.zero, W.known, W.wait, fun _ _ _ _ _ _ hne _ => absurd (.inr (Nat.zero_le _)) hne⟩, Nat.le_refl _, fun e => by cases e⟩) ?_
    · simp -implicitDefEqProofs only [go_sem, Nat.reduceAdd, Nat.reduceMul, Nat.reduceLT, Nat.reduceLeDiff, Nat.reduceEqDiff, Nat.reduceBEq, reduceCtorEq, Int.reduceLT, Int.reduceLE, Int.reduceEq, Int.reduceGT, Int.reduceGE, Int.reduceToNat, Int.reduceNeg, t0]
    · simp -implicitDefEqProofs only [go_sem, Nat.reduceAdd, Nat.reduceMul, Nat.reduceLT, Nat.reduceLeDiff, Nat.reduceEqDiff, Nat.reduceBEq, reduceCtorEq, Int.reduceLT, Int.reduceLE, Int.reduceEq, Int.reduceGT, Int.reduceGE, Int.reduceToNat, Int.reduceNeg, t6]
    · simp -implicitDefEqProofs only [go_sem, Nat.reduceAdd, Nat.reduceMul, Nat.reduceLT, Nat.reduceLeDiff, Nat.reduceEqDiff, Nat.reduceBEq, reduceCtorEq, Int.reduceLT, Int.reduceLE, Int.reduceEq, Int.reduceGT, Int.reduceGE, Int.reduceToNat, Int.reduceNeg, t7]
    · simp -implicitDefEqProofs only [go_sem, Nat.reduceAdd, Nat.reduceMul, Nat.reduceLT, Nat.reduceLeDiff, Nat.reduceEqDiff, Nat.reduceBEq, reduceCtorEq, Int.reduceLT, Int.reduceLE, Int.reduceEq, Int.reduceGT, Int.reduceGE, Int.reduceToNat, Int.reduceNeg]
      rfl
    · simp -implicitDefEqProofs only [go_sem, Nat.reduceAdd, Nat.reduceMul, Nat.reduceLT, Nat.reduceLeDiff, Nat.reduceEqDiff, Nat.reduceBEq, reduceCtorEq, Int.reduceLT, Int.reduceLE, Int.reduceEq, Int.reduceGT, Int.reduceGE, Int.reduceToNat, Int.reduceNeg]
    · rintro ⟨e, T4, H4⟩ (⟨he, q⟩ | ⟨he, q1, q2, q3, q4⟩)
      · simp only at he
        subst he
        obtain ⟨b0, b6, b7, _, h4, more4, b9, k2, k3, k4, k6, k7⟩ := q
        simp only at b0 b6 b7 b9 k2 k3
        simp -implicitDefEqProofs only [go_sem, Nat.reduceAdd, Nat.reduceMul, Nat.reduceLT, Nat.reduceLeDiff, Nat.reduceEqDiff, Nat.reduceBEq, reduceCtorEq, Int.reduceLT, Int.reduceLE, Int.reduceEq, Int.reduceGT, Int.reduceGE, Int.reduceToNat, Int.reduceNeg]
        refine .mk (.inl ⟨rfl, b0, b6, b7, h4, more4, b9, k2, k3, ?_⟩)
        cases more4 with
        | true => exact .inl ⟨rfl, k4.loose, by have := k7 rfl; omega⟩
        | false =>
          refine .inr ⟨rfl, Way.good ⟨k4.len, k4.zero, k4.known, k4.wait, fun b i x hb h0 hw hne hi => k4.done b i x hb h0 hw ?_ hi⟩, by omega⟩
          rintro (h | h)
          · cases h
          · have := (List.getElem?_eq_some_iff.1 hi).1
            omega
      · simp only at he q1 q2 q3
        subst he
        simp -implicitDefEqProofs only [go_sem, Nat.reduceAdd, Nat.reduceMul, Nat.reduceLT, Nat.reduceLeDiff, Nat.reduceEqDiff, Nat.reduceBEq, reduceCtorEq, Int.reduceLT, Int.reduceLE, Int.reduceEq, Int.reduceGT, Int.reduceGE, Int.reduceToNat, Int.reduceNeg]
        exact .mk (.inr ⟨by simp, .inr ⟨rfl, q1, q2, q3, q4⟩⟩)
  · simp -implicitDefEqProofs only [go_sem, Nat.reduceAdd, Nat.reduceMul, Nat.reduceLT, Nat.reduceLeDiff, Nat.reduceEqDiff, Nat.reduceBEq, reduceCtorEq, Int.reduceLT, Int.reduceLE, Int.reduceEq, Int.reduceGT, Int.reduceGE, Int.reduceToNat, Int.reduceNeg, t9]
    refine .mk (.inr ⟨by simp, .inl ⟨rfl, ?_, hck, h, hown, hg⟩⟩)
    simp -implicitDefEqProofs only [go_sem, Nat.reduceAdd, Nat.reduceMul, Nat.reduceLT, Nat.reduceLeDiff, Nat.reduceEqDiff, Nat.reduceBEq, reduceCtorEq, Int.reduceLT, Int.reduceLE, Int.reduceEq, Int.reduceGT, Int.reduceGE, Int.reduceToNat, Int.reduceNeg, t7]
end

/-- The document's heights: a row of one's own, or none. -/
theorem Heights_ref (d : Nat) {H : AH} (hw : H.wf) (hT : Tabs H) {ls : AV} {l : List Code} (hl : CodesRow H ls l) {k : Int} (hk : InI k) :
    Ret (RT (d + 4) 29 [ls, .int .i64 k] H) fun r => Ext H.next H r.2 ∧ ((∃ hs h, r.1 = .tuple [hs, .bool true] ∧ OwnI (H.next + 1) r.2 hs h ∧ Hts l k h) ∨ (r.1 = .tuple [.slice none 0 (.kn 0), .bool false] ∧ ¬ ∃ h, Hts l k h)) := by
  rw [R29]
  unfold F29
  have hal := hl.alen
  by_cases p1 : k < 0
  · simp -implicitDefEqProofs only [go_sem, Nat.reduceAdd, Nat.reduceMul, Nat.reduceLT, Nat.reduceLeDiff, Nat.reduceEqDiff, Nat.reduceBEq, reduceCtorEq, Int.reduceLT, Int.reduceLE, Int.reduceEq, Int.reduceGT, Int.reduceGE, Int.reduceToNat, Int.reduceNeg, hal, decide_eq_true p1]
    exact .mk ⟨.refl hw, .inr ⟨rfl, fun ⟨h, c, h0, _⟩ => by omega⟩⟩
  by_cases p2 : k ≥ ((l.length : Nat) : Int)
  · simp -implicitDefEqProofs only [go_sem, Nat.reduceAdd, Nat.reduceMul, Nat.reduceLT, Nat.reduceLeDiff, Nat.reduceEqDiff, Nat.reduceBEq, reduceCtorEq, Int.reduceLT, Int.reduceLE, Int.reduceEq, Int.reduceGT, Int.reduceGE, Int.reduceToNat, Int.reduceNeg, hal, decide_eq_false p1, decide_eq_true p2]
    refine .mk ⟨.refl hw, .inr ⟨rfl, fun ⟨h, c, h0, h1, _⟩ => ?_⟩⟩
    have := (List.getElem?_eq_some_iff.1 h1).1
    omega
  obtain ⟨b, o, c, q1, q2, ⟨s, q3, q4, _⟩, _, _, _, q5, q6, _⟩ := codes_at hl (n := k) (by omega) (by omega)
  have B : Base H ls s l c := ⟨hw, hT, hl, q4, q5, q6⟩
  obtain ⟨⟨v, H2⟩, h70, hx2, ok, hv, hok⟩ := shape_spec d B
  simp only at hx2 hv hok
  subst hv
  cases ok with
  | false =>
    simp -implicitDefEqProofs only [go_sem, Nat.reduceAdd, Nat.reduceMul, Nat.reduceLT, Nat.reduceLeDiff, Nat.reduceEqDiff, Nat.reduceBEq, reduceCtorEq, Int.reduceLT, Int.reduceLE, Int.reduceEq, Int.reduceGT, Int.reduceGE, Int.reduceToNat, Int.reduceNeg, hal, decide_eq_false p1, decide_eq_false p2, q2, q3, h70]
    refine .mk ⟨hx2, .inr ⟨rfl, fun ⟨h, c', h0, h1, h2, h3⟩ => ?_⟩⟩
    rw [q1] at h1
    cases h1
    have := hok.2 h2
    cases this
  | true =>
    have hok1 := hok.1 rfl
    have q3' := ldAgg_sub (hx2.sub hw) q3
    have q3'' := q3'
    simp only [ldAgg, AH.ldN] at q3''
    have hw2 := hx2.wf
    have B2 : Base H2 ls s l c := ⟨hw2, hT.ext hx2 hT.two, hl.mono (hx2.sub hw), ⟨q4.1.mono (hx2.sub hw), q4.2⟩, q5, q6⟩
    have hx3 : Ext H2.next H2 (H2.new [s, .int .i64 c.cells, .int .i64 c.params, .bool c.answers] 24) := (Ext.refl hw2).new _ _
    simp -implicitDefEqProofs only [go_sem, Nat.reduceAdd, Nat.reduceMul, Nat.reduceLT, Nat.reduceLeDiff, Nat.reduceEqDiff, Nat.reduceBEq, reduceCtorEq, Int.reduceLT, Int.reduceLE, Int.reduceEq, Int.reduceGT, Int.reduceGE, Int.reduceToNat, Int.reduceNeg, hal, decide_eq_false p1, decide_eq_false p2, q2, q3, h70, q3', q3'', new_put]
    refine Ret.then (jfill (d + 3) B2 hok1.few ⟨?_, ?_, ?_, ⟨hx3, by simp⟩, ?_⟩) ?_
    · simp -implicitDefEqProofs only [go_sem, Nat.reduceAdd, Nat.reduceMul, Nat.reduceLT, Nat.reduceLeDiff, Nat.reduceEqDiff, Nat.reduceBEq, reduceCtorEq, Int.reduceLT, Int.reduceLE, Int.reduceEq, Int.reduceGT, Int.reduceGE, Int.reduceToNat, Int.reduceNeg]
    · simp -implicitDefEqProofs only [go_sem, Nat.reduceAdd, Nat.reduceMul, Nat.reduceLT, Nat.reduceLeDiff, Nat.reduceEqDiff, Nat.reduceBEq, reduceCtorEq, Int.reduceLT, Int.reduceLE, Int.reduceEq, Int.reduceGT, Int.reduceGE, Int.reduceToNat, Int.reduceNeg]
    · simp -implicitDefEqProofs only [go_sem, Nat.reduceAdd, Nat.reduceMul, Nat.reduceLT, Nat.reduceLeDiff, Nat.reduceEqDiff, Nat.reduceBEq, reduceCtorEq, Int.reduceLT, Int.reduceLE, Int.reduceEq, Int.reduceGT, Int.reduceGE, Int.reduceToNat, Int.reduceNeg]
      rfl
    · simp -implicitDefEqProofs only [go_sem, Nat.reduceAdd, Nat.reduceMul, Nat.reduceLT, Nat.reduceLeDiff, Nat.reduceEqDiff, Nat.reduceBEq, reduceCtorEq, Int.reduceLT, Int.reduceLE, Int.reduceEq, Int.reduceGT, Int.reduceGE, Int.reduceToNat, Int.reduceNeg]
      exact Own.nil _ _ _ _
    · rintro ⟨e, T, H4⟩ ⟨he, t0, t6, _, hck, hown⟩
      simp only at he t0 t6 hck hown
      subst he
      have h1 := hok1.some_
      obtain ⟨bh, Bh, ha, hNb, hbn, hBm, hrw, hcl, hidx, hget, hset⟩ := OwnI.blk hown hck.ext.wf (by simp; omega)
      have hbk : ¬ H2.next = bh := by omega
      have hc0 : 0 < Bh.cells.length := by simp at hcl; omega
      have hid0 : ∀ kd, idxSl (T 7) (.int kd 0) 1 = some (.ptr (some (bh, 0))) := fun kd => hidx kd 0 (by simp; omega)
      have hx5 : Ext H2.next H2 (H4.put bh ⟨Bh.cells.set 0 (.int .i64 0), Bh.elem, true⟩) := hck.ext.put (by omega) hbn _
      have hck5 : Cr H2 s c (H4.put bh ⟨Bh.cells.set 0 (.int .i64 0), Bh.elem, true⟩) := ⟨hx5, by simp [hbk, hck.blk]⟩
      have hown5 := hset 0 0 (by simp; omega)
      simp -implicitDefEqProofs only [go_sem, Nat.reduceAdd, Nat.reduceMul, Nat.reduceLT, Nat.reduceLeDiff, Nat.reduceEqDiff, Nat.reduceBEq, reduceCtorEq, Int.reduceLT, Int.reduceLE, Int.reduceEq, Int.reduceGT, Int.reduceGE, Int.reduceToNat, Int.reduceNeg, hid0, hBm, hrw, hc0]
      refine Ret.then (Q' := EO H2 ls s l c (T 7)) (Ret.iter (JO H2 ls s l c (T 7)) _ (fun f t hI => jouter (d + 2) B2 hok1.may hok1.few h1 f t hI) (fun t ht => by obtain ⟨_, _, _, _, _, _, _, _, h | h⟩ := ht <;> omega) 200000 big _ (by unfold big; omega)
        ⟨?_, ?_, ?_, (List.replicate c.ins.length (-1)).set 0 0, true, ?_, hck5, hown5, .inl ⟨rfl, (Way.start h1).loose, ?_⟩⟩) ?_
      · simp -implicitDefEqProofs only [go_sem, Nat.reduceAdd, Nat.reduceMul, Nat.reduceLT, Nat.reduceLeDiff, Nat.reduceEqDiff, Nat.reduceBEq, reduceCtorEq, Int.reduceLT, Int.reduceLE, Int.reduceEq, Int.reduceGT, Int.reduceGE, Int.reduceToNat, Int.reduceNeg, t0]
      · simp -implicitDefEqProofs only [go_sem, Nat.reduceAdd, Nat.reduceMul, Nat.reduceLT, Nat.reduceLeDiff, Nat.reduceEqDiff, Nat.reduceBEq, reduceCtorEq, Int.reduceLT, Int.reduceLE, Int.reduceEq, Int.reduceGT, Int.reduceGE, Int.reduceToNat, Int.reduceNeg, t6]
      · simp -implicitDefEqProofs only [go_sem, Nat.reduceAdd, Nat.reduceMul, Nat.reduceLT, Nat.reduceLeDiff, Nat.reduceEqDiff, Nat.reduceBEq, reduceCtorEq, Int.reduceLT, Int.reduceLE, Int.reduceEq, Int.reduceGT, Int.reduceGE, Int.reduceToNat, Int.reduceNeg]
      · simp -implicitDefEqProofs only [go_sem, Nat.reduceAdd, Nat.reduceMul, Nat.reduceLT, Nat.reduceLeDiff, Nat.reduceEqDiff, Nat.reduceBEq, reduceCtorEq, Int.reduceLT, Int.reduceLE, Int.reduceEq, Int.reduceGT, Int.reduceGE, Int.reduceToNat, Int.reduceNeg]
      · have := negs_le ((List.replicate c.ins.length (-1 : Int)).set 0 0)
        have := hok1.few
        simp at *
        omega
      · rintro ⟨e, T5, H5⟩ (⟨he, k7, k1, h, k2, k3⟩ | ⟨he, k1, k2, k3, k4⟩)
        · simp only at he k7 k1 k2
          subst he
          simp -implicitDefEqProofs only [go_sem, Nat.reduceAdd, Nat.reduceMul, Nat.reduceLT, Nat.reduceLeDiff, Nat.reduceEqDiff, Nat.reduceBEq, reduceCtorEq, Int.reduceLT, Int.reduceLE, Int.reduceEq, Int.reduceGT, Int.reduceGE, Int.reduceToNat, Int.reduceNeg, k7]
          exact .mk ⟨hx2.trans k1.ext hx2.next, .inl ⟨_, h, rfl, k2.low (by have := hx2.next; omega), c, by omega, q1, hok1, k3⟩⟩
        · simp only at he k1 k2 k3
          subst he
          simp -implicitDefEqProofs only [go_sem, Nat.reduceAdd, Nat.reduceMul, Nat.reduceLT, Nat.reduceLeDiff, Nat.reduceEqDiff, Nat.reduceBEq, reduceCtorEq, Int.reduceLT, Int.reduceLE, Int.reduceEq, Int.reduceGT, Int.reduceGE, Int.reduceToNat, Int.reduceNeg, k1, k2]
          refine .mk ⟨hx2.trans k3 hx2.next, .inr ⟨rfl, fun ⟨h, c', h0, h1, h2, h3⟩ => k4 ?_⟩⟩
          rw [q1] at h1
          cases h1
          exact ⟨h, h3⟩
end Go.Proofs.YthiflgncldmkjaaDoor
/- A number's text read back; words and lines: plain lists. -/
set_option linter.unusedVariables false
set_option linter.unusedSimpArgs false
namespace Go.Proofs.YthiflgncldmkjaaDoor
open Go.Ri

/-! ### Digits -/
def isDg (d : Int) : Prop := 48 ≤ d ∧ d ≤ 57
instance (d : Int) : Decidable (isDg d) := by unfold isDg; infer_instance
def dval : List Int → Nat → Nat
  | [], u => u
  | d :: l, u => dval l (u * 10 + (d - 48).toNat)
theorem dval_append (a b : List Int) (u : Nat) : dval (a ++ b) u = dval b (dval a u) := by
  induction a generalizing u with
  | nil => rfl
  | cons d a ih => simp [dval, ih]
theorem dval_ge (a : List Int) (u : Nat) : u ≤ dval a u := by
  induction a generalizing u with
  | nil => exact Nat.le_refl _
  | cons d a ih =>
    have := ih (u * 10 + (d - 48).toNat)
    simp only [dval]
    omega
/-- Digits as they are written. -/
def Dgs (l : List Int) : Prop := l ≠ [] ∧ (∀ d ∈ l, isDg d) ∧ (l.head? = some 48 → l.length = 1)
theorem dg_dval : ∀ (f u : Nat) (acc : List Int), u < 10 ^ f → 1 ≤ f → ∃ ds, dg f u acc = ds ++ acc ∧ ds ≠ [] ∧ (∀ d ∈ ds, isDg d) ∧ (ds.head? = some 48 → u = 0 ∧ ds.length = 1) ∧ dval ds 0 = u
  | 0, u, acc, _, h => by omega
  | f + 1, u, acc, hu, _ => by
    rw [dg]
    split
    · refine ⟨[((48 + u % 10 : Nat) : Int)], rfl, by simp, ?_, ?_, ?_⟩
      · intro d hd
        simp only [List.mem_cons, List.not_mem_nil, or_false] at hd
        subst hd
        unfold isDg
        omega
      · intro h
        simp only [List.head?_cons, Option.some.injEq] at h
        exact ⟨by omega, rfl⟩
      · simp only [dval]
        omega
    · rename_i hne
      have hf : 1 ≤ f := by
        cases f with
        | zero => simp at hu; omega
        | succ f => omega
      obtain ⟨ds, h1, h2, h3, h4, h5⟩ := dg_dval f (u / 10) ((48 + u % 10 : Nat) :: acc) (by rw [Nat.pow_succ] at hu; omega) hf
      refine ⟨ds ++ [((48 + u % 10 : Nat) : Int)], by rw [h1]; simp, by simp, ?_, ?_, ?_⟩
      · intro d hd
        simp only [List.mem_append, List.mem_cons, List.not_mem_nil, or_false] at hd
        rcases hd with hd | rfl
        · exact h3 d hd
        · unfold isDg
          omega
      · intro h
        cases ds with
        | nil => exact absurd rfl h2
        | cons a ds =>
          have := h4 (by simpa using h)
          omega
      · rw [dval_append, h5]
        simp only [dval]
        omega
theorem dval_pos {l : List Int} (h0 : l ≠ []) (h1 : ∀ d ∈ l, isDg d) (h2 : l.head? ≠ some 48) : 0 < dval l 0 := by
  cases l with
  | nil => exact absurd rfl h0
  | cons a l =>
    have ha := h1 a (by simp)
    have : a ≠ 48 := fun h => h2 (by simp [h])
    have hg := dval_ge l (0 * 10 + (a - 48).toNat)
    unfold isDg at ha
    simp only [dval]
    omega
theorem dg_of : ∀ (f : Nat) (l acc : List Int), l ≠ [] → (∀ d ∈ l, isDg d) → (l.head? = some 48 → l.length = 1) → dval l 0 < 10 ^ f → 1 ≤ f → dg f (dval l 0) acc = l ++ acc
  | 0, l, acc, _, _, _, _, h => by omega
  | f + 1, l, acc, h0, h1, h2, h3, _ => by
    rcases List.eq_nil_or_concat l with rfl | ⟨l', d, rfl⟩
    · exact absurd rfl h0
    · rw [List.concat_eq_append] at *
      have hd := h1 d (by simp)
      unfold isDg at hd
      have hv : dval (l' ++ [d]) 0 = dval l' 0 * 10 + (d - 48).toNat := by rw [dval_append]; rfl
      have hm : (48 + dval (l' ++ [d]) 0 % 10 : Nat) = d := by rw [hv]; omega
      have hq : dval (l' ++ [d]) 0 / 10 = dval l' 0 := by rw [hv]; omega
      rw [dg, hm, hq]
      cases l' with
      | nil => simp [dval]
      | cons a l' =>
        have ha : (a :: l').head? ≠ some 48 := fun h => by
          have := h2 (by simpa using h)
          simp at this
        have hp := dval_pos (l := a :: l') (by simp) (fun x hx => h1 x (by simp at hx ⊢; rcases hx with h | h; exact .inl h; exact .inr (.inl h))) ha
        rw [if_neg (by omega)]
        have hf : 1 ≤ f := by
          cases f with
          | zero => rw [hv] at h3; simp at h3; omega
          | succ f => omega
        rw [dg_of f (a :: l') (d :: acc) (by simp) (fun x hx => h1 x (by simp at hx ⊢; rcases hx with h | h; exact .inl h; exact .inr (.inl h))) (fun h => absurd h ha) (by rw [hv, Nat.pow_succ] at h3; omega) hf]
        simp

/-! ### A number's text -/
def lim (below : Bool) : Nat := if below = true then 9223372036854775808 else 9223372036854775807
def digitsOf (s : List Int) : List Int := if s.head? = some 45 then s.tail else s
def parseN (s : List Int) : Option Int :=
  if digitsOf s ≠ [] ∧ (∀ d ∈ digitsOf s, isDg d) ∧ ((digitsOf s).head? = some 48 → s.length = 1) ∧ dval (digitsOf s) 0 ≤ lim (decide (s.head? = some 45)) then
    some (if s.head? = some 45 then -(dval (digitsOf s) 0 : Nat) else (dval (digitsOf s) 0 : Nat)) else none
theorem big19 : (10 : Nat) ^ 19 = 10000000000000000000 := by decide
theorem parseN_txt {n : Int} (h : InI n) : parseN (txt n) = some n := by
  unfold InI at h
  obtain ⟨ds, h1, h2, h3, h4, h5⟩ := dg_dval 19 n.natAbs [] (by rw [big19]; omega) (by omega)
  rw [List.append_nil] at h1
  have hne : ds.head? ≠ some 45 := fun hh => by
    cases ds with
    | nil => simp at hh
    | cons a ds =>
      have := h3 a (by simp)
      simp only [List.head?_cons, Option.some.injEq] at hh
      unfold isDg at this
      omega
  unfold parseN txt
  by_cases hn : n < 0
  · rw [if_pos hn, h1]
    have hd : digitsOf (45 :: ds) = ds := by simp [digitsOf]
    rw [hd, h5]
    rw [if_pos ⟨h2, h3, fun hh => by have := (h4 hh).1; omega, by simp [lim]; omega⟩]
    simp
    omega
  · rw [if_neg hn, h1]
    have hd : digitsOf ds = ds := by simp [digitsOf, hne]
    rw [hd, h5]
    rw [if_pos ⟨h2, h3, fun hh => (h4 hh).2, by simp [lim, hne]; omega⟩]
    simp [hne]
    omega
theorem txt_parseN {s : List Int} {n : Int} (h : parseN s = some n) : InI n ∧ txt n = s := by
  unfold parseN at h
  split at h
  · rename_i hc
    obtain ⟨h1, h2, h3, h4⟩ := hc
    by_cases hb : s.head? = some 45
    · rw [if_pos hb] at h
      cases s with
      | nil => simp at hb
      | cons a s =>
        simp only [List.head?_cons, Option.some.injEq] at hb
        subst hb
        have hd : digitsOf (45 :: s) = s := by simp [digitsOf]
        rw [hd] at h h1 h2 h3 h4
        have hh : s.head? ≠ some 48 := fun hh => by
          have := h3 hh
          cases s with
          | nil => exact h1 rfl
          | cons b s => simp at this
        have hp := dval_pos h1 h2 hh
        simp only [lim, List.head?_cons, decide_true, if_true] at h4
        have hn := Option.some.inj h
        refine ⟨by unfold InI; omega, ?_⟩
        unfold txt
        rw [if_pos (by omega)]
        have : n.natAbs = dval s 0 := by omega
        rw [this, dg_of 19 s [] h1 h2 (fun e => absurd e hh) (by rw [big19]; omega) (by omega)]
        simp
    · rw [if_neg hb] at h
      have hd : digitsOf s = s := by simp [digitsOf, hb]
      rw [hd] at h h1 h2 h3 h4
      simp only [lim, hb, decide_false, Bool.false_eq_true, if_false] at h4
      have hn := Option.some.inj h
      refine ⟨by unfold InI; omega, ?_⟩
      unfold txt
      rw [if_neg (by omega)]
      have : n.natAbs = dval s 0 := by omega
      rw [this, dg_of 19 s [] h1 h2 h3 (by rw [big19]; omega) (by omega)]
      simp
  · cases h

/-! ### Words -/
def wordsGo : List Int → List Int → List (List Int)
  | cur, [] => [cur]
  | cur, c :: l => if c = 32 then cur :: wordsGo [] l else wordsGo (cur ++ [c]) l
def wordsP (s : List Int) : List (List Int) := if s = [] then [] else wordsGo [] s
def joinW : List (List Int) → List Int
  | [] => []
  | [w] => w
  | w :: x :: l => w ++ 32 :: joinW (x :: l)
theorem wordsGo_ne (cur s : List Int) : wordsGo cur s ≠ [] := by
  induction s generalizing cur with
  | nil => simp [wordsGo]
  | cons c s ih =>
    unfold wordsGo
    split
    · simp
    · exact ih _
theorem joinW_cons (w : List Int) (l : List (List Int)) (h : l ≠ []) : joinW (w :: l) = w ++ 32 :: joinW l := by
  cases l with
  | nil => exact absurd rfl h
  | cons x l => rfl
theorem join_words (cur s : List Int) : joinW (wordsGo cur s) = cur ++ s := by
  induction s generalizing cur with
  | nil => simp [wordsGo, joinW]
  | cons c s ih =>
    unfold wordsGo
    split
    · rename_i h
      subst h
      rw [joinW_cons _ _ (wordsGo_ne _ _), ih]
      rfl
    · rw [ih]
      simp
theorem join_wordsP (s : List Int) : joinW (wordsP s) = s := by
  unfold wordsP
  split
  · rename_i h; subst h; rfl
  · rw [join_words]; rfl
theorem wordsGo_word (cur w s : List Int) (h : ∀ c ∈ w, c ≠ 32) : wordsGo cur (w ++ s) = wordsGo (cur ++ w) s := by
  induction w generalizing cur with
  | nil => simp
  | cons c w ih =>
    have hc := h c (by simp)
    rw [List.cons_append]
    conv => lhs; unfold wordsGo
    rw [if_neg hc, ih _ fun x hx => h x (by simp [hx])]
    simp
theorem words_join : ∀ (l : List (List Int)) (w : List Int), (∀ x ∈ w :: l, ∀ c ∈ x, c ≠ 32) → wordsGo [] (joinW (w :: l)) = w :: l
  | [], w, h => by
    have := wordsGo_word [] w [] (h w (by simp))
    simpa [joinW, wordsGo] using this
  | x :: l, w, h => by
    rw [joinW_cons _ _ (by simp), wordsGo_word [] w _ (h w (by simp)), List.nil_append]
    conv => lhs; unfold wordsGo
    rw [if_pos rfl, words_join l x fun y hy => h y (by simp at hy ⊢; exact .inr hy)]
theorem words_joinP {l : List (List Int)} {w : List Int} (h : ∀ x ∈ w :: l, ∀ c ∈ x, c ≠ 32) (hw : w ≠ []) : wordsP (joinW (w :: l)) = w :: l := by
  unfold wordsP
  rw [if_neg ?_, words_join l w h]
  intro e
  cases l with
  | nil => exact hw e
  | cons x l => simp [joinW_cons] at e
theorem txt_plain (n : Int) (h : InI n) : ∀ c ∈ txt n, c ≠ 32 := by
  unfold InI at h
  obtain ⟨ds, h1, h2, h3, h4, h5⟩ := dg_dval 19 n.natAbs [] (by rw [big19]; omega) (by omega)
  rw [List.append_nil] at h1
  unfold txt
  rw [h1]
  split
  · intro c hc
    simp only [List.mem_cons] at hc
    rcases hc with rfl | hc
    · decide
    · have := h3 c hc
      unfold isDg at this
      omega
  · intro c hc
    have := h3 c hc
    unfold isDg at this
    omega
end Go.Proofs.YthiflgncldmkjaaDoor
/- An instruction's line, there and back: plain lists. -/
set_option linter.unusedVariables false
set_option linter.unusedSimpArgs false
set_option maxRecDepth 100000
namespace Go.Proofs.YthiflgncldmkjaaDoor
open Go.Ri

def opP : Nat → List Int → Int
  | 0, _ => 0
  | k + 1, w => if 0 < k ∧ byteL (wordOf k) = w then (k : Nat) else opP k w
theorem opP_is : ∀ (k : Nat) (w : List Int), opP k w = 0 ∨ (1 ≤ opP k w ∧ opP k w < k ∧ byteL (wordOf (opP k w)) = w)
  | 0, w => .inl rfl
  | k + 1, w => by
    unfold opP
    split
    · rename_i h
      exact .inr ⟨by omega, by omega, h.2⟩
    · rcases opP_is k w with h | ⟨h1, h2, h3⟩
      · exact .inl h
      · exact .inr ⟨h1, by omega, h3⟩
theorem opP_of {op : Int} (h : 1 ≤ op ∧ op ≤ 25) : opP 26 (byteL (wordOf op)) = op := by
  rcases op_cases h with rfl | rfl | rfl | rfl | rfl | rfl | rfl | rfl | rfl | rfl | rfl | rfl | rfl | rfl | rfl | rfl | rfl | rfl | rfl | rfl | rfl | rfl | rfl | rfl | rfl <;> decide
theorem word_plain {op : Int} (h : 1 ≤ op ∧ op ≤ 25) : (∀ c ∈ byteL (wordOf op), c ≠ 32) ∧ byteL (wordOf op) ≠ [] := by
  rcases op_cases h with rfl | rfl | rfl | rfl | rfl | rfl | rfl | rfl | rfl | rfl | rfl | rfl | rfl | rfl | rfl | rfl | rfl | rfl | rfl | rfl | rfl | rfl | rfl | rfl | rfl <;> decide
def numsP (r : List (List Int)) : Option (Int × Int) := match r with
  | [] => some (0, 0)
  | [a] => (parseN a).map fun n => (n, 0)
  | a :: b :: _ => (parseN a).bind fun n => (parseN b).map fun m => (n, m)
def parseI (s : List Int) : Option Ins := match wordsP s with
  | [] => none
  | w :: r => if opP 26 w = 0 ∨ ((r.length : Nat) : Int) ≠ nums (opP 26 w) then none else (numsP r).map fun p => ⟨opP 26 w, p.1, p.2⟩

def numWords (op n m : Int) : List (List Int) := (if 0 < nums op then [txt n] else []) ++ (if 1 < nums op then [txt m] else [])
theorem line_join {op n m : Int} : joinL 0 (lineWords op n m) = joinW (byteL (wordOf op) :: numWords op n m) := by
  unfold lineWords numWords
  rcases nums_three op with h | h | h <;> simp [h, joinL, joinW, byteL_str _ (txt_small _)]
theorem parse_line {i : Ins} (hi : i.Ok) {t : List Int} (h : lineOf i.op i.n i.m = some t) : parseI t = some i := by
  obtain ⟨op, n, m⟩ := i
  obtain ⟨_, hn, hm⟩ := hi
  simp only at hn hm h
  unfold lineOf at h
  split at h
  · cases h
  split at h
  · cases h
  rename_i h1 h2
  have hop : 1 ≤ op ∧ op ≤ 25 := by omega
  obtain ⟨p1, p2⟩ := word_plain hop
  have e := Option.some.inj h
  rw [line_join] at e
  have hw : wordsP t = byteL (wordOf op) :: numWords op n m := by
    rw [← e]
    refine words_joinP (fun x hx => ?_) p2
    simp only [List.mem_cons] at hx
    rcases hx with rfl | hx
    · exact p1
    · unfold numWords at hx
      simp only [List.mem_append] at hx
      rcases hx with hx | hx
      · split at hx
        · simp at hx; subst hx; exact txt_plain n hn
        · simp at hx
      · split at hx
        · simp at hx; subst hx; exact txt_plain m hm
        · simp at hx
  unfold parseI
  rw [hw]
  simp only [opP_of hop]
  rcases nums_three op with h3 | h3 | h3
  · have hn0 : n = 0 := Classical.byContradiction fun h => h2 (.inl ⟨by omega, h⟩)
    have hm0 : m = 0 := Classical.byContradiction fun h => h2 (.inr ⟨by omega, h⟩)
    subst hn0 hm0
    simp [numWords, h3, numsP]
    omega
  · have hm0 : m = 0 := Classical.byContradiction fun h => h2 (.inr ⟨by omega, h⟩)
    subst hm0
    simp [numWords, h3, numsP, parseN_txt hn]
    omega
  · simp [numWords, h3, numsP, parseN_txt hn, parseN_txt hm]
    omega
theorem line_parse {s : List Int} {i : Ins} (h : parseI s = some i) : lineOf i.op i.n i.m = some s ∧ i.Ok := by
  unfold parseI at h
  split at h
  · cases h
  rename_i w r hw
  split at h
  · cases h
  rename_i hc
  simp only [not_or, Decidable.not_not] at hc
  rcases opP_is 26 w with h0 | ⟨h1, h2, h3⟩
  · exact absurd h0 hc.1
  · simp only [Option.map_eq_some_iff] at h
    obtain ⟨⟨n, m⟩, hp, rfl⟩ := h
    have hj := join_wordsP s
    rw [hw] at hj
    generalize opP 26 w = op at *
    have hop : 1 ≤ op ∧ op ≤ 25 := by omega
    have fin : InI n → InI m → r = numWords op n m → ¬ ((nums op < 1 ∧ n ≠ 0) ∨ (nums op < 2 ∧ m ≠ 0)) → lineOf op n m = some s ∧ Ins.Ok ⟨op, n, m⟩ := by
      intro hn hm hr hz
      refine ⟨?_, by unfold InI; simp only; omega, hn, hm⟩
      unfold lineOf
      rw [if_neg (by omega), if_neg hz, line_join, h3, ← hr, hj]
    match r, hc, hp, fin with
    | [], hc, hp, fin =>
      simp [numsP] at hp
      simp at hc
      refine fin (by unfold InI; omega) (by unfold InI; omega) ?_ (by omega)
      simp [numWords, ← hc.2]
    | [a], hc, hp, fin =>
      simp [numsP] at hp
      simp at hc
      obtain ⟨n', hp1, rfl, rfl⟩ := hp
      obtain ⟨q1, q2⟩ := txt_parseN hp1
      refine fin q1 (by unfold InI; omega) ?_ (by omega)
      simp [numWords, ← hc.2, q2]
    | [a, b], hc, hp, fin =>
      simp only [numsP, Option.bind_eq_some_iff, Option.map_eq_some_iff] at hp
      simp at hc
      obtain ⟨n', hp1, m', hp2, e⟩ := hp
      cases e
      obtain ⟨q1, q2⟩ := txt_parseN hp1
      obtain ⟨q3, q4⟩ := txt_parseN hp2
      refine fin q1 q3 ?_ (by omega)
      simp [numWords, ← hc.2, q2, q4]
    | a :: b :: d :: r, hc, hp, fin =>
      have := nums_three op
      simp at hc
      omega
end Go.Proofs.YthiflgncldmkjaaDoor
/- Steps on strings; words of a text. -/
set_option linter.unusedVariables false
set_option linter.unusedSimpArgs false
set_option maxRecDepth 100000
namespace Go.Proofs.YthiflgncldmkjaaDoor
open Go.Ri

theorem gdv_tuple (l : List AV) (w : Bool) : gdv (.tuple l) w = some false := (rfl)
attribute [go_sem] gdv_tuple
def Bs (l : List Int) : Prop := ∀ n ∈ l, 0 ≤ n ∧ n < 256
theorem Bs.byteL (s : ByteArray) : Bs (byteL s) := by
  intro n hn
  simp only [Go.Proofs.YthiflgncldmkjaaDoor.byteL, List.mem_map] at hn
  obtain ⟨y, _, rfl⟩ := hn
  have := y.toNat_lt
  omega
theorem Bs.take {l : List Int} (h : Bs l) (k : Nat) : Bs (l.take k) := fun n hn => h n (List.mem_of_mem_take hn)
theorem Bs.drop {l : List Int} (h : Bs l) (k : Nat) : Bs (l.drop k) := fun n hn => h n (List.mem_of_mem_drop hn)
theorem str_get {l : List Int} (h : Bs l) {i : Nat} (hi : i < l.length) (k : IntKind) : idxStr (.str (strOfNums l)) (.int k (i : Nat)) = some (.int .u8 l[i]) := by
  have hs := strOfNums_size l
  simp only [idxStr]
  rw [if_pos (by omega)]
  simp only [Int.toNat_natCast]
  have hb := byteL_str l h
  have hg : (byteL (strOfNums l))[i]? = some l[i] := by rw [hb]; exact List.getElem?_eq_getElem hi
  unfold byteL at hg
  rw [List.getElem?_map] at hg
  have hi2 : i < (strOfNums l).size := by omega
  rw [getElem?_pos (strOfNums l) i hi2]
  have hi3 : i < (strOfNums l).data.toList.length := by simpa using hi2
  rw [List.getElem?_eq_getElem hi3] at hg
  simp only [Option.map_some, Option.some.injEq] at hg ⊢
  rw [← hg]
  simp only [Array.getElem_toList]
  rfl
theorem str_cut {l : List Int} (h : Bs l) {a b : Nat} (h1 : a ≤ b) (h2 : b ≤ l.length) (k j : IntKind) : slStr (.str (strOfNums l)) (some (.int k (a : Nat))) (some (.int j (b : Nat))) none = some (.str (strOfNums ((l.take b).drop a))) := by
  have hs := strOfNums_size l
  simp only [slStr, bnds, Option.getD_some]
  rw [bnd_nat j (by omega)]
  simp only [Option.bind_some]
  rw [bnd_nat k h1]
  simp only [Option.map_some, Option.some.injEq, AV.str.injEq]
  apply toList_inj
  rw [toList_data, toList_data]
  simp only [ByteArray.data_extract, Array.toList_extract, List.extract_eq_take_drop, strOfNums]
  simp [List.map_take, List.map_drop, List.drop_take]
theorem str_from {l : List Int} (h : Bs l) {a : Nat} (h1 : a ≤ l.length) (k : IntKind) : slStr (.str (strOfNums l)) (some (.int k (a : Nat))) none none = some (.str (strOfNums (l.drop a))) := by
  have hs := strOfNums_size l
  simp only [slStr, bnds, Option.getD_some]
  rw [bnd_nat k (by omega)]
  simp only [Option.map_some, Option.some.injEq, AV.str.injEq]
  apply toList_inj
  rw [toList_data, toList_data]
  simp only [ByteArray.data_extract, Array.toList_extract, List.extract_eq_take_drop, strOfNums]
  have h2 : ({ data := (List.map (fun n : Int => UInt8.ofNat n.toNat) l).toArray } : ByteArray).size = l.length := hs
  simp [h2, List.map_take, List.map_drop, List.drop_take]
  rw [List.take_of_length_le (by simp)]
theorem str_eqB {a b : List Int} (ha : Bs a) (hb : Bs b) : ((strOfNums a).toList == (strOfNums b).toList) = decide (a = b) := by
  by_cases e : a = b
  · subst e
    simp
  · rw [decide_eq_false e]
    simp only [beq_eq_false_iff_ne, ne_eq]
    intro hh
    have := toList_inj hh
    exact e (by rw [← byteL_str a ha, ← byteL_str b hb, this])
theorem str_eql {a b : List Int} (ha : Bs a) (hb : Bs b) (t : TypeId) : aBin Tryd.prog .eql t (.str (strOfNums a)) (.str (strOfNums b)) = some (.bool (decide (a = b))) := by
  rw [aBin_same, str_eqB ha hb]
theorem aBin_nsame (P : Program) (t) (x y : ByteArray) : aBin P .neq t (.str x) (.str y) = some (.bool (!(x.toList == y.toList))) := (rfl)
theorem str_neq {a b : List Int} (ha : Bs a) (hb : Bs b) (t : TypeId) : aBin Tryd.prog .neq t (.str (strOfNums a)) (.str (strOfNums b)) = some (.bool (!decide (a = b))) := by
  rw [aBin_nsame, str_eqB ha hb]
theorem Bs.nil : Bs [] := fun n hn => by simp at hn
theorem str_len (l : List Int) : aLen Tryd.prog 9 (.str (strOfNums l)) = some (.int .i64 (l.length : Nat)) := by
  have h : ∀ x : ByteArray, aLen Tryd.prog 9 (.str x) = some (.int .i64 (x.size : Nat)) := fun x => by kernel_rfl
  rw [h, strOfNums_size]
theorem ins_eql (a b c a' b' c' : Int) : aBin Tryd.prog .eql 29 (.agg [.int .i64 a, .int .i64 b, .int .i64 c]) (.agg [.int .i64 a', .int .i64 b', .int .i64 c']) = some (.bool (a == a' && (b == b' && (c == c' && true)))) := by kernel_rfl
theorem ins_neq (a b c a' b' c' : Int) : aBin Tryd.prog .neq 29 (.agg [.int .i64 a, .int .i64 b, .int .i64 c]) (.agg [.int .i64 a', .int .i64 b', .int .i64 c']) = some (.bool (!(a == a' && (b == b' && (c == c' && true))))) := by kernel_rfl
theorem words_at {i : Nat} (h : i < 26) (cs : List AV) : idxAgg Tryd.prog 9 26 1 (.agg cs) (.int .i64 (i : Nat)) = cs[i]? := by
  have e : ∀ (cs : List AV) (o : Nat), aPart Tryd.prog 9 cs o = cs[o]? := fun cs o => by kernel_rfl
  simp only [idxAgg]
  rw [if_pos (by omega), e]
  simp

/-! ### Words -/
def StrsC (ws : List (List Int)) : List AV := ws.map fun w => .str (strOfNums w)
theorem flat_one {A B : Type} (f : A → B) (l : List A) : (l.map fun w => [f w]).flatten = l.map f := by
  induction l with
  | nil => rfl
  | cons a l ih => simp [ih]
def Strs (H : AH) (v : AV) (ws : List (List Int)) : Prop := Row H v 1 (ws.map fun w => [.str (strOfNums w)])
theorem Strs.alen {H : AH} {v : AV} {ws : List (List Int)} (h : Strs H v ws) : aLen Tryd.prog 90 v = some (.int .i64 (ws.length : Nat)) := by
  rw [Row.alen ysl90.under h, List.length_map]
theorem Strs.at {H : AH} {v : AV} {ws : List (List Int)} (h : Strs H v ws) {i : Nat} (hi : i < ws.length) : ∃ p, (∀ k, idxSl v (.int k (i : Nat)) 1 = some (.ptr (some p))) ∧ ldOne (.ptr (some p)) H = some (.str (strOfNums ws[i])) := by
  obtain ⟨b, o, h1, _, h3⟩ := Row.at h (i := i) (by simpa using hi)
  have := h3 0 (by omega)
  simp only [List.getElem_map, Nat.add_zero, List.getElem?_cons_zero] at this
  exact ⟨(b, o), h1, this⟩
/-- The loop over the text. -/
def IW (H : AH) (l : List Int) (i : Nat) (t : St) : Prop :=
  t.1 0 = .str (strOfNums l) ∧ t.1 5 = .int .i64 (i : Nat) ∧ Ext H.next H t.2 ∧ ∃ ws f, f ≤ i ∧ t.1 4 = .int .i64 (f : Nat) ∧ Own H.next 1 9 t.2 (t.1 3) (StrsC ws) ∧ ws.length ≤ i ∧ wordsGo [] l = ws ++ wordsGo ((l.take i).drop f) (l.drop i)
theorem words_spec (d : Nat) {H : AH} (hw : H.wf) {l : List Int} (hl : Bs l) (hlen : l.length ≤ 500) :
    Ret (RT (d + 1) 67 [.str (strOfNums l)] H) fun r => Ext H.next H r.2 ∧ Strs r.2 r.1 (wordsP l) := by
  rw [R67]
  unfold F67
  have he := str_eql hl Bs.nil 9
  rw [← str_nil] at he
  by_cases h0 : l = []
  · subst h0
    simp -implicitDefEqProofs only [go_sem, Nat.reduceAdd, Nat.reduceMul, Nat.reduceLT, Nat.reduceLeDiff, Nat.reduceEqDiff, Nat.reduceBEq, reduceCtorEq, Int.reduceLT, Int.reduceLE, Int.reduceEq, Int.reduceGT, Int.reduceGE, Int.reduceToNat, Int.reduceNeg, he]
    exact .mk ⟨.refl hw, Row.nil _ _⟩
  · simp -implicitDefEqProofs only [go_sem, Nat.reduceAdd, Nat.reduceMul, Nat.reduceLT, Nat.reduceLeDiff, Nat.reduceEqDiff, Nat.reduceBEq, reduceCtorEq, Int.reduceLT, Int.reduceLE, Int.reduceEq, Int.reduceGT, Int.reduceGE, Int.reduceToNat, Int.reduceNeg, he, decide_eq_false h0]
    refine Ret.then (Q' := fun r => r.1 = .exit 0 ∧ IW H l l.length r.2) (Ret.upTo (n := l.length) (IW H l) (by unfold big; omega) ⟨?_, ?_, .refl hw, [], 0, Nat.le_refl _, ?_, ?_, Nat.le_refl _, ?_⟩ ?_ ?_) ?_
    · simp -implicitDefEqProofs only [go_sem, Nat.reduceAdd, Nat.reduceMul, Nat.reduceLT, Nat.reduceLeDiff, Nat.reduceEqDiff, Nat.reduceBEq, reduceCtorEq, Int.reduceLT, Int.reduceLE, Int.reduceEq, Int.reduceGT, Int.reduceGE, Int.reduceToNat, Int.reduceNeg]
    · simp -implicitDefEqProofs only [go_sem, Nat.reduceAdd, Nat.reduceMul, Nat.reduceLT, Nat.reduceLeDiff, Nat.reduceEqDiff, Nat.reduceBEq, reduceCtorEq, Int.reduceLT, Int.reduceLE, Int.reduceEq, Int.reduceGT, Int.reduceGE, Int.reduceToNat, Int.reduceNeg]
      rfl
    · simp -implicitDefEqProofs only [go_sem, Nat.reduceAdd, Nat.reduceMul, Nat.reduceLT, Nat.reduceLeDiff, Nat.reduceEqDiff, Nat.reduceBEq, reduceCtorEq, Int.reduceLT, Int.reduceLE, Int.reduceEq, Int.reduceGT, Int.reduceGE, Int.reduceToNat, Int.reduceNeg]
      rfl
    · simp -implicitDefEqProofs only [go_sem, Nat.reduceAdd, Nat.reduceMul, Nat.reduceLT, Nat.reduceLeDiff, Nat.reduceEqDiff, Nat.reduceBEq, reduceCtorEq, Int.reduceLT, Int.reduceLE, Int.reduceEq, Int.reduceGT, Int.reduceGE, Int.reduceToNat, Int.reduceNeg]
      exact Own.nil _ _ _ _
    · simp
    · rintro i ⟨T, H1⟩ hi ⟨t0, t5, hx, ws, f, hf, t4, hown, hwl, hgo⟩
      simp only at t0 t5 hx t4 hown
      have hcmp : decide (((i : Nat) : Int) < ((l.length : Nat) : Int)) = true := decide_eq_true (by omega)
      unfold F67_L1
      have hdrop : l.drop i = l[i] :: l.drop (i + 1) := List.drop_eq_getElem_cons hi
      by_cases h32 : l[i] = 32
      · have hw' := wrapS (i := i) (by omega)
        simp -implicitDefEqProofs only [go_sem, Nat.reduceAdd, Nat.reduceMul, Nat.reduceLT, Nat.reduceLeDiff, Nat.reduceEqDiff, Nat.reduceBEq, reduceCtorEq, Int.reduceLT, Int.reduceLE, Int.reduceEq, Int.reduceGT, Int.reduceGE, Int.reduceToNat, Int.reduceNeg, t0, t5, t4, str_len, hcmp, str_get hl hi, decide_eq_true h32, str_cut hl hf (by omega : i ≤ l.length), bs90]
        refine ret_bind (ret_bind ((app_el (ds := [.str (strOfNums ((l.take i).drop f))]) ysl90 hown hx rfl (by simp [StrsC]; omega)).mono ?_))
        rintro ⟨v, H2⟩ ⟨h1, h2, _⟩
        simp only at h1 h2
        refine .mk ?_
        simp -implicitDefEqProofs only [go_sem, Nat.reduceAdd, Nat.reduceMul, Nat.reduceLT, Nat.reduceLeDiff, Nat.reduceEqDiff, Nat.reduceBEq, reduceCtorEq, Int.reduceLT, Int.reduceLE, Int.reduceEq, Int.reduceGT, Int.reduceGE, Int.reduceToNat, Int.reduceNeg, hw', F67_J0, t5]
        refine .mk (.inl ⟨rfl, ?_, ?_, h2, ws ++ [(l.take i).drop f], i + 1, Nat.le_refl _, ?_, ?_, ?_, ?_⟩)
        · simp -implicitDefEqProofs only [go_sem, Nat.reduceAdd, Nat.reduceMul, Nat.reduceLT, Nat.reduceLeDiff, Nat.reduceEqDiff, Nat.reduceBEq, reduceCtorEq, Int.reduceLT, Int.reduceLE, Int.reduceEq, Int.reduceGT, Int.reduceGE, Int.reduceToNat, Int.reduceNeg, t0]
        · simp -implicitDefEqProofs only [go_sem, Nat.reduceAdd, Nat.reduceMul, Nat.reduceLT, Nat.reduceLeDiff, Nat.reduceEqDiff, Nat.reduceBEq, reduceCtorEq, Int.reduceLT, Int.reduceLE, Int.reduceEq, Int.reduceGT, Int.reduceGE, Int.reduceToNat, Int.reduceNeg]
        · simp -implicitDefEqProofs only [go_sem, Nat.reduceAdd, Nat.reduceMul, Nat.reduceLT, Nat.reduceLeDiff, Nat.reduceEqDiff, Nat.reduceBEq, reduceCtorEq, Int.reduceLT, Int.reduceLE, Int.reduceEq, Int.reduceGT, Int.reduceGE, Int.reduceToNat, Int.reduceNeg]
        · simp -implicitDefEqProofs only [go_sem, Nat.reduceAdd, Nat.reduceMul, Nat.reduceLT, Nat.reduceLeDiff, Nat.reduceEqDiff, Nat.reduceBEq, reduceCtorEq, Int.reduceLT, Int.reduceLE, Int.reduceEq, Int.reduceGT, Int.reduceGE, Int.reduceToNat, Int.reduceNeg]
          simpa [StrsC] using h1
        · simp; omega
        · rw [hgo, hdrop]
          conv => lhs; unfold wordsGo
          have e : (l.take (i + 1)).drop (i + 1) = [] := List.drop_of_length_le (by simp; omega)
          rw [if_pos h32, e]
          simp
      · have hw' := wrapS (i := i) (by omega)
        simp -implicitDefEqProofs only [go_sem, Nat.reduceAdd, Nat.reduceMul, Nat.reduceLT, Nat.reduceLeDiff, Nat.reduceEqDiff, Nat.reduceBEq, reduceCtorEq, Int.reduceLT, Int.reduceLE, Int.reduceEq, Int.reduceGT, Int.reduceGE, Int.reduceToNat, Int.reduceNeg, t0, t5, t4, str_len, hcmp, str_get hl hi, decide_eq_false h32, F67_J0, hw']
        refine .mk (.inl ⟨rfl, ?_, ?_, hx, ws, f, by omega, ?_, ?_, by omega, ?_⟩)
        · simp -implicitDefEqProofs only [go_sem, Nat.reduceAdd, Nat.reduceMul, Nat.reduceLT, Nat.reduceLeDiff, Nat.reduceEqDiff, Nat.reduceBEq, reduceCtorEq, Int.reduceLT, Int.reduceLE, Int.reduceEq, Int.reduceGT, Int.reduceGE, Int.reduceToNat, Int.reduceNeg, t0]
        · simp -implicitDefEqProofs only [go_sem, Nat.reduceAdd, Nat.reduceMul, Nat.reduceLT, Nat.reduceLeDiff, Nat.reduceEqDiff, Nat.reduceBEq, reduceCtorEq, Int.reduceLT, Int.reduceLE, Int.reduceEq, Int.reduceGT, Int.reduceGE, Int.reduceToNat, Int.reduceNeg]
        · simp -implicitDefEqProofs only [go_sem, Nat.reduceAdd, Nat.reduceMul, Nat.reduceLT, Nat.reduceLeDiff, Nat.reduceEqDiff, Nat.reduceBEq, reduceCtorEq, Int.reduceLT, Int.reduceLE, Int.reduceEq, Int.reduceGT, Int.reduceGE, Int.reduceToNat, Int.reduceNeg, t4]
        · simp -implicitDefEqProofs only [go_sem, Nat.reduceAdd, Nat.reduceMul, Nat.reduceLT, Nat.reduceLeDiff, Nat.reduceEqDiff, Nat.reduceBEq, reduceCtorEq, Int.reduceLT, Int.reduceLE, Int.reduceEq, Int.reduceGT, Int.reduceGE, Int.reduceToNat, Int.reduceNeg]
          exact hown
        · rw [hgo, hdrop]
          conv => lhs; unfold wordsGo
          rw [if_neg h32]
          congr 2
          rw [List.take_succ_eq_append_getElem hi, List.drop_append_of_le_length (by simp; omega)]
    · rintro ⟨T, H1⟩ ⟨t0, t5, hx, ws, f, hf, t4, hown, hwl, hgo⟩
      simp only at t0 t5 hx t4 hown
      have hcmp : decide (((l.length : Nat) : Int) < ((l.length : Nat) : Int)) = false := decide_eq_false (by omega)
      unfold F67_L1
      simp -implicitDefEqProofs only [go_sem, Nat.reduceAdd, Nat.reduceMul, Nat.reduceLT, Nat.reduceLeDiff, Nat.reduceEqDiff, Nat.reduceBEq, reduceCtorEq, Int.reduceLT, Int.reduceLE, Int.reduceEq, Int.reduceGT, Int.reduceGE, Int.reduceToNat, Int.reduceNeg, t0, t5, str_len, hcmp]
      refine .mk ⟨by simp, rfl, ?_, ?_, hx, ws, f, hf, ?_, ?_, hwl, hgo⟩
      · simp -implicitDefEqProofs only [go_sem, Nat.reduceAdd, Nat.reduceMul, Nat.reduceLT, Nat.reduceLeDiff, Nat.reduceEqDiff, Nat.reduceBEq, reduceCtorEq, Int.reduceLT, Int.reduceLE, Int.reduceEq, Int.reduceGT, Int.reduceGE, Int.reduceToNat, Int.reduceNeg, t0]
      · simp -implicitDefEqProofs only [go_sem, Nat.reduceAdd, Nat.reduceMul, Nat.reduceLT, Nat.reduceLeDiff, Nat.reduceEqDiff, Nat.reduceBEq, reduceCtorEq, Int.reduceLT, Int.reduceLE, Int.reduceEq, Int.reduceGT, Int.reduceGE, Int.reduceToNat, Int.reduceNeg, t5]
      · simp -implicitDefEqProofs only [go_sem, Nat.reduceAdd, Nat.reduceMul, Nat.reduceLT, Nat.reduceLeDiff, Nat.reduceEqDiff, Nat.reduceBEq, reduceCtorEq, Int.reduceLT, Int.reduceLE, Int.reduceEq, Int.reduceGT, Int.reduceGE, Int.reduceToNat, Int.reduceNeg, t4]
      · simp -implicitDefEqProofs only [go_sem, Nat.reduceAdd, Nat.reduceMul, Nat.reduceLT, Nat.reduceLeDiff, Nat.reduceEqDiff, Nat.reduceBEq, reduceCtorEq, Int.reduceLT, Int.reduceLE, Int.reduceEq, Int.reduceGT, Int.reduceGE, Int.reduceToNat, Int.reduceNeg]
        exact hown
    · rintro ⟨e, T, H1⟩ ⟨rfl, t0, t5, hx, ws, f, hf, t4, hown, hwl, hgo⟩
      simp only at t0 t5 hx t4 hown
      simp -implicitDefEqProofs only [go_sem, Nat.reduceAdd, Nat.reduceMul, Nat.reduceLT, Nat.reduceLeDiff, Nat.reduceEqDiff, Nat.reduceBEq, reduceCtorEq, Int.reduceLT, Int.reduceLE, Int.reduceEq, Int.reduceGT, Int.reduceGE, Int.reduceToNat, Int.reduceNeg, t0, t4, str_from hl hf, bs90]
      refine ret_bind ((app_el (ds := [.str (strOfNums (l.drop f))]) ysl90 hown hx rfl (by simp [StrsC]; omega)).mono ?_)
      rintro ⟨v, H2⟩ ⟨h1, h2, _⟩
      simp only at h1 h2
      refine .mk ⟨h2, ?_⟩
      have hp : wordsP l = ws ++ [l.drop f] := by
        unfold wordsP
        rw [if_neg h0, hgo]
        simp [wordsGo]
      rw [hp]
      refine Own.row (by omega) (N := H.next) (e := 9) ?_ (fun x hx => by simp only [List.mem_map] at hx; obtain ⟨w, _, rfl⟩ := hx; rfl)
      have : ((ws ++ [l.drop f]).map fun w => [AV.str (strOfNums w)]).flatten = StrsC ws ++ [.str (strOfNums (l.drop f))] := by
        rw [flat_one]
        simp [StrsC]
      rw [this]
      exact h1
end Go.Proofs.YthiflgncldmkjaaDoor
/- Instructions made fewer at a place: the code keeps its heights. Plain lists, no memory. -/
set_option linter.unusedVariables false
set_option linter.unusedSimpArgs false
set_option maxRecDepth 100000
namespace Go.Proofs.YthiflgncldmkjaaDoor
open Go.Ri

def isJ (i : Ins) : Prop := i.op = 17 ∨ i.op = 18
instance (i : Ins) : Decidable (isJ i) := by unfold isJ; infer_instance
/-- Where a place is, when n instructions from p on went and m stand there. -/
def mvP (p n m : Nat) (q : Int) : Int := if q ≤ p then q else if q < (p + n : Nat) then p else q - n + m
def mvI (p n m : Nat) (i : Ins) : Ins := if isJ i then ⟨i.op, mvP p n m i.n, i.m⟩ else i
def doneP (L : List Ins) (p n : Nat) (put : List Ins) : List Ins := (L.take p ++ put ++ L.drop (p + n)).map (mvI p n put.length)
theorem mvI_op (p n m : Nat) (i : Ins) : (mvI p n m i).op = i.op := by unfold mvI; split <;> rfl
theorem mvI_m (p n m : Nat) (i : Ins) : (mvI p n m i).m = i.m := by unfold mvI; split <;> rfl
theorem mvI_tk (l : List Code) (p n m : Nat) (i : Ins) : tk l (mvI p n m i) = tk l i := by
  unfold mvI
  split
  · rename_i h
    unfold isJ at h
    have h1 : i.op ≠ 19 := by omega
    have h2 : i.op ≠ 20 := by omega
    simp [tk, h1, h2]
  · rfl
theorem mvI_lv (l : List Code) (p n m : Nat) (i : Ins) : lv l (mvI p n m i) = lv l i := by
  unfold mvI
  split
  · rename_i h
    unfold isJ at h
    have h1 : i.op ≠ 19 := by omega
    have h2 : i.op ≠ 20 := by omega
    simp [lv, h1, h2]
  · rfl
theorem mvI_ok {l : List Code} {p n m : Nat} {i : Ins} {x : Int} : okAt l (mvI p n m i) x ↔ okAt l i x := by
  unfold okAt
  rw [mvI_tk, mvI_op]

/-- Weights: what a change makes less. -/
def wt (len : Nat) (i : Ins) : Nat := if isJ i then 2 + ((len : Int) - i.n).toNat else 1
def wsum (len : Nat) (L : List Ins) : Nat := (L.map (wt len)).sum
theorem wsum_append (len : Nat) (a b : List Ins) : wsum len (a ++ b) = wsum len a + wsum len b := by simp [wsum]

/-- A change at a place that leaves heights. -/
structure Step (l : List Code) (c : Code) (h : List Int) (p n : Nat) (put : List Ins) : Prop where
  pos : 1 ≤ n
  bound : p + n ≤ c.ins.length
  small : put.length ≤ n
  target : ∀ (a : Nat) (i : Ins) (x : Int), c.ins[a]? = some i → h[a]? = some x → 0 ≤ x → isJ i → ¬ ((p : Int) < i.n ∧ i.n < (p + n : Nat))
  body : (put = [] ∧ ((n = 1 ∧ h[p]? = some (-1)) ∨ ∃ x, 0 ≤ x ∧ h[p]? = some x ∧ h[p + n]? = some x)) ∨
    ∃ x i, put = [i] ∧ 0 ≤ x ∧ h[p]? = some x ∧ Done l i (p + n - 1) x h ∧ mayI l c i = true ∧ (isJ i → ¬ ((p : Int) < i.n ∧ i.n < (p + n : Nat)))
  less : wsum (c.ins.length - n + put.length) (put.map (mvI p n put.length)) < wsum c.ins.length ((c.ins.drop p).take n)

def baseO (p n m a : Nat) : Nat := if a < p then a else a + n - m
def oldO (p n m a : Nat) : Nat := if a < p then a else if a < p + m then p else a + n - m
theorem next_mv (p n m : Nat) (hm : m ≤ n) (i : Ins) (a : Nat) (ha : a < p ∨ p + m ≤ a + 1 ∧ p ≤ a) (hn : 1 ≤ n) : nextI (mvI p n m i) a = (nextI i (baseO p n m a)).map (mvP p n m) := by
  have h1 : mvP p n m ((baseO p n m a + 1 : Nat) : Int) = ((a + 1 : Nat) : Int) := by
    unfold baseO mvP
    split
    · rw [if_pos (by omega)]
    · by_cases h : a + n - m + 1 ≤ p
      · rw [if_pos (by omega)]; omega
      · rw [if_neg (by omega), if_neg (by omega)]; omega
  unfold nextI
  rw [mvI_op]
  by_cases e17 : i.op = 17
  · rw [if_pos e17, if_pos e17]
    simp [mvI, isJ, e17]
  · rw [if_neg e17, if_neg e17]
    by_cases e18 : i.op = 18
    · rw [if_pos e18, if_pos e18, List.map_cons, h1]
      simp [mvI, isJ, e18]
    · rw [if_neg e18, if_neg e18]
      by_cases e20 : i.op = 20
      · rw [if_pos e20, if_pos e20]; rfl
      · rw [if_neg e20, if_neg e20, List.map_cons, h1]; rfl

section
variable {l : List Code} {c : Code} {h : List Int} {p n : Nat} {put : List Ins}
theorem Step.len (S : Step l c h p n put) : (doneP c.ins p n put).length = c.ins.length - n + put.length := by
  have := S.bound
  simp [doneP]
  omega
/-- Old places, new ones: the same heights. -/
theorem Step.mv (S : Step l c h p n put) {q : Nat} {x : Int} (hq : h[q]? = some x) (hx : 0 ≤ x) (ho : ¬ (p < q ∧ q < p + n)) :
    ∃ q' : Nat, mvP p n put.length (q : Nat) = q' ∧ h[oldO p n put.length q']? = some x := by
  unfold mvP oldO
  have hs := S.small
  have hp := S.pos
  by_cases h1 : q < p
  · exact ⟨q, by rw [if_pos (by omega)], by rw [if_pos h1]; exact hq⟩
  by_cases h2 : q = p
  · subst h2
    refine ⟨q, by rw [if_pos (by omega)], ?_⟩
    rw [if_neg (by omega)]
    rcases S.body with ⟨rfl, ⟨_, hb⟩ | ⟨y, _, hb1, hb2⟩⟩ | ⟨y, i, rfl, _, hb, _⟩
    · rw [hq] at hb
      have := Option.some.inj hb
      omega
    · rw [hq] at hb1
      simp only [List.length_nil, Nat.add_zero, Nat.lt_irrefl, if_false, Nat.sub_zero]
      rw [hb2, ← hb1]
    · simp only [List.length_cons, List.length_nil]
      rw [if_pos (by omega)]
      exact hq
  · refine ⟨q - n + put.length, ?_, ?_⟩
    · rw [if_neg (by omega), if_neg (by omega)]
      omega
    · rw [if_neg (by omega), if_neg (by omega)]
      rw [show q - n + put.length + n - put.length = q by omega]
      exact hq
theorem doneP_at (S : Step l c h p n put) {a : Nat} {i : Ins} (hi : (doneP c.ins p n put)[a]? = some i) :
    ∃ j, i = mvI p n put.length j ∧ ((a < p ∧ c.ins[a]? = some j) ∨ (p + put.length ≤ a ∧ c.ins[a + n - put.length]? = some j) ∨ (a = p ∧ put = [j])) := by
  have hb := S.bound
  simp only [doneP, List.getElem?_map, Option.map_eq_some_iff] at hi
  obtain ⟨j, hj, rfl⟩ := hi
  refine ⟨j, rfl, ?_⟩
  rw [List.append_assoc, List.getElem?_append] at hj
  rw [List.length_take, Nat.min_eq_left (by omega)] at hj
  split at hj
  · rename_i ha
    rw [List.getElem?_take, if_pos ha] at hj
    exact .inl ⟨ha, hj⟩
  · rename_i ha
    rw [List.getElem?_append] at hj
    split at hj
    · rename_i hl
      refine .inr (.inr ?_)
      rcases S.body with ⟨rfl, _⟩ | ⟨y, i, rfl, _⟩
      · simp at hl
      · simp at hl
        have : a = p := by omega
        subst this
        simp at hj
        exact ⟨rfl, by rw [hj]⟩
    · rename_i hl
      rw [List.getElem?_drop] at hj
      refine .inr (.inl ⟨by omega, ?_⟩)
      rw [← hj]
      congr 1
      have := S.small
      omega
theorem next_out (S : Step l c h p n put) (g : Good l c h) {a : Nat} {i : Ins} {x : Int} (hi : c.ins[a]? = some i) (hx : h[a]? = some x) (h0 : 0 ≤ x) (ho : a < p ∨ p + n ≤ a) {q : Nat} (hq : ((q : Nat) : Int) ∈ nextI i a) : ¬ (p < q ∧ q < p + n) := by
  have ht := S.target a i x hi hx h0
  unfold nextI at hq
  unfold isJ at ht
  split at hq
  · simp at hq
    intro hh
    exact ht (.inl ‹_›) (by omega)
  · split at hq
    · simp only [List.mem_cons, List.not_mem_nil, or_false] at hq
      rcases hq with hq | hq
      · omega
      · intro hh
        exact ht (.inr ‹_›) (by omega)
    · split at hq
      · simp at hq
      · simp at hq; omega
/-- From place to place. -/
theorem Step.next (S : Step l c h p n put) (g : Good l c h) {a : Nat} {i : Ins} {x : Int} (hi : (doneP c.ins p n put)[a]? = some i) (hx : h[oldO p n put.length a]? = some x) (h0 : 0 ≤ x) :
    okAt l i x ∧ ∀ q ∈ nextI i a, ∃ q' : Nat, q = q' ∧ h[oldO p n put.length q']? = some (x - tk l i + lv l i) ∧ 0 ≤ x - tk l i + lv l i := by
  obtain ⟨j, rfl, hj⟩ := doneP_at S hi
  have hn := S.pos
  have hs := S.small
  have main : ∀ b, Done l j b x h → (b = baseO p n put.length a) → (a < p ∨ p + put.length ≤ a + 1 ∧ p ≤ a) → (∀ q : Nat, ((q : Nat) : Int) ∈ nextI j b → ¬ (p < q ∧ q < p + n)) →
      okAt l (mvI p n put.length j) x ∧ ∀ q ∈ nextI (mvI p n put.length j) a, ∃ q' : Nat, q = q' ∧ h[oldO p n put.length q']? = some (x - tk l (mvI p n put.length j) + lv l (mvI p n put.length j)) ∧ 0 ≤ x - tk l (mvI p n put.length j) + lv l (mvI p n put.length j) := by
    rintro b ⟨d1, d2⟩ rfl ha hout
    refine ⟨mvI_ok.2 d1, fun q hq => ?_⟩
    rw [next_mv p n put.length hs j a ha hn, List.mem_map] at hq
    obtain ⟨q0, hq0, rfl⟩ := hq
    obtain ⟨q1, rfl, hq1⟩ := d2 q0 hq0
    rw [mvI_tk, mvI_lv]
    have hnn : 0 ≤ x - tk l j + lv l j := by have := d1.1; have := lv_nonneg l j; omega
    obtain ⟨q', e, he⟩ := S.mv hq1 hnn (hout q1 hq0)
    exact ⟨q', e, he, hnn⟩
  rcases hj with ⟨ha, hj⟩ | ⟨ha, hj⟩ | ⟨rfl, rfl⟩
  · have ho : oldO p n put.length a = a := if_pos ha
    rw [ho] at hx
    exact main a (g.step a j x hj hx h0) (if_pos ha).symm (.inl ha) fun q hq => next_out S g hj hx h0 (.inl ha) hq
  · have ho : oldO p n put.length a = a + n - put.length := by unfold oldO; rw [if_neg (by omega), if_neg (by omega)]
    rw [ho] at hx
    exact main _ (g.step _ j x hj hx h0) (by unfold baseO; rw [if_neg (by omega)]) (.inr (by omega)) fun q hq => next_out S g hj hx h0 (.inr (by omega)) hq
  · have ho : oldO a n [j].length a = a := by unfold oldO; simp
    rw [ho] at hx
    rcases S.body with ⟨e, _⟩ | ⟨y, i, e, h0y, hb, hd, _, hjt⟩
    · cases e
    · cases e
      rw [hx] at hb
      cases hb
      refine main (a + n - 1) hd (by unfold baseO; simp) (.inr (by simp)) fun q hq hh => ?_
      unfold nextI at hq
      unfold isJ at hjt
      split at hq
      · simp at hq
        exact hjt (.inl ‹_›) (by omega)
      · split at hq
        · simp only [List.mem_cons, List.not_mem_nil, or_false] at hq
          rcases hq with hq | hq
          · omega
          · exact hjt (.inr ‹_›) (by omega)
        · split at hq
          · simp at hq
          · simp at hq; omega
theorem Step.start (S : Step l c h p n put) (g : Good l c h) : h[oldO p n put.length 0]? = some 0 := by
  have := S.mv g.zero (by omega) (by omega)
  obtain ⟨q', e, hq⟩ := this
  have : q' = 0 := by
    unfold mvP at e
    rw [if_pos (by omega)] at e
    omega
  subst this
  exact hq
theorem Step.reach (S : Step l c h p n put) (g : Good l c h) {a : Nat} (hr : Reach { c with ins := doneP c.ins p n put } a) : ∃ x, h[oldO p n put.length a]? = some x ∧ 0 ≤ x := by
  induction hr with
  | zero => exact ⟨0, S.start g, by omega⟩
  | step hr hi hp ih =>
    obtain ⟨x, hx, h0⟩ := ih
    obtain ⟨_, hn⟩ := S.next g hi hx h0
    obtain ⟨q', e, hq, h0'⟩ := hn _ hp
    have := Int.ofNat_inj.1 e
    subst this
    exact ⟨_, hq, h0'⟩
theorem oldO_lt (S : Step l c h p n put) (g : Good l c h) {a : Nat} (ha : oldO p n put.length a < c.ins.length) : a < (doneP c.ins p n put).length := by
  have := S.bound
  have := S.small
  have := S.pos
  rw [S.len]
  unfold oldO at ha
  split at ha
  · omega
  · split at ha <;> omega
open Classical in
/-- The heights behind the change. -/
noncomputable def newH (l : List Code) (c : Code) (h : List Int) (p n : Nat) (put : List Ins) : List Int :=
  (List.range (doneP c.ins p n put).length).map fun a => if Reach { c with ins := doneP c.ins p n put } a then (h[oldO p n put.length a]?).getD 0 else -1
theorem newH_at {a : Nat} (ha : a < (doneP c.ins p n put).length) : (newH l c h p n put)[a]? = some (open Classical in if Reach { c with ins := doneP c.ins p n put } a then (h[oldO p n put.length a]?).getD 0 else -1) := by
  unfold newH
  rw [List.getElem?_map, List.getElem?_range ha]
  rfl
theorem Step.good (S : Step l c h p n put) (g : Good l c h) (h1 : 1 ≤ c.ins.length) : Good l { c with ins := doneP c.ins p n put } (newH l c h p n put) := by
  have hlt : ∀ a x, h[oldO p n put.length a]? = some x → a < (doneP c.ins p n put).length := fun a x hx => by
    have := (List.getElem?_eq_some_iff.1 hx).1
    rw [g.len] at this
    exact oldO_lt S g this
  have hat : ∀ a x, Reach { c with ins := doneP c.ins p n put } a → h[oldO p n put.length a]? = some x → (newH l c h p n put)[a]? = some x := fun a x hr hx => by
    rw [newH_at (hlt a x hx), if_pos hr, hx]
    rfl
  refine ⟨by simp [newH], hat 0 0 .zero (S.start g), fun a i x hi hx h0 => ?_, fun a x hx => ?_⟩
  · have ha : a < (doneP c.ins p n put).length := (List.getElem?_eq_some_iff.1 hi).1
    rw [newH_at ha] at hx
    split at hx
    · rename_i hr
      obtain ⟨y, hy, h0y⟩ := S.reach g hr
      rw [hy] at hx
      cases hx
      obtain ⟨k1, k2⟩ := S.next g hi hy h0
      refine ⟨k1, fun q hq => ?_⟩
      obtain ⟨q', rfl, hq', _⟩ := k2 q hq
      exact ⟨q', rfl, hat q' _ (.step hr hi hq) hq'⟩
    · cases hx
      omega
  · have ha : a < (doneP c.ins p n put).length := by
      have := (List.getElem?_eq_some_iff.1 hx).1
      simpa [newH] using this
    rw [newH_at ha] at hx
    split at hx
    · rename_i hr
      obtain ⟨y, hy, h0y⟩ := S.reach g hr
      rw [hy] at hx
      cases hx
      exact .inr ⟨h0y, hr⟩
    · cases hx
      exact .inl rfl
/-- Each instruction may still be. -/
theorem mayI_mv {c' : Code} (hc : c'.cells = c.cells) (ha : c'.answers = c.answers) {i : Ins} {n' m' : Nat} (hm : mayI l c i = true) (hj : isJ i → 0 ≤ mvP p n' m' i.n ∧ mvP p n' m' i.n < (c'.ins.length : Nat)) : mayI l c' (mvI p n' m' i) = true := by
  by_cases hji : isJ i
  · have hr := hj hji
    have hop := mayI_op hm
    unfold mayI at hm
    split at hm
    · cases hm
    · rename_i hl
      unfold mvI
      rw [if_pos hji]
      unfold isJ at hji
      have hns : (lineOf i.op (mvP p n' m' i.n) i.m).isNone = false := by
        have hl' : (lineOf i.op i.n i.m).isNone = false := by cases hh : (lineOf i.op i.n i.m).isNone <;> simp_all
        unfold lineOf at hl' ⊢
        have hnum : nums i.op = 1 := by rcases hji with e | e <;> rw [e] <;> decide
        rw [hnum] at hl' ⊢
        split at hl'
        · simp at hl'
        · rw [if_neg ‹_›]
          split at hl'
          · simp at hl'
          · rename_i hh
            rw [if_neg (by rintro (⟨h1, h2⟩ | ⟨h1, h2⟩); omega; exact hh (.inr ⟨by omega, h2⟩))]
            rfl
      unfold mayI
      rw [if_neg (by rw [hns]; simp), if_neg (by simp only; omega), if_neg (by simp only; omega), if_pos hji]
      simp only [Bool.and_eq_true, decide_eq_true_eq]
      exact hr
  · unfold mvI
    rw [if_neg hji]
    unfold isJ at hji
    have h17 : ¬ (i.op = 17 ∨ i.op = 18) := hji
    unfold mayI within at hm ⊢
    rw [hc, ha]
    rw [if_neg h17] at hm ⊢
    exact hm
theorem Step.may (S : Step l c h p n put) (g : Good l c h) (o : OwnOk l c) (first : ∀ a, a < p → ∃ x, h[a]? = some x ∧ 0 ≤ x) : OwnOk l { c with ins := doneP c.ins p n put } := by
  have hb := S.bound
  have hs := S.small
  have hp := S.pos
  have hlen : 1 ≤ (doneP c.ins p n put).length := by
    have := S.start g
    have := (List.getElem?_eq_some_iff.1 this).1
    rw [g.len] at this
    have := oldO_lt S g this
    omega
  have hlen' := S.len
  -- a target that is not in the way
  have rng : ∀ q : Int, 0 ≤ q → q < (c.ins.length : Nat) → (p < (doneP c.ins p n put).length ∨ ¬ ((p : Int) ≤ q ∧ q < (p + n : Nat))) → 0 ≤ mvP p n put.length q ∧ mvP p n put.length q < ((doneP c.ins p n put).length : Nat) := by
    intro q h0 h1 h2
    rw [hlen'] at h2 ⊢
    unfold mvP
    split
    · omega
    · split
      · omega
      · omega
  refine ⟨hlen, by rw [hlen']; have := o.few; omega, o.cells, o.params, fun i hi => ?_⟩
  obtain ⟨a, ha⟩ := List.mem_iff_getElem?.1 hi
  obtain ⟨j, rfl, hj⟩ := doneP_at S ha
  have jr : ∀ {j : Ins}, mayI l c j = true → isJ j → 0 ≤ j.n ∧ j.n < (c.ins.length : Nat) := by
    intro j hm hj
    unfold isJ at hj
    unfold mayI at hm
    split at hm
    · cases hm
    · split at hm
      · omega
      · split at hm
        · omega
        · simpa using hm
  have old : ∀ b, (b < p ∨ p + n ≤ b) → c.ins[b]? = some j → mayI l { c with ins := doneP c.ins p n put } (mvI p n put.length j) = true := by
    intro b hb' hbj
    have hm := o.may j (List.mem_of_getElem? hbj)
    refine mayI_mv (c := c) (c' := { c with ins := doneP c.ins p n put }) rfl rfl hm fun hjj => ?_
    have hr := jr hm hjj
    refine rng _ hr.1 hr.2 ?_
    by_cases hpl : p < (doneP c.ins p n put).length
    · exact .inl hpl
    · refine .inr fun hin => ?_
      rw [hlen'] at hpl
      rcases S.body with ⟨rfl, ⟨rfl, hun⟩ | ⟨x, _, _, hb2⟩⟩ | ⟨x, i, rfl, _⟩
      · have hjn : j.n = p := by omega
        have hbp : b < p := by
          rcases hb' with h | h
          · exact h
          · have := (List.getElem?_eq_some_iff.1 hbj).1
            simp at hpl
            omega
        obtain ⟨x, hx, h0x⟩ := first b hbp
        obtain ⟨_, hd⟩ := g.step b j x hbj hx h0x
        have hnx : ((p : Nat) : Int) ∈ nextI j b := by
          unfold isJ at hjj
          unfold nextI
          rcases hjj with e | e
          · rw [if_pos e, hjn]; simp
          · rw [if_neg (by omega), if_pos e, hjn]; simp
        obtain ⟨q, e, hq⟩ := hd _ hnx
        have := Int.ofNat_inj.1 e
        subst this
        rw [hun] at hq
        have := Option.some.inj hq
        have := (g.step b j x hbj hx h0x).1.1
        have := lv_nonneg l j
        omega
      · have := (List.getElem?_eq_some_iff.1 hb2).1
        rw [g.len] at this
        simp at hpl
        omega
      · simp at hpl
        omega
  rcases hj with ⟨ha', hj⟩ | ⟨ha', hj⟩ | ⟨rfl, rfl⟩
  · exact old a (.inl ha') hj
  · exact old _ (.inr (by omega)) hj
  · rcases S.body with ⟨e, _⟩ | ⟨y, i, e, _, _, _, hm, _⟩
    · cases e
    · cases e
      refine mayI_mv (c := c) (c' := { c with ins := doneP c.ins a n [j] }) rfl rfl hm fun hjj => ?_
      have hr := jr hm hjj
      exact rng _ hr.1 hr.2 (.inl (by rw [hlen']; simp; omega))
theorem wt_mv {len : Nat} (hb : p + n ≤ len) (hs : put.length ≤ n) (hs1 : put.length ≤ 1) (i : Ins) : wt (len - n + put.length) (mvI p n put.length i) ≤ wt len i := by
  unfold wt mvI
  by_cases hj : isJ i
  · have hj' : isJ (⟨i.op, mvP p n put.length i.n, i.m⟩ : Ins) := hj
    rw [if_pos hj, if_pos hj', if_pos hj]
    simp only [mvP]
    split
    · omega
    · split <;> omega
  · rw [if_neg hj, if_neg hj, if_neg hj]
    exact Nat.le_refl _
theorem wsum_mv {len : Nat} (hb : p + n ≤ len) (hs : put.length ≤ n) (hs1 : put.length ≤ 1) (L : List Ins) : wsum (len - n + put.length) (L.map (mvI p n put.length)) ≤ wsum len L := by
  induction L with
  | nil => exact Nat.le_refl _
  | cons i L ih =>
    have := wt_mv hb hs hs1 i
    simp only [wsum, List.map_cons, List.sum_cons] at ih ⊢
    omega
theorem Step.one (S : Step l c h p n put) : put.length ≤ 1 := by
  rcases S.body with ⟨rfl, _⟩ | ⟨y, i, rfl, _⟩ <;> simp
theorem Step.down (S : Step l c h p n put) : wsum (doneP c.ins p n put).length (doneP c.ins p n put) < wsum c.ins.length c.ins := by
  rw [S.len]
  have h1 := wsum_mv S.bound S.small S.one (c.ins.take p)
  have h2 := wsum_mv S.bound S.small S.one (c.ins.drop (p + n))
  have h3 := S.less
  have e : c.ins = c.ins.take p ++ ((c.ins.drop p).take n ++ c.ins.drop (p + n)) := by
    rw [← List.drop_drop, List.take_append_drop, List.take_append_drop]
  conv => rhs; rw [e]
  unfold doneP
  rw [List.map_append, List.map_append, wsum_append, wsum_append, wsum_append, wsum_append]
  have e2 : wsum (c.ins.take p ++ ((c.ins.drop p).take n ++ c.ins.drop (p + n))).length (c.ins.take p) = wsum c.ins.length (c.ins.take p) := by rw [← e]
  have e3 : ∀ X, wsum (c.ins.take p ++ ((c.ins.drop p).take n ++ c.ins.drop (p + n))).length X = wsum c.ins.length X := fun X => by rw [← e]
  rw [e3, e3, e3]
  omega
end
end Go.Proofs.YthiflgncldmkjaaDoor
