/- Part 2 of the proof that: Lines go there and back (CodeBack): for every instruction and text the law returns true, and the input reads as it did. Condition: the two tables of package code start as the program's text lays them (the row's own). -/
import Derived.Test.YthiflgncldmkjaaDoorBV41
import Derived.Lib.SmallJoins
import Derived.Deep.Strs
import Derived.Carry
/- code.Text. -/
set_option linter.unusedVariables false
set_option linter.unusedSimpArgs false
set_option maxRecDepth 100000
namespace Go.Proofs.YthiflgncldmkjaaDoor
open Go.Ri

theorem wordOf_size (op : Int) : (wordOf op).size < 10 := by
  have h : wordsL.all (fun s => decide (s.size < 10)) = true := by decide
  unfold wordOf
  rw [List.getD_eq_getElem?_getD]
  cases he : wordsL[op.toNat]? with
  | none => exact (by decide)
  | some s => simpa using List.all_eq_true.1 h s (List.mem_of_getElem? he)
theorem lineWords_size {op n m : Int} : ∀ s ∈ lineWords op n m, s.size < 30 := by
  intro s hs
  have h1 := txt_length n
  have h2 := txt_length m
  have h3 := wordOf_size op
  have e : ∀ l : List Int, (strOfNums l).size = l.length := fun l => strOfNums_size l
  simp only [lineWords, List.mem_cons, List.mem_append] at hs
  rcases hs with rfl | hs | hs
  · omega
  · split at hs
    · simp only [List.mem_cons, List.not_mem_nil, or_false] at hs
      subst hs
      rw [e]; omega
    · simp at hs
  · split at hs
    · simp only [List.mem_cons, List.not_mem_nil, or_false] at hs
      subst hs
      rw [e]; omega
    · simp at hs

theorem line_spec {op n m : Int} (hn : InI n) (hm : InI m) {H : AH} (hw : H.wf) (hW : Words H) (k : Nat) (hk : 3 ≤ k) :
    Ret (F23 S23 (iter k) (.agg [.int .i64 op, .int .i64 n, .int .i64 m]) H) fun r => r.1 = lineAV op n m ∧ H.sub r.2 := by
  unfold F23
  have hbox : nBox 29 (.agg [.int .i64 op, .int .i64 n, .int .i64 m]) = some ⟨[.int .i64 op, .int .i64 n, .int .i64 m], 29, ptrTo⟩ := rfl
  have x1 : Ext H.next H (H.new [.int .i64 op, .int .i64 n, .int .i64 m] 29) := (Ext.refl hw).new _ _
  simp only [hbox, Option.bind_some, ptrTo, ptrAdd, Nat.zero_add, ld_new, List.getElem?_cons_zero, aBin_lss, gdv_bool, asB_bool]
  by_cases h1 : op < 1
  · simp only [h1, decide_true, show (true == false) = false from rfl, Bool.false_eq_true, if_false, if_true, Option.bind_some, asB_bool]
    refine .mk ⟨?_, x1.sub hw⟩
    simp only [lineAV, lineOf]
    rw [if_pos (.inl h1)]
  · simp only [h1, decide_false, show (false == false) = true from rfl, Bool.false_eq_true, if_false, if_true, Option.bind_some, asB_bool, ld_new, List.getElem?_cons_zero, aBin_gtr]
    by_cases h2 : op > 25
    · simp only [h2, decide_true, if_true]
      refine .mk ⟨?_, x1.sub hw⟩
      simp only [lineAV, lineOf]
      rw [if_pos (.inr h2)]
    · simp only [h2, decide_false, Bool.false_eq_true, if_false]
      obtain ⟨e, rw_, hW0⟩ := hW
      have h0n : 0 < H.next := hw 0 _ hW0
      have hop : 1 ≤ op ∧ op ≤ 25 := by omega
      have hidx : idxPtr (.ptr (some (0, 0))) (.int .i64 op) 26 1 = some (.ptr (some (0, op.toNat))) := by
        simp only [idxPtr, ptrAdd]
        rw [if_pos (by omega)]
        simp
      have hwl : wordsL.length = 26 := by simp [wordsL]
      have hword : ldOne (.ptr (some (0, op.toNat))) (H.new [.int .i64 op, .int .i64 n, .int .i64 m] 29) = some (.str (wordOf op)) := by
        rw [ld_old (by omega)]
        simp only [ldOne, AH.ld, hW0, Option.bind_some, List.getElem?_map, wordOf, List.getD_eq_getElem?_getD]
        rw [List.getElem?_eq_getElem (show op.toNat < wordsL.length by omega)]
        rfl
      simp only [hidx, hword, Option.bind_some, bs90]
      have hne : H.next ≠ (H.new [.int .i64 op, .int .i64 n, .int .i64 m] 29).next := by simp [AH.new]
      simp only [ld_old hne, ld_new, List.getElem?_cons_zero, List.getElem?_cons_succ, Option.bind_some, S23_65 hop, aBin_lss, gdv_bool, asB_bool]
      -- the numbers that must be nothing
      have x2 : Ext H.next H ((H.new [.int .i64 op, .int .i64 n, .int .i64 m] 29).new [.str (wordOf op)] 9) := x1.new _ _
      have no : (nums op < 1 ∧ n ≠ 0) ∨ (nums op < 2 ∧ m ≠ 0) → lineAV op n m = .tuple [.str ⟨#[]⟩, .int .i64 61] := fun h => by
        simp only [lineAV, lineOf]
        rw [if_neg (by omega), if_pos h]
      have cont : ∀ T : Tm, T 4 = slTo 1 1 (H.new [.int .i64 op, .int .i64 n, .int .i64 m] 29).next → T 5 = .int .i64 (nums op) → T 44 = .agg [.int .i64 n, .int .i64 m] → T 45 = .int .i64 0 → ¬ ((nums op < 1 ∧ n ≠ 0) ∨ (nums op < 2 ∧ m ≠ 0)) →
          Ret ((iter k (body23 S23) (T, (H.new [.int .i64 op, .int .i64 n, .int .i64 m] 29).new [.str (wordOf op)] 9)).bind fun r55 => match r55.1 with
            | .normal => none
            | .exit j56 => if j56 = 0 then ((S23 66 [(r55.2.1 4)] r55.2.2).bind fun r68 => some ((.tuple [r68.1, (.int .i64 0)]), r68.2)) else none
            | .ret => some ((.tuple [(r55.2.1 2), (r55.2.1 3)]), r55.2.2)) fun r => r.1 = lineAV op n m ∧ H.sub r.2 := by
        intro T a4 a5 a44 a45 hok
        refine Ret.then (loop23 hn hm x2 ⟨_, _, ?_, a4, .inl rfl, by simp, by simp [AH.new, setM_same]⟩ a5 a44 a45 k hk) ?_
        · simp [AH.new]
        · rintro ⟨e, T1, H1⟩ ⟨he, hws, hx⟩
          simp only at he
          subst he
          obtain ⟨b, c, hb, hs4, hc, hpos, hm4⟩ := hws
          have t4 : T1 4 = _ := hs4
          have hx' : Ext H.next H H1 := hx
          have hm4' : H1.m b = _ := hm4
          have hsz : ∀ s ∈ lineWords op n m, s.size < 1000 := fun s hs => by have := lineWords_size s hs; omega
          have hll : (lineWords op n m).length < 1000000 := by rcases nums_three op with h | h | h <;> simp [lineWords, h]
          have hld : H1.ldN (b, 0) (lineWords op n m).length = some ((lineWords op n m).map .str) := by
            simp only [AH.ldN, hm4', Option.bind_some]
            rw [if_pos (by simp)]
            rw [List.drop_zero, List.take_of_length_le (by simp)]
          simp only [if_true, t4, S23_66 hld rfl hll hsz, Option.bind_some]
          refine .mk ⟨?_, hx'.sub hw⟩
          simp only [lineAV, lineOf]
          rw [if_neg (by omega), if_neg hok]
      have hb91 := build91 n m
      clear hword hidx
      by_cases h3 : (nums op < 1 ∧ n ≠ 0) ∨ (nums op < 2 ∧ m ≠ 0)
      · have hno := no h3
        clear cont no
        have hs2 := x2.sub hw
        rcases nums_three op with hnm | hnm | hnm <;> rw [hnm] at h3 ⊢
        · rcases Decidable.em (n = 0) with hn0 | hn0
          · rcases Decidable.em (m = 0) with hm0 | hm0
            · exact absurd h3 (by simp [hn0, hm0])
            · simp -implicitDefEqProofs only [go_sem, Nat.reduceAdd, Nat.reduceMul, Nat.reduceLT, Nat.reduceLeDiff, Nat.reduceEqDiff, Nat.reduceBEq, reduceCtorEq, Int.reduceLT, Int.reduceLE, Int.reduceEq, Int.reduceGT, Int.reduceGE, Int.reduceToNat, Int.reduceNeg, decide_eq_true hn0, decide_eq_false hm0]
              exact .mk ⟨hno.symm, hs2⟩
          · simp -implicitDefEqProofs only [go_sem, Nat.reduceAdd, Nat.reduceMul, Nat.reduceLT, Nat.reduceLeDiff, Nat.reduceEqDiff, Nat.reduceBEq, reduceCtorEq, Int.reduceLT, Int.reduceLE, Int.reduceEq, Int.reduceGT, Int.reduceGE, Int.reduceToNat, Int.reduceNeg, decide_eq_false hn0]
            exact .mk ⟨hno.symm, hs2⟩
        · rcases Decidable.em (m = 0) with hm0 | hm0
          · exact absurd h3 (by simp [hm0])
          · simp -implicitDefEqProofs only [go_sem, Nat.reduceAdd, Nat.reduceMul, Nat.reduceLT, Nat.reduceLeDiff, Nat.reduceEqDiff, Nat.reduceBEq, reduceCtorEq, Int.reduceLT, Int.reduceLE, Int.reduceEq, Int.reduceGT, Int.reduceGE, Int.reduceToNat, Int.reduceNeg, decide_eq_false hm0]
            exact .mk ⟨hno.symm, hs2⟩
        · exact absurd h3 (by simp)
      · have hc := fun T a4 a5 a44 a45 => cont T a4 a5 a44 a45 h3
        clear cont no
        rcases nums_three op with hnm | hnm | hnm <;> rw [hnm] at h3 hc ⊢
        · have hn0 : n = 0 := Classical.byContradiction fun h => h3 (.inl ⟨by omega, h⟩)
          have hm0 : m = 0 := Classical.byContradiction fun h => h3 (.inr ⟨by omega, h⟩)
          simp -implicitDefEqProofs only [go_sem, Nat.reduceAdd, Nat.reduceMul, Nat.reduceLT, Nat.reduceLeDiff, Nat.reduceEqDiff, Nat.reduceBEq, reduceCtorEq, Int.reduceLT, Int.reduceLE, Int.reduceEq, Int.reduceGT, Int.reduceGE, Int.reduceToNat, Int.reduceNeg, decide_eq_true hn0, decide_eq_true hm0]
          refine hc _ ?_ ?_ ?_ ?_ <;> simp -implicitDefEqProofs only [go_sem, Nat.reduceAdd, Nat.reduceMul, Nat.reduceLT, Nat.reduceLeDiff, Nat.reduceEqDiff, Nat.reduceBEq, reduceCtorEq, Int.reduceLT, Int.reduceLE, Int.reduceEq, Int.reduceGT, Int.reduceGE, Int.reduceToNat, Int.reduceNeg]
        · have hm0 : m = 0 := Classical.byContradiction fun h => h3 (.inr ⟨by omega, h⟩)
          simp -implicitDefEqProofs only [go_sem, Nat.reduceAdd, Nat.reduceMul, Nat.reduceLT, Nat.reduceLeDiff, Nat.reduceEqDiff, Nat.reduceBEq, reduceCtorEq, Int.reduceLT, Int.reduceLE, Int.reduceEq, Int.reduceGT, Int.reduceGE, Int.reduceToNat, Int.reduceNeg, decide_eq_true hm0]
          refine hc _ ?_ ?_ ?_ ?_ <;> simp -implicitDefEqProofs only [go_sem, Nat.reduceAdd, Nat.reduceMul, Nat.reduceLT, Nat.reduceLeDiff, Nat.reduceEqDiff, Nat.reduceBEq, reduceCtorEq, Int.reduceLT, Int.reduceLE, Int.reduceEq, Int.reduceGT, Int.reduceGE, Int.reduceToNat, Int.reduceNeg]
        · simp -implicitDefEqProofs only [go_sem, Nat.reduceAdd, Nat.reduceMul, Nat.reduceLT, Nat.reduceLeDiff, Nat.reduceEqDiff, Nat.reduceBEq, reduceCtorEq, Int.reduceLT, Int.reduceLE, Int.reduceEq, Int.reduceGT, Int.reduceGE, Int.reduceToNat, Int.reduceNeg]
          refine hc _ ?_ ?_ ?_ ?_ <;> simp -implicitDefEqProofs only [go_sem, Nat.reduceAdd, Nat.reduceMul, Nat.reduceLT, Nat.reduceLeDiff, Nat.reduceEqDiff, Nat.reduceBEq, reduceCtorEq, Int.reduceLT, Int.reduceLE, Int.reduceEq, Int.reduceGT, Int.reduceGE, Int.reduceToNat, Int.reduceNeg]

theorem wordsA_eq : wordsA = wordsL.map .str := by rfl
theorem Tabs.Words {H : AH} (h : Tabs H) : Words H := by
  obtain ⟨e, he⟩ := h.words
  exact ⟨e, false, by rw [he, wordsA_eq]⟩
theorem lineAV_flat (op n m : Int) : flatT (lineAV op n m) = true := by
  unfold lineAV
  split <;> rfl
/-- Both functions Text. -/
noncomputable def gLine (vs : List AV) (H : AH) : Option (AV × AH) := match vs with
  | [.agg [.int .i64 op, .int .i64 n, .int .i64 m]] => chk (InI n ∧ InI m ∧ Tabs H) (some (lineAV op n m, H))
  | _ => none
theorem ok23 : Ok1 Tryd.prog 23 gLine := by
  refine ok1_flat S23_ok ⟨_, Tryd.func23, by kernel_rfl, by kernel_rfl⟩ fun vs H v H' hg => ?_
  unfold gLine at hg
  split at hg
  · rename_i op n m
    obtain ⟨⟨hn, hm, hT⟩, hg⟩ := chk_some hg
    cases hg
    refine ⟨rfl, lineAV_flat op n m, fun hw => Ret.run (n := 3) ?_⟩
    rw [F23_eq]
    exact line_spec hn hm hw hT.Words 3 (by omega)
  · cases hg
end Go.Proofs.YthiflgncldmkjaaDoor
/- The document's Text of an instruction. -/
set_option linter.unusedVariables false
set_option linter.unusedSimpArgs false
set_option maxRecDepth 100000
namespace Go.Proofs.YthiflgncldmkjaaDoor
open Go.Ri

/-- What the document's row says. -/
def takes (op : Int) : Int := stackN.getD (op.toNat * 2) 0
def leaves (op : Int) : Int := stackN.getD (op.toNat * 2 + 1) 0
theorem op_cases {op : Int} (h : 1 ≤ op ∧ op ≤ 25) : op = 1 ∨ op = 2 ∨ op = 3 ∨ op = 4 ∨ op = 5 ∨ op = 6 ∨ op = 7 ∨ op = 8 ∨ op = 9 ∨ op = 10 ∨ op = 11 ∨ op = 12 ∨ op = 13 ∨ op = 14 ∨ op = 15 ∨ op = 16 ∨ op = 17 ∨ op = 18 ∨ op = 19 ∨ op = 20 ∨ op = 21 ∨ op = 22 ∨ op = 23 ∨ op = 24 ∨ op = 25 := by omega
theorem rowAt_in {op : Int} (h : 1 ≤ op ∧ op ≤ 25) : rowAt op = [.str (wordOf op), .int .i64 (nums op), .int .i64 (takes op), .int .i64 (leaves op)] := by
  rcases op_cases h with rfl | rfl | rfl | rfl | rfl | rfl | rfl | rfl | rfl | rfl | rfl | rfl | rfl | rfl | rfl | rfl | rfl | rfl | rfl | rfl | rfl | rfl | rfl | rfl | rfl <;> rfl
theorem rowAt_out {op : Int} (h : ¬ (1 ≤ op ∧ op ≤ 25)) : rowAt op = [.str ⟨#[]⟩, .int .i64 0, .int .i64 0, .int .i64 0] := by
  unfold rowAt
  rw [if_neg (by omega)]
  rfl
theorem wordOf_ne {op : Int} (h : 1 ≤ op ∧ op ≤ 25) : ((wordOf op).toList == (⟨#[]⟩ : ByteArray).toList) = false := by
  rw [toList_data, toList_data]
  rcases op_cases h with rfl | rfl | rfl | rfl | rfl | rfl | rfl | rfl | rfl | rfl | rfl | rfl | rfl | rfl | rfl | rfl | rfl | rfl | rfl | rfl | rfl | rfl | rfl | rfl | rfl <;> rfl
noncomputable def S63 : CallF := addT (addT noT 64 gText) 92 g92
theorem S63_ok : CallOk Tryd.prog S63 := addT_ok (addT_ok (noT_ok _) ok64) ok92
theorem S63_64 {n : Int} (h : InI n) (H : AH) : S63 64 [.int .i64 n] H = some (.str (strOfNums (txt n)), H) := chk_pos h _
theorem S63_92 (op : Int) (H : AH) : S63 92 [.int .i64 op] H = some (.agg (rowAt op), H) := rfl
theorem cat_str (t : TypeId) (x y : ByteArray) (h : x.size + y.size ≤ 1000000000000) : aBin Tryd.prog .add t (.str x) (.str y) = some (.str (x ++ y)) := aBin_cat _ _ _ _ (by omega)
theorem txt_size (n : Int) : (strOfNums (txt n)).size ≤ 20 := by rw [strOfNums_size]; exact txt_length n
theorem size_append (x y : ByteArray) : (x ++ y).size = x.size + y.size := ByteArray.size_append

theorem lineAV_bad {op n m : Int} (h : op < 1 ∨ 25 < op ∨ (nums op < 1 ∧ n ≠ 0) ∨ (nums op < 2 ∧ m ≠ 0)) : lineAV op n m = .tuple [.str ⟨#[]⟩, .int .i64 61] := by
  simp only [lineAV, lineOf]
  by_cases h1 : op < 1 ∨ 25 < op
  · rw [if_pos h1]
  · rw [if_neg h1, if_pos (by rcases h with h | h | h <;> simp_all)]
theorem lineAV_good {op n m : Int} (hop : 1 ≤ op ∧ op ≤ 25) (h : ¬ ((nums op < 1 ∧ n ≠ 0) ∨ (nums op < 2 ∧ m ≠ 0))) : lineAV op n m = .tuple [.str (strOfNums (joinL 0 (lineWords op n m))), .int .i64 0] := by
  simp only [lineAV, lineOf]
  rw [if_neg (by omega), if_neg h]
theorem blank_cat (x : ByteArray) (l : List Int) : x ++ ⟨#[32]⟩ ++ strOfNums l = strOfNums (byteL x ++ 32 :: l) := by
  rw [show (⟨#[32]⟩ : ByteArray) = strOfNums [32] from rfl]
  conv => lhs; rw [← str_byteL x]
  rw [str_append, str_append]
  simp
theorem byteL_str (l : List Int) (h : ∀ n ∈ l, 0 ≤ n ∧ n < 256) : byteL (strOfNums l) = l := by
  simp only [byteL, strOfNums, List.map_map]
  conv => rhs; rw [← List.map_id l]
  apply List.map_congr_left
  intro n hn
  have := h n hn
  simp only [Function.comp, id]
  rw [UInt8.toNat_ofNat']
  omega
theorem dg_small : ∀ (f u : Nat) (acc : List Int), (∀ n ∈ acc, 0 ≤ n ∧ n < 256) → ∀ n ∈ dg f u acc, 0 ≤ n ∧ n < 256
  | 0, u, acc, h => h
  | f + 1, u, acc, h => by
    have h' : ∀ n ∈ ((48 + u % 10 : Nat) : Int) :: acc, 0 ≤ n ∧ n < 256 := by
      intro n hn
      simp only [List.mem_cons] at hn
      rcases hn with rfl | hn
      · omega
      · exact h n hn
    rw [dg]
    split
    · exact h'
    · exact dg_small f _ _ h'
theorem txt_small (n : Int) : ∀ x ∈ txt n, 0 ≤ x ∧ x < 256 := by
  have h := dg_small 19 n.natAbs [] (by simp)
  unfold txt
  split
  · intro x hx
    simp only [List.mem_cons] at hx
    rcases hx with rfl | hx
    · omega
    · exact h x hx
  · exact h
theorem join_one (op n m : Int) (h : nums op = 0) : strOfNums (joinL 0 (lineWords op n m)) = wordOf op := by
  simp [lineWords, h, joinL, str_byteL]
theorem join_two (op n m : Int) (h : nums op = 1) : strOfNums (joinL 0 (lineWords op n m)) = wordOf op ++ ⟨#[32]⟩ ++ strOfNums (txt n) := by
  rw [blank_cat]
  simp [lineWords, h, joinL, byteL_str _ (txt_small n)]
theorem join_three (op n m : Int) (h : nums op = 2) : strOfNums (joinL 0 (lineWords op n m)) = wordOf op ++ ⟨#[32]⟩ ++ strOfNums (txt n) ++ ⟨#[32]⟩ ++ strOfNums (txt m) := by
  rw [blank_cat, blank_cat]
  have e : byteL (strOfNums (byteL (wordOf op) ++ 32 :: txt n)) = byteL (wordOf op) ++ 32 :: txt n := by
    apply byteL_str
    intro x hx
    simp only [List.mem_append, List.mem_cons] at hx
    rcases hx with hx | rfl | hx
    · simp only [byteL, List.mem_map] at hx
      obtain ⟨y, _, rfl⟩ := hx
      have := y.toNat_lt
      omega
    · omega
    · exact txt_small n x hx
  rw [e]
  simp [lineWords, h, joinL, byteL_str _ (txt_small n), byteL_str _ (txt_small m)]

theorem line_ref {op n m : Int} (hn : InI n) (hm : InI m) {H : AH} (hw : H.wf) (k : Nat) :
    Ret (F63 S63 (iter k) (.agg [.int .i64 op, .int .i64 n, .int .i64 m]) H) fun r => r.1 = lineAV op n m ∧ H.sub r.2 := by
  unfold F63
  have hx : ∀ cs, Ext H.next H (((H.new [.int .i64 op, .int .i64 n, .int .i64 m] 29).new [.str ⟨#[]⟩, .int .i64 0, .int .i64 0, .int .i64 0] 133).put (H.next + 1) ⟨cs, 133, true⟩) :=
    fun cs => Ext.put (((Ext.refl hw).new _ _).new _ _) (by omega) (by simp only [new_next]; omega) _
  have hsub := fun cs => (hx cs).sub hw
  by_cases hop : 1 ≤ op ∧ op ≤ 25
  · have hr := rowAt_in hop
    have hwz := wordOf_size op
    have hc1 : ∀ t, aBin Tryd.prog .add t (.str (wordOf op)) (.str ⟨#[32]⟩) = some (.str (wordOf op ++ ⟨#[32]⟩)) := fun t => cat_str t _ _ (by have : (⟨#[32]⟩ : ByteArray).size = 1 := rfl; omega)
    have s1 : (wordOf op ++ ⟨#[32]⟩).size ≤ 11 := by rw [size_append]; have : (⟨#[32]⟩ : ByteArray).size = 1 := rfl; omega
    have hc2 : ∀ t, aBin Tryd.prog .add t (.str (wordOf op ++ ⟨#[32]⟩)) (.str (strOfNums (txt n))) = some (.str (wordOf op ++ ⟨#[32]⟩ ++ strOfNums (txt n))) := fun t => cat_str t _ _ (by have := txt_size n; omega)
    have s2 : (wordOf op ++ ⟨#[32]⟩ ++ strOfNums (txt n)).size ≤ 31 := by rw [size_append]; have := txt_size n; omega
    have hc3 : ∀ t, aBin Tryd.prog .add t (.str (wordOf op ++ ⟨#[32]⟩ ++ strOfNums (txt n))) (.str ⟨#[32]⟩) = some (.str (wordOf op ++ ⟨#[32]⟩ ++ strOfNums (txt n) ++ ⟨#[32]⟩)) := fun t => cat_str t _ _ (by have : (⟨#[32]⟩ : ByteArray).size = 1 := rfl; omega)
    have s3 : (wordOf op ++ ⟨#[32]⟩ ++ strOfNums (txt n) ++ ⟨#[32]⟩).size ≤ 32 := by rw [size_append]; have : (⟨#[32]⟩ : ByteArray).size = 1 := rfl; omega
    have hc4 : ∀ t, aBin Tryd.prog .add t (.str (wordOf op ++ ⟨#[32]⟩ ++ strOfNums (txt n) ++ ⟨#[32]⟩)) (.str (strOfNums (txt m))) = some (.str (wordOf op ++ ⟨#[32]⟩ ++ strOfNums (txt n) ++ ⟨#[32]⟩ ++ strOfNums (txt m))) := fun t => cat_str t _ _ (by have := txt_size m; omega)
    simp -implicitDefEqProofs only [go_sem, Nat.reduceAdd, Nat.reduceMul, Nat.reduceLT, Nat.reduceLeDiff, Nat.reduceEqDiff, Nat.reduceBEq, reduceCtorEq, Int.reduceLT, Int.reduceLE, Int.reduceEq, Int.reduceGT, Int.reduceGE, Int.reduceToNat, Int.reduceNeg, S63_92, hr, aBin_same, wordOf_ne hop, F63_J1, F63_J0]
    rcases nums_three op with hnm | hnm | hnm
    · rcases Decidable.em (n = 0) with hn0 | hn0
      · rcases Decidable.em (m = 0) with hm0 | hm0
        · simp -implicitDefEqProofs only [go_sem, Nat.reduceAdd, Nat.reduceMul, Nat.reduceLT, Nat.reduceLeDiff, Nat.reduceEqDiff, Nat.reduceBEq, reduceCtorEq, Int.reduceLT, Int.reduceLE, Int.reduceEq, Int.reduceGT, Int.reduceGE, Int.reduceToNat, Int.reduceNeg, F63_J1, F63_J0, hnm, decide_eq_true hn0, decide_eq_true hm0]
          exact .mk ⟨by rw [lineAV_good hop (by omega), join_one _ _ _ hnm], hsub _⟩
        · simp -implicitDefEqProofs only [go_sem, Nat.reduceAdd, Nat.reduceMul, Nat.reduceLT, Nat.reduceLeDiff, Nat.reduceEqDiff, Nat.reduceBEq, reduceCtorEq, Int.reduceLT, Int.reduceLE, Int.reduceEq, Int.reduceGT, Int.reduceGE, Int.reduceToNat, Int.reduceNeg, F63_J1, F63_J0, hnm, decide_eq_true hn0, decide_eq_false hm0]
          exact .mk ⟨(lineAV_bad (by omega)).symm, hsub _⟩
      · simp -implicitDefEqProofs only [go_sem, Nat.reduceAdd, Nat.reduceMul, Nat.reduceLT, Nat.reduceLeDiff, Nat.reduceEqDiff, Nat.reduceBEq, reduceCtorEq, Int.reduceLT, Int.reduceLE, Int.reduceEq, Int.reduceGT, Int.reduceGE, Int.reduceToNat, Int.reduceNeg, F63_J1, F63_J0, hnm, decide_eq_false hn0]
        exact .mk ⟨(lineAV_bad (by omega)).symm, hsub _⟩
    · rcases Decidable.em (m = 0) with hm0 | hm0
      · simp -implicitDefEqProofs only [go_sem, Nat.reduceAdd, Nat.reduceMul, Nat.reduceLT, Nat.reduceLeDiff, Nat.reduceEqDiff, Nat.reduceBEq, reduceCtorEq, Int.reduceLT, Int.reduceLE, Int.reduceEq, Int.reduceGT, Int.reduceGE, Int.reduceToNat, Int.reduceNeg, F63_J1, F63_J0, hnm, decide_eq_true hm0, S63_64 hn, hc1, hc2]
        exact .mk ⟨by rw [lineAV_good hop (by omega), join_two _ _ _ hnm], hsub _⟩
      · simp -implicitDefEqProofs only [go_sem, Nat.reduceAdd, Nat.reduceMul, Nat.reduceLT, Nat.reduceLeDiff, Nat.reduceEqDiff, Nat.reduceBEq, reduceCtorEq, Int.reduceLT, Int.reduceLE, Int.reduceEq, Int.reduceGT, Int.reduceGE, Int.reduceToNat, Int.reduceNeg, F63_J1, F63_J0, hnm, decide_eq_false hm0]
        exact .mk ⟨(lineAV_bad (by omega)).symm, hsub _⟩
    · simp -implicitDefEqProofs only [go_sem, Nat.reduceAdd, Nat.reduceMul, Nat.reduceLT, Nat.reduceLeDiff, Nat.reduceEqDiff, Nat.reduceBEq, reduceCtorEq, Int.reduceLT, Int.reduceLE, Int.reduceEq, Int.reduceGT, Int.reduceGE, Int.reduceToNat, Int.reduceNeg, F63_J1, F63_J0, hnm, S63_64 hn, S63_64 hm, hc1, hc2, hc3, hc4]
      exact .mk ⟨by rw [lineAV_good hop (by omega), join_three _ _ _ hnm], hsub _⟩
  · have hr := rowAt_out hop
    simp -implicitDefEqProofs only [go_sem, Nat.reduceAdd, Nat.reduceMul, Nat.reduceLT, Nat.reduceLeDiff, Nat.reduceEqDiff, Nat.reduceBEq, reduceCtorEq, Int.reduceLT, Int.reduceLE, Int.reduceEq, Int.reduceGT, Int.reduceGE, Int.reduceToNat, Int.reduceNeg, S63_92, hr, aBin_same]
    exact .mk ⟨(lineAV_bad (by omega)).symm, hsub _⟩
theorem ok63 : Ok1 Tryd.prog 63 gLine := by
  refine ok1_flat S63_ok ⟨_, Tryd.func63, by kernel_rfl, by kernel_rfl⟩ fun vs H v H' hg => ?_
  unfold gLine at hg
  split at hg
  · rename_i op n m
    obtain ⟨⟨hn, hm, hT⟩, hg⟩ := chk_some hg
    cases hg
    refine ⟨rfl, lineAV_flat op n m, fun hw => Ret.run (n := 3) ?_⟩
    rw [F63_eq]
    exact line_ref hn hm hw 3
  · cases hg
end Go.Proofs.YthiflgncldmkjaaDoor
/- Tables of calls: functions with flat answers, and all the others run. -/
set_option linter.unusedVariables false
set_option linter.unusedSimpArgs false
set_option maxRecDepth 100000
namespace Go.Proofs.YthiflgncldmkjaaDoor
open Go.Ri

/-- The fixed calls: true, wherever the tables stand. -/
noncomputable def gTrue (vs : List AV) (H : AH) : Option (AV × AH) := chk (vs = [] ∧ Tabs H) (some (.bool true, H))
theorem ok_true {f : FuncId} (h : ∀ e0 e1, saysTrue (aCall Tryd.prog (drawB Tryd.prog) 60 f [] ⟨mTabs e0 e1, 2⟩) = true) (hf : Fn1 Tryd.prog f) : Ok1 Tryd.prog f gTrue := by
  intro vs H v H' hg
  refine ⟨hf, ?_⟩
  obtain ⟨⟨rfl, hT⟩, _⟩ := chk_some hg
  obtain ⟨e0, e1, hsub⟩ := small_sub hT
  obtain ⟨H1, h1⟩ := saysTrue_some (h e0 e1)
  refine (ok1_small rfl (by simp) (by rw [globals2]; omega) (mTabs_ok e0 e1) h1 [] H v H' ?_).2
  exact (chk_pos (⟨rfl, hT.two, hsub⟩ : [] = ([] : List AV) ∧ 2 ≤ H.next ∧ ∀ b B, mTabs e0 e1 b = some B → H.m b = some B) _).trans (chk_some hg).2
theorem run22 (e0 e1 : TypeId) : saysTrue (aCall Tryd.prog (drawB Tryd.prog) 60 22 [] ⟨mTabs e0 e1, 2⟩) = true := by kernel_rfl
theorem ok22 : Ok1 Tryd.prog 22 gTrue := ok_true run22 ⟨_, Tryd.func22, by kernel_rfl, by kernel_rfl⟩

def big : Nat := 18446744073709551616
theorem big_eq : big = 18446744073709551616 := rfl

noncomputable def S0 : CallF := addT (addT (addT (addT (addT (addT (addT (addT (addT (addT (addT noT 131 g131) 115 g115) 93 g93) 62 gText) 64 gText) 65 g65) 66 g66) 92 g92) 23 gLine) 63 gLine) 22 gTrue
theorem S0_ok : CallOk Tryd.prog S0 := addT_ok (addT_ok (addT_ok (addT_ok (addT_ok (addT_ok (addT_ok (addT_ok (addT_ok (addT_ok (addT_ok (noT_ok _) ok131) ok115) ok93) ok62) ok64) ok65) ok66) ok92) ok23) ok63) ok22
def isFlat (f : FuncId) : Bool := f == 131 || f == 115 || f == 93 || f == 62 || f == 64 || f == 65 || f == 66 || f == 92 || f == 23 || f == 63 || f == 22
/-- So deep a run. -/
noncomputable def RT : Nat → CallF
  | 0 => S0
  | d + 1 => fun f vs H => if isFlat f = true then S0 f vs H else aFun Tryd.prog (drawA Tryd.prog) (RT d) (iter big) f vs H
theorem RT_ok : ∀ d, CallOk Tryd.prog (RT d)
  | 0 => S0_ok
  | d + 1 => by
    intro f vs H v H' h
    simp only [RT] at h
    split at h
    · exact S0_ok f vs H v H' h
    · exact aFun_sound (draw := drawA Tryd.prog) (n := big) (RT_ok d) (fun nt => drawA_ok (RT_ok d)) f vs H v H' h
theorem RT_flat {f : FuncId} (h : isFlat f = true) (d : Nat) (vs : List AV) (H : AH) : RT d f vs H = S0 f vs H := by
  cases d with
  | zero => rfl
  | succ d => simp only [RT]; rw [if_pos h]
theorem RT_run {f : FuncId} (h : isFlat f = false) (d : Nat) (vs : List AV) (H : AH) : RT (d + 1) f vs H = aFun Tryd.prog (drawA Tryd.prog) (RT d) (iter big) f vs H := by
  simp only [RT]
  rw [if_neg (by rw [h]; simp)]
theorem RT_62 (d : Nat) {n : Int} (h : InI n) (H : AH) : RT d 62 [.int .i64 n] H = some (.str (strOfNums (txt n)), H) := (RT_flat rfl d _ H).trans (chk_pos h _)
theorem RT_64 (d : Nat) {n : Int} (h : InI n) (H : AH) : RT d 64 [.int .i64 n] H = some (.str (strOfNums (txt n)), H) := (RT_flat rfl d _ H).trans (chk_pos h _)
theorem RT_92 (d : Nat) (op : Int) (H : AH) : RT d 92 [.int .i64 op] H = some (.agg (rowAt op), H) := (RT_flat rfl d _ H).trans rfl
theorem RT_23 (d : Nat) {op n m : Int} {H : AH} (hn : InI n) (hm : InI m) (hT : Tabs H) : RT d 23 [.agg [.int .i64 op, .int .i64 n, .int .i64 m]] H = some (lineAV op n m, H) := (RT_flat rfl d _ H).trans (chk_pos ⟨hn, hm, hT⟩ _)
theorem RT_63 (d : Nat) {op n m : Int} {H : AH} (hn : InI n) (hm : InI m) (hT : Tabs H) : RT d 63 [.agg [.int .i64 op, .int .i64 n, .int .i64 m]] H = some (lineAV op n m, H) := (RT_flat rfl d _ H).trans (chk_pos ⟨hn, hm, hT⟩ _)
theorem RT_65 (d : Nat) {op : Int} (h : 1 ≤ op ∧ op ≤ 25) (H : AH) : RT d 65 [.int .i64 op] H = some (.int .i64 (nums op), H) := (RT_flat rfl d _ H).trans (chk_pos h _)
theorem RT_22 (d : Nat) {H : AH} (hT : Tabs H) : RT d 22 [] H = some (.bool true, H) := (RT_flat rfl d _ H).trans (chk_pos ⟨rfl, hT⟩ _)
theorem Tabs.ext {N : Nat} {H H1 : AH} (h : Tabs H) (hx : Ext N H H1) (hN : 2 ≤ N) : Tabs H1 := by
  obtain ⟨⟨e, he⟩, ⟨e', he'⟩, h2⟩ := h
  exact ⟨⟨e, by rw [hx.low 0 (by omega)]; exact he⟩, ⟨e', by rw [hx.low 1 (by omega)]; exact he'⟩, Nat.le_trans hN hx.next⟩
theorem R3 (d : Nat) (x0 : AV) (H : AH) : RT (d + 1) 3 [x0] H = F3 (RT d) (iter big) x0 H := (RT_run rfl d _ H).trans (F3_eq _ _ x0 H)
theorem R4 (d : Nat) (x0 : AV) (x1 : AV) (H : AH) : RT (d + 1) 4 [x0, x1] H = F4 (RT d) (iter big) x0 x1 H := (RT_run rfl d _ H).trans (F4_eq _ _ x0 x1 H)
theorem R20 (d : Nat) (x0 : AV) (H : AH) : RT (d + 1) 20 [x0] H = F20 (RT d) (iter big) x0 H := (RT_run rfl d _ H).trans (F20_eq _ _ x0 H)
theorem R21 (d : Nat) (x0 : AV) (H : AH) : RT (d + 1) 21 [x0] H = F21 (RT d) (iter big) x0 H := (RT_run rfl d _ H).trans (F21_eq _ _ x0 H)
theorem R24 (d : Nat) (x0 : AV) (H : AH) : RT (d + 1) 24 [x0] H = F24 (RT d) (iter big) x0 H := (RT_run rfl d _ H).trans (F24_eq _ _ x0 H)
theorem R67 (d : Nat) (x0 : AV) (H : AH) : RT (d + 1) 67 [x0] H = F67 (RT d) (iter big) x0 H := (RT_run rfl d _ H).trans (F67_eq _ _ x0 H)
theorem R68 (d : Nat) (x0 : AV) (H : AH) : RT (d + 1) 68 [x0] H = F68 (RT d) (iter big) x0 H := (RT_run rfl d _ H).trans (F68_eq _ _ x0 H)
theorem R94 (d : Nat) (x0 : AV) (x1 : AV) (H : AH) : RT (d + 1) 94 [x0, x1] H = F94 (RT d) (iter big) x0 x1 H := (RT_run rfl d _ H).trans (F94_eq _ _ x0 x1 H)
theorem R116 (d : Nat) (x0 : AV) (x1 : AV) (x2 : AV) (H : AH) : RT (d + 1) 116 [x0, x1, x2] H = F116 (RT d) (iter big) x0 x1 x2 H := (RT_run rfl d _ H).trans (F116_eq _ _ x0 x1 x2 H)
theorem R117 (d : Nat) (x0 : AV) (x1 : AV) (H : AH) : RT (d + 1) 117 [x0, x1] H = F117 (RT d) (iter big) x0 x1 H := (RT_run rfl d _ H).trans (F117_eq _ _ x0 x1 H)
theorem R118 (d : Nat) (x0 : AV) (x1 : AV) (H : AH) : RT (d + 1) 118 [x0, x1] H = F118 (RT d) (iter big) x0 x1 H := (RT_run rfl d _ H).trans (F118_eq _ _ x0 x1 H)
theorem R137 (d : Nat) (x0 : AV) (H : AH) : RT (d + 1) 137 [x0] H = F137 (RT d) (iter big) x0 H := (RT_run rfl d _ H).trans (F137_eq _ _ x0 H)
theorem R138 (d : Nat) (x0 : AV) (x1 : AV) (x2 : AV) (H : AH) : RT (d + 1) 138 [x0, x1, x2] H = F138 (RT d) (iter big) x0 x1 x2 H := (RT_run rfl d _ H).trans (F138_eq _ _ x0 x1 x2 H)
theorem R139 (d : Nat) (x0 : AV) (H : AH) : RT (d + 1) 139 [x0] H = F139 (RT d) (iter big) x0 H := (RT_run rfl d _ H).trans (F139_eq _ _ x0 H)
theorem R140 (d : Nat) (x0 : AV) (H : AH) : RT (d + 1) 140 [x0] H = F140 (RT d) (iter big) x0 H := (RT_run rfl d _ H).trans (F140_eq _ _ x0 H)
end Go.Proofs.YthiflgncldmkjaaDoor
/- The lines of a code, both ways. -/
set_option linter.unusedVariables false
set_option linter.unusedSimpArgs false
set_option maxRecDepth 100000
namespace Go.Ri
/-- A loop that counts: from 0 to n. -/
theorem Ret.upTo {g : St → Option (Ex × St)} {n m : Nat} {s : St} {Q : Ex × St → Prop} (I : Nat → St → Prop) (hm : n < m) (h0 : I 0 s)
    (hs : ∀ i s, i < n → I i s → Ret (g s) fun r => (r.1 = .normal ∧ I (i + 1) r.2) ∨ (r.1 ≠ .normal ∧ Q r)) (he : ∀ s, I n s → Ret (g s) fun r => r.1 ≠ .normal ∧ Q r) : Ret (Ri.iter m g s) Q := by
  refine Ret.iter (fun f s => ∃ i, i ≤ n ∧ f = n + 1 - i ∧ I i s) Q ?_ (fun s ⟨i, h1, h2, _⟩ => by omega) (n + 1) m s (by omega) ⟨0, by omega, by omega, h0⟩
  rintro j s ⟨i, hi, hj, hI⟩
  by_cases h : i < n
  · refine (hs i s h hI).mono ?_
    rintro r (⟨h1, h2⟩ | h)
    · exact .inl ⟨h1, i + 1, by omega, by omega, h2⟩
    · exact .inr h
  · have : i = n := by omega
    subst this
    exact (he s hI).mono fun r h => .inr h
theorem byteInts_map (l : List Int) : byteInts (l.map (.int .u8)) = some l := by
  induction l with
  | nil => rfl
  | cons x l ih => simp [byteInts, ih]
end Go.Ri
namespace Go.Proofs.YthiflgncldmkjaaDoor
open Go.Ri

structure Ins where
  op : Int
  n : Int
  m : Int
  deriving DecidableEq
structure Ins.Ok (i : Ins) : Prop where
  op : InI i.op
  n : InI i.n
  m : InI i.m
def insC (i : Ins) : List AV := [.int .i64 i.op, .int .i64 i.n, .int .i64 i.m]
theorem insC_len (l : List Ins) : ∀ x ∈ l.map insC, x.length = 3 := by
  intro x hx
  simp only [List.mem_map] at hx
  obtain ⟨i, _, rfl⟩ := hx
  rfl
/-- A row of instructions. -/
def InsRow (H : AH) (s : AV) (l : List Ins) : Prop := Row H s 3 (l.map insC) ∧ ∀ i ∈ l, i.Ok
theorem wrapS {i : Nat} (h : i < 9223372036854775807) : IntKind.i64.wrap ((i : Nat) + 1) = ((i + 1 : Nat) : Int) := by
  rw [wrap_id (by unfold InI; omega)]
  omega
theorem ltN {i n : Nat} : decide (((i : Nat) : Int) < ((n : Nat) : Int)) = decide (i < n) := by
  by_cases h : i < n
  · rw [decide_eq_true h, decide_eq_true (by omega)]
  · rw [decide_eq_false h, decide_eq_false (by omega)]

/-! ### Bytes of one's own -/
def Bytes (N : Nat) (H : AH) (s : AV) (l : List Int) : Prop := Own N 1 5 H s (U8 l)
theorem Bytes.one {N : Nat} {H0 H : AH} {s : AV} {l : List Int} {x : Int} (hs : Bytes N H s l) (he : Ext N H0 H) (hlim : l.length < 1000000000000) :
    Ret (aAppend Tryd.prog 87 87 s (.slice (some (H.next, 0)) 1 (.kn 1)) (H.new [.int .u8 x] 5)) fun r => Bytes N r.2 r.1 (l ++ [x]) ∧ Ext N H0 r.2 := by
  refine (app_el (ds := [.int .u8 x]) ysl87 hs he rfl (by simp [U8]; omega)).mono ?_
  rintro r ⟨h1, h2, _⟩
  exact ⟨by simpa [Bytes, U8] using h1, h2⟩
theorem Bytes.str {N : Nat} {H0 H : AH} {s : AV} {l : List Int} {x : ByteArray} (hs : Bytes N H s l) (he : Ext N H0 H) (hlim : l.length + x.size < 1000000000000) :
    Ret (aAppend Tryd.prog 87 9 s (.str x) H) fun r => Bytes N r.2 r.1 (l ++ byteL x) ∧ Ext N H0 r.2 := by
  have hlen : (strCells x).length = x.size := by rw [strCells_eq, U8, List.length_map, byteL_length]
  refine (app_own (n := x.size) (ds := strCells x) ysl87 seq9 hs he rfl ?_ (by omega) (by rw [hlen]; simp [U8]; omega)).mono ?_
  · unfold srcN
    cases hx : x.size with
    | zero =>
      simp only []
      congr 1
      exact (List.eq_nil_of_length_eq_zero (by rw [hlen, hx])).symm
    | succ n =>
      simp only []
      rw [if_pos ⟨hx.symm, trivial⟩]
  · rintro r ⟨h1, h2, _⟩
    rw [strCells_eq] at h1
    exact ⟨by simpa [Bytes, U8] using h1, h2⟩
theorem Bytes.read {N : Nat} {H : AH} {s : AV} {l : List Int} (hs : Bytes N H s l) : cvBytes s H = some (.str (strOfNums l)) := by
  rcases hs with ⟨rfl, h⟩ | ⟨b, n, c, B, rfl, _, hl, hb, _, _, hbl, ht, _⟩
  · have : l = [] := by simpa [U8] using h
    subst this
    rfl
  · rw [Nat.mul_one] at *
    simp only [cvBytes, AH.ldN, hb, Option.bind_some, Nat.zero_add, if_pos hbl, List.drop_zero, ht, U8, byteInts_map, Option.map_some]

def lineT (i : Ins) : List Int := (lineOf i.op i.n i.m).getD [63]
theorem joinL_size {op n m : Int} : (joinL 0 (lineWords op n m)).length ≤ 100 := by
  have h := lineWords_size (op := op) (n := n) (m := m)
  have h1 := txt_size n
  have h2 := txt_size m
  have h3 := wordOf_size op
  rcases nums_three op with hnm | hnm | hnm <;> simp [lineWords, hnm, joinL, byteL_length] <;> omega
theorem lineT_length (i : Ins) : (lineT i).length ≤ 100 := by
  unfold lineT lineOf
  split
  · decide
  · split
    · decide
    · exact joinL_size
def rowT (k : Nat) (i : Ins) : List Int := txt k ++ [32] ++ lineT i ++ [10]
def printT : Nat → List Ins → List Int
  | _, [] => []
  | k, i :: l => rowT k i ++ printT (k + 1) l
theorem printT_append : ∀ (k : Nat) (l : List Ins) (i : Ins), printT k (l ++ [i]) = printT k l ++ rowT (k + l.length) i
  | k, [], i => by simp [printT]
  | k, x :: l, i => by
    simp only [List.cons_append, printT, printT_append (k + 1) l i, List.length_cons]
    rw [show k + 1 + l.length = k + (l.length + 1) by omega]
    simp
theorem printT_take (l : List Ins) (k : Nat) (h : k < l.length) : printT 0 (l.take (k + 1)) = printT 0 (l.take k) ++ rowT k l[k] := by
  rw [List.take_succ_eq_append_getElem h, printT_append]
  simp [Nat.min_eq_left (Nat.le_of_lt h)]
theorem rowT_length (k : Nat) (i : Ins) : (rowT k i).length ≤ 122 := by
  have h1 := txt_length k
  have h2 := lineT_length i
  simp [rowT]
  omega
theorem printT_length : ∀ (k : Nat) (l : List Ins), (printT k l).length ≤ l.length * 122
  | k, [] => by simp [printT]
  | k, i :: l => by
    have h1 := rowT_length k i
    have h2 := printT_length (k + 1) l
    simp only [printT, List.length_append, List.length_cons]
    omega
theorem byteL_small (l : List Int) (h : ∀ n ∈ l, 0 ≤ n ∧ n < 256) : byteL (strOfNums l) = l := byteL_str l h
theorem joinL_small : ∀ (i : Nat) (l : List ByteArray), ∀ n ∈ joinL i l, 0 ≤ n ∧ n < 256
  | i, [], n, h => by simp [joinL] at h
  | i, s :: l, n, h => by
    simp only [joinL, List.mem_append] at h
    rcases h with (h | h) | h
    · split at h
      · simp at h; omega
      · simp at h
    · simp only [byteL, List.mem_map] at h
      obtain ⟨y, _, rfl⟩ := h
      have := y.toNat_lt
      omega
    · exact joinL_small (i + 1) l n h
theorem lineT_small (i : Ins) : ∀ n ∈ lineT i, 0 ≤ n ∧ n < 256 := by
  unfold lineT lineOf
  split
  · simp
  · split
    · simp
    · exact joinL_small 0 _
theorem lineAV_T (i : Ins) : ∃ x e, lineAV i.op i.n i.m = .tuple [.str x, .int .i64 e] ∧ (if e = 0 then x else ⟨#[63]⟩) = strOfNums (lineT i) := by
  unfold lineAV lineT
  cases lineOf i.op i.n i.m with
  | none => exact ⟨_, _, rfl, rfl⟩
  | some l => exact ⟨_, _, rfl, rfl⟩

/-- What every round of Print asks of the state. -/
def PrintI (H : AH) (s : AV) (l : List Ins) (i : Nat) (t : St) : Prop :=
  t.1 9 = s ∧ t.1 10 = .int .i64 (l.length : Nat) ∧ t.1 11 = .int .i64 (i : Nat) ∧ Bytes H.next t.2 (t.1 3) (printT 0 (l.take i)) ∧ Ext H.next H t.2
theorem print_tail (d : Nat) {H : AH} {s : AV} {l : List Ins} (hlen : l.length ≤ 1000) {i : Nat} (hi : i < l.length) {T : Tm} {H1 : AH} (hI : PrintI H s l i (T, H1)) (t4 : T 4 = .int .i64 (i : Nat)) (t6 : T 6 = .str (strOfNums (lineT l[i]))) :
    Ret (F20_J0 (RT d) (Ri.iter big) T H1) fun r => r.1 = .normal ∧ PrintI H s l (i + 1) r.2 := by
  obtain ⟨t9, t10, t11, hb, hx⟩ := hI
  simp only at t9 t10 t11 hb hx
  have hin : InI ((i : Nat) : Int) := by unfold InI; omega
  have hpl := printT_length 0 (l.take i)
  have hpl' : (printT 0 (l.take i)).length ≤ 122000 := by
    have : (l.take i).length ≤ 1000 := by simp; omega
    omega
  have hll := lineT_length l[i]
  have htl := txt_length ((i : Nat) : Int)
  have hts := txt_size ((i : Nat) : Int)
  have hls : (strOfNums (lineT l[i])).size ≤ 100 := by rw [strOfNums_size]; exact hll
  unfold F20_J0
  simp -implicitDefEqProofs only [go_sem, Nat.reduceAdd, Nat.reduceMul, Nat.reduceLT, Nat.reduceLeDiff, Nat.reduceEqDiff, Nat.reduceBEq, reduceCtorEq, Int.reduceLT, Int.reduceLE, Int.reduceEq, Int.reduceGT, Int.reduceGE, Int.reduceToNat, Int.reduceNeg, t4, t6, RT_62 d hin]
  refine ret_bind ((Bytes.str hb hx (by omega)).mono ?_)
  rintro ⟨s1, H2⟩ ⟨hb1, hx1⟩
  simp only at hb1 hx1
  simp -implicitDefEqProofs only [go_sem, Nat.reduceAdd, Nat.reduceMul, Nat.reduceLT, Nat.reduceLeDiff, Nat.reduceEqDiff, Nat.reduceBEq, reduceCtorEq, Int.reduceLT, Int.reduceLE, Int.reduceEq, Int.reduceGT, Int.reduceGE, Int.reduceToNat, Int.reduceNeg, bs87]
  refine ret_bind ((Bytes.one (x := 32) hb1 hx1 (by simp [byteL_length]; omega)).mono ?_)
  rintro ⟨s2, H3⟩ ⟨hb2, hx2⟩
  simp only at hb2 hx2
  simp -implicitDefEqProofs only [go_sem, Nat.reduceAdd, Nat.reduceMul, Nat.reduceLT, Nat.reduceLeDiff, Nat.reduceEqDiff, Nat.reduceBEq, reduceCtorEq, Int.reduceLT, Int.reduceLE, Int.reduceEq, Int.reduceGT, Int.reduceGE, Int.reduceToNat, Int.reduceNeg]
  refine ret_bind ((Bytes.str hb2 hx2 (by simp [byteL_length]; omega)).mono ?_)
  rintro ⟨s3, H4⟩ ⟨hb3, hx3⟩
  simp only at hb3 hx3
  simp -implicitDefEqProofs only [go_sem, Nat.reduceAdd, Nat.reduceMul, Nat.reduceLT, Nat.reduceLeDiff, Nat.reduceEqDiff, Nat.reduceBEq, reduceCtorEq, Int.reduceLT, Int.reduceLE, Int.reduceEq, Int.reduceGT, Int.reduceGE, Int.reduceToNat, Int.reduceNeg, bs87]
  refine ret_bind ((Bytes.one (x := 10) hb3 hx3 (by simp [byteL_length]; omega)).mono ?_)
  rintro ⟨s4, H5⟩ ⟨hb4, hx4⟩
  simp only at hb4 hx4
  simp -implicitDefEqProofs only [go_sem, Nat.reduceAdd, Nat.reduceMul, Nat.reduceLT, Nat.reduceLeDiff, Nat.reduceEqDiff, Nat.reduceBEq, reduceCtorEq, Int.reduceLT, Int.reduceLE, Int.reduceEq, Int.reduceGT, Int.reduceGE, Int.reduceToNat, Int.reduceNeg, t11, wrapS (i := i) (by omega)]
  refine .mk ⟨rfl, ?_, ?_, ?_, ?_, hx4⟩
  · simp -implicitDefEqProofs only [go_sem, Nat.reduceAdd, Nat.reduceMul, Nat.reduceLT, Nat.reduceLeDiff, Nat.reduceEqDiff, Nat.reduceBEq, reduceCtorEq, Int.reduceLT, Int.reduceLE, Int.reduceEq, Int.reduceGT, Int.reduceGE, Int.reduceToNat, Int.reduceNeg, t9]
  · simp -implicitDefEqProofs only [go_sem, Nat.reduceAdd, Nat.reduceMul, Nat.reduceLT, Nat.reduceLeDiff, Nat.reduceEqDiff, Nat.reduceBEq, reduceCtorEq, Int.reduceLT, Int.reduceLE, Int.reduceEq, Int.reduceGT, Int.reduceGE, Int.reduceToNat, Int.reduceNeg, t10]
  · simp -implicitDefEqProofs only [go_sem, Nat.reduceAdd, Nat.reduceMul, Nat.reduceLT, Nat.reduceLeDiff, Nat.reduceEqDiff, Nat.reduceBEq, reduceCtorEq, Int.reduceLT, Int.reduceLE, Int.reduceEq, Int.reduceGT, Int.reduceGE, Int.reduceToNat, Int.reduceNeg]
  · simp -implicitDefEqProofs only [go_sem, Nat.reduceAdd, Nat.reduceMul, Nat.reduceLT, Nat.reduceLeDiff, Nat.reduceEqDiff, Nat.reduceBEq, reduceCtorEq, Int.reduceLT, Int.reduceLE, Int.reduceEq, Int.reduceGT, Int.reduceGE, Int.reduceToNat, Int.reduceNeg]
    rw [printT_take l i hi]
    rw [byteL_str _ (txt_small _), byteL_str _ (lineT_small _)] at hb4
    simpa [rowT] using hb4

theorem print_code (d : Nat) {H : AH} (hw : H.wf) (hT : Tabs H) {s : AV} {l : List Ins} (hl : InsRow H s l) (hlen : l.length ≤ 1000) (a b c : AV) :
    Ret (RT (d + 1) 20 [.agg [s, a, b, c]] H) fun r => r.1 = .str (strOfNums (printT 0 l)) ∧ Ext H.next H r.2 := by
  rw [R20]
  unfold F20
  obtain ⟨hrow, hok⟩ := hl
  have hs : aLen Tryd.prog 22 s = some (.int .i64 (l.length : Nat)) := by rw [hrow.alen ysl22.under, List.length_map]
  simp -implicitDefEqProofs only [go_sem, Nat.reduceAdd, Nat.reduceMul, Nat.reduceLT, Nat.reduceLeDiff, Nat.reduceEqDiff, Nat.reduceBEq, reduceCtorEq, Int.reduceLT, Int.reduceLE, Int.reduceEq, Int.reduceGT, Int.reduceGE, Int.reduceToNat, Int.reduceNeg, hs]
  have hx0 : Ext H.next H (H.new [s, a, b, c] 24) := (Ext.refl hw).new _ _
  refine Ret.then (Q' := fun r => r.1 = .exit 0 ∧ Bytes H.next r.2.2 (r.2.1 3) (printT 0 l) ∧ Ext H.next H r.2.2) ?_ ?_
  · refine Ret.upTo (n := l.length) (PrintI H s l) (by unfold big; omega) ?_ ?_ ?_
    · refine ⟨?_, ?_, ?_, ?_, hx0⟩
      · simp -implicitDefEqProofs only [go_sem, Nat.reduceAdd, Nat.reduceMul, Nat.reduceLT, Nat.reduceLeDiff, Nat.reduceEqDiff, Nat.reduceBEq, reduceCtorEq, Int.reduceLT, Int.reduceLE, Int.reduceEq, Int.reduceGT, Int.reduceGE, Int.reduceToNat, Int.reduceNeg, hs]
      · simp -implicitDefEqProofs only [go_sem, Nat.reduceAdd, Nat.reduceMul, Nat.reduceLT, Nat.reduceLeDiff, Nat.reduceEqDiff, Nat.reduceBEq, reduceCtorEq, Int.reduceLT, Int.reduceLE, Int.reduceEq, Int.reduceGT, Int.reduceGE, Int.reduceToNat, Int.reduceNeg]
      · simp -implicitDefEqProofs only [go_sem, Nat.reduceAdd, Nat.reduceMul, Nat.reduceLT, Nat.reduceLeDiff, Nat.reduceEqDiff, Nat.reduceBEq, reduceCtorEq, Int.reduceLT, Int.reduceLE, Int.reduceEq, Int.reduceGT, Int.reduceGE, Int.reduceToNat, Int.reduceNeg]
        rfl
      · simp -implicitDefEqProofs only [go_sem, Nat.reduceAdd, Nat.reduceMul, Nat.reduceLT, Nat.reduceLeDiff, Nat.reduceEqDiff, Nat.reduceBEq, reduceCtorEq, Int.reduceLT, Int.reduceLE, Int.reduceEq, Int.reduceGT, Int.reduceGE, Int.reduceToNat, Int.reduceNeg]
        exact Own.nil _ _ _ _
    · rintro i ⟨T, H1⟩ hi ⟨t9, t10, t11, hb, hx⟩
      simp only at t9 t10 t11 hb hx
      have hsub := hx.sub hw
      obtain ⟨p, o, e1, e2, _⟩ := (hrow.mono hsub).at (i := i) (by simpa using hi)
      have hT1 := hT.ext hx hT.two
      have hii := hok l[i] (List.getElem_mem _)
      unfold F20_L1
      have hin : insC l[i] = [.int .i64 l[i].op, .int .i64 l[i].n, .int .i64 l[i].m] := rfl
      simp only [List.getElem_map] at e2
      rw [hin] at e2
      obtain ⟨x, e, hx1, hx2⟩ := lineAV_T l[i]
      have hx1' := hx.new [.int .i64 0, .int .i64 0, .int .i64 0] 29
      have hput := fun B => Ext.put hx1' (b := H1.next) hx.next (by simp only [new_next]; omega) B
      have hTp := fun B => hT.ext (hput B) hT.two
      have h23 := fun B => RT_23 d (op := l[i].op) hii.n hii.m (hTp B)
      have hcmp : decide (((i : Nat) : Int) < ((l.length : Nat) : Int)) = true := decide_eq_true (by omega)
      have hbp : ∀ B, Bytes H.next ((H1.new [.int .i64 0, .int .i64 0, .int .i64 0] 29).put H1.next B) (T 3) (printT 0 (l.take i)) := fun B => Own.keep hb hx.wf fun b hbb => by
        have : b ≠ H1.next := by omega
        simp [this]
      simp -implicitDefEqProofs only [go_sem, Nat.reduceAdd, Nat.reduceMul, Nat.reduceLT, Nat.reduceLeDiff, Nat.reduceEqDiff, Nat.reduceBEq, reduceCtorEq, Int.reduceLT, Int.reduceLE, Int.reduceEq, Int.reduceGT, Int.reduceGE, Int.reduceToNat, Int.reduceNeg, t9, t10, t11, e1, e2, hcmp, h23, hx1]
      by_cases he : e = 0
      · simp -implicitDefEqProofs only [go_sem, Nat.reduceAdd, Nat.reduceMul, Nat.reduceLT, Nat.reduceLeDiff, Nat.reduceEqDiff, Nat.reduceBEq, reduceCtorEq, Int.reduceLT, Int.reduceLE, Int.reduceEq, Int.reduceGT, Int.reduceGE, Int.reduceToNat, Int.reduceNeg, decide_eq_true he]
        rw [if_pos he] at hx2
        refine (print_tail d hlen hi ⟨?_, ?_, ?_, ?_, hput _⟩ ?_ ?_).mono fun r h => .inl h
        · simp -implicitDefEqProofs only [go_sem, Nat.reduceAdd, Nat.reduceMul, Nat.reduceLT, Nat.reduceLeDiff, Nat.reduceEqDiff, Nat.reduceBEq, reduceCtorEq, Int.reduceLT, Int.reduceLE, Int.reduceEq, Int.reduceGT, Int.reduceGE, Int.reduceToNat, Int.reduceNeg, t9]
        · simp -implicitDefEqProofs only [go_sem, Nat.reduceAdd, Nat.reduceMul, Nat.reduceLT, Nat.reduceLeDiff, Nat.reduceEqDiff, Nat.reduceBEq, reduceCtorEq, Int.reduceLT, Int.reduceLE, Int.reduceEq, Int.reduceGT, Int.reduceGE, Int.reduceToNat, Int.reduceNeg, t10]
        · simp -implicitDefEqProofs only [go_sem, Nat.reduceAdd, Nat.reduceMul, Nat.reduceLT, Nat.reduceLeDiff, Nat.reduceEqDiff, Nat.reduceBEq, reduceCtorEq, Int.reduceLT, Int.reduceLE, Int.reduceEq, Int.reduceGT, Int.reduceGE, Int.reduceToNat, Int.reduceNeg, t11]
        · simp -implicitDefEqProofs only [go_sem, Nat.reduceAdd, Nat.reduceMul, Nat.reduceLT, Nat.reduceLeDiff, Nat.reduceEqDiff, Nat.reduceBEq, reduceCtorEq, Int.reduceLT, Int.reduceLE, Int.reduceEq, Int.reduceGT, Int.reduceGE, Int.reduceToNat, Int.reduceNeg]
          exact hbp _
        · simp -implicitDefEqProofs only [go_sem, Nat.reduceAdd, Nat.reduceMul, Nat.reduceLT, Nat.reduceLeDiff, Nat.reduceEqDiff, Nat.reduceBEq, reduceCtorEq, Int.reduceLT, Int.reduceLE, Int.reduceEq, Int.reduceGT, Int.reduceGE, Int.reduceToNat, Int.reduceNeg]
        · simp -implicitDefEqProofs only [go_sem, Nat.reduceAdd, Nat.reduceMul, Nat.reduceLT, Nat.reduceLeDiff, Nat.reduceEqDiff, Nat.reduceBEq, reduceCtorEq, Int.reduceLT, Int.reduceLE, Int.reduceEq, Int.reduceGT, Int.reduceGE, Int.reduceToNat, Int.reduceNeg, hx2]
      · simp -implicitDefEqProofs only [go_sem, Nat.reduceAdd, Nat.reduceMul, Nat.reduceLT, Nat.reduceLeDiff, Nat.reduceEqDiff, Nat.reduceBEq, reduceCtorEq, Int.reduceLT, Int.reduceLE, Int.reduceEq, Int.reduceGT, Int.reduceGE, Int.reduceToNat, Int.reduceNeg, decide_eq_false he]
        rw [if_neg he] at hx2
        refine (print_tail d hlen hi ⟨?_, ?_, ?_, ?_, hput _⟩ ?_ ?_).mono fun r h => .inl h
        · simp -implicitDefEqProofs only [go_sem, Nat.reduceAdd, Nat.reduceMul, Nat.reduceLT, Nat.reduceLeDiff, Nat.reduceEqDiff, Nat.reduceBEq, reduceCtorEq, Int.reduceLT, Int.reduceLE, Int.reduceEq, Int.reduceGT, Int.reduceGE, Int.reduceToNat, Int.reduceNeg, t9]
        · simp -implicitDefEqProofs only [go_sem, Nat.reduceAdd, Nat.reduceMul, Nat.reduceLT, Nat.reduceLeDiff, Nat.reduceEqDiff, Nat.reduceBEq, reduceCtorEq, Int.reduceLT, Int.reduceLE, Int.reduceEq, Int.reduceGT, Int.reduceGE, Int.reduceToNat, Int.reduceNeg, t10]
        · simp -implicitDefEqProofs only [go_sem, Nat.reduceAdd, Nat.reduceMul, Nat.reduceLT, Nat.reduceLeDiff, Nat.reduceEqDiff, Nat.reduceBEq, reduceCtorEq, Int.reduceLT, Int.reduceLE, Int.reduceEq, Int.reduceGT, Int.reduceGE, Int.reduceToNat, Int.reduceNeg, t11]
        · simp -implicitDefEqProofs only [go_sem, Nat.reduceAdd, Nat.reduceMul, Nat.reduceLT, Nat.reduceLeDiff, Nat.reduceEqDiff, Nat.reduceBEq, reduceCtorEq, Int.reduceLT, Int.reduceLE, Int.reduceEq, Int.reduceGT, Int.reduceGE, Int.reduceToNat, Int.reduceNeg]
          exact hbp _
        · simp -implicitDefEqProofs only [go_sem, Nat.reduceAdd, Nat.reduceMul, Nat.reduceLT, Nat.reduceLeDiff, Nat.reduceEqDiff, Nat.reduceBEq, reduceCtorEq, Int.reduceLT, Int.reduceLE, Int.reduceEq, Int.reduceGT, Int.reduceGE, Int.reduceToNat, Int.reduceNeg]
        · simp -implicitDefEqProofs only [go_sem, Nat.reduceAdd, Nat.reduceMul, Nat.reduceLT, Nat.reduceLeDiff, Nat.reduceEqDiff, Nat.reduceBEq, reduceCtorEq, Int.reduceLT, Int.reduceLE, Int.reduceEq, Int.reduceGT, Int.reduceGE, Int.reduceToNat, Int.reduceNeg, hx2]
    · rintro ⟨T, H1⟩ ⟨t9, t10, t11, hb, hx⟩
      simp only at t9 t10 t11 hb hx
      rw [List.take_of_length_le (Nat.le_refl _)] at hb
      unfold F20_L1
      have hcmp : decide (((l.length : Nat) : Int) < ((l.length : Nat) : Int)) = false := decide_eq_false (by omega)
      simp -implicitDefEqProofs only [go_sem, Nat.reduceAdd, Nat.reduceMul, Nat.reduceLT, Nat.reduceLeDiff, Nat.reduceEqDiff, Nat.reduceBEq, reduceCtorEq, Int.reduceLT, Int.reduceLE, Int.reduceEq, Int.reduceGT, Int.reduceGE, Int.reduceToNat, Int.reduceNeg, t9, t10, t11, hcmp]
      refine .mk ⟨by simp, rfl, ?_, hx⟩
      simp -implicitDefEqProofs only [go_sem, Nat.reduceAdd, Nat.reduceMul, Nat.reduceLT, Nat.reduceLeDiff, Nat.reduceEqDiff, Nat.reduceBEq, reduceCtorEq, Int.reduceLT, Int.reduceLE, Int.reduceEq, Int.reduceGT, Int.reduceGE, Int.reduceToNat, Int.reduceNeg]
      exact hb
  · rintro ⟨e, T, H1⟩ ⟨he, hb, hx⟩
    simp only at he hb hx
    subst he
    simp -implicitDefEqProofs only [go_sem, Nat.reduceAdd, Nat.reduceMul, Nat.reduceLT, Nat.reduceLeDiff, Nat.reduceEqDiff, Nat.reduceBEq, reduceCtorEq, Int.reduceLT, Int.reduceLE, Int.reduceEq, Int.reduceGT, Int.reduceGE, Int.reduceToNat, Int.reduceNeg, hb.read]
    exact .mk ⟨rfl, hx⟩
end Go.Proofs.YthiflgncldmkjaaDoor
/- The document's lines of a code; the law CodePrints. -/
set_option linter.unusedVariables false
set_option linter.unusedSimpArgs false
set_option maxRecDepth 100000
namespace Go.Proofs.YthiflgncldmkjaaDoor
open Go.Ri

def PrintJ (s a b c : AV) (l : List Ins) (H : AH) (i : Nat) (t : St) : Prop :=
  t.1 1 = .ptr (some (H.next, 0)) ∧ t.1 3 = .str (strOfNums (printT 0 (l.take i))) ∧ t.1 4 = .int .i64 (i : Nat) ∧ t.2 = H.new [s, a, b, c] 24
theorem ref_tail (d : Nat) {H : AH} {s a b c : AV} {l : List Ins} (hlen : l.length ≤ 1000) {i : Nat} (hi : i < l.length) {T : Tm} {H1 : AH} (hI : PrintJ s a b c l H i (T, H1)) (t5 : T 5 = .str (strOfNums (lineT l[i]))) :
    Ret (F21_J0 (RT d) (Ri.iter big) T H1) fun r => r.1 = .normal ∧ PrintJ s a b c l H (i + 1) r.2 := by
  obtain ⟨t1, t3, t4, hH⟩ := hI
  simp only at t1 t3 t4 hH
  have hin : InI ((i : Nat) : Int) := by unfold InI; omega
  have hpl := printT_length 0 (l.take i)
  have hpl' : (strOfNums (printT 0 (l.take i))).size ≤ 122000 := by
    rw [strOfNums_size]
    have : (l.take i).length ≤ 1000 := by simp; omega
    omega
  have hts := txt_size ((i : Nat) : Int)
  have hls : (strOfNums (lineT l[i])).size ≤ 100 := by rw [strOfNums_size]; exact lineT_length l[i]
  have e32 : (⟨#[32]⟩ : ByteArray) = strOfNums [32] := rfl
  have e10 : (⟨#[10]⟩ : ByteArray) = strOfNums [10] := rfl
  have cat : ∀ (t : TypeId) (x y : List Int), x.length + y.length ≤ 1000000000000 → aBin Tryd.prog .add t (.str (strOfNums x)) (.str (strOfNums y)) = some (.str (strOfNums (x ++ y))) := fun t x y h => by
    rw [cat_str _ _ _ (by rw [strOfNums_size, strOfNums_size]; exact h), str_append]
  rw [strOfNums_size] at hpl' hts hls
  unfold F21_J0
  simp -implicitDefEqProofs only [go_sem, Nat.reduceAdd, Nat.reduceMul, Nat.reduceLT, Nat.reduceLeDiff, Nat.reduceEqDiff, Nat.reduceBEq, reduceCtorEq, Int.reduceLT, Int.reduceLE, Int.reduceEq, Int.reduceGT, Int.reduceGE, Int.reduceToNat, Int.reduceNeg, t3, t4, t5, RT_64 d hin, e32, e10]
  rw [cat _ _ _ (by omega)]
  simp -implicitDefEqProofs only [go_sem, Nat.reduceAdd, Nat.reduceMul, Nat.reduceLT, Nat.reduceLeDiff, Nat.reduceEqDiff, Nat.reduceBEq, reduceCtorEq, Int.reduceLT, Int.reduceLE, Int.reduceEq, Int.reduceGT, Int.reduceGE, Int.reduceToNat, Int.reduceNeg]
  rw [cat _ _ _ (by simp; omega)]
  simp -implicitDefEqProofs only [go_sem, Nat.reduceAdd, Nat.reduceMul, Nat.reduceLT, Nat.reduceLeDiff, Nat.reduceEqDiff, Nat.reduceBEq, reduceCtorEq, Int.reduceLT, Int.reduceLE, Int.reduceEq, Int.reduceGT, Int.reduceGE, Int.reduceToNat, Int.reduceNeg]
  rw [cat _ _ _ (by simp; omega)]
  simp -implicitDefEqProofs only [go_sem, Nat.reduceAdd, Nat.reduceMul, Nat.reduceLT, Nat.reduceLeDiff, Nat.reduceEqDiff, Nat.reduceBEq, reduceCtorEq, Int.reduceLT, Int.reduceLE, Int.reduceEq, Int.reduceGT, Int.reduceGE, Int.reduceToNat, Int.reduceNeg]
  rw [cat _ _ _ (by simp; omega)]
  simp -implicitDefEqProofs only [go_sem, Nat.reduceAdd, Nat.reduceMul, Nat.reduceLT, Nat.reduceLeDiff, Nat.reduceEqDiff, Nat.reduceBEq, reduceCtorEq, Int.reduceLT, Int.reduceLE, Int.reduceEq, Int.reduceGT, Int.reduceGE, Int.reduceToNat, Int.reduceNeg, wrapS (i := i) (by omega)]
  refine .mk ⟨rfl, ?_, ?_, ?_, hH⟩
  · simp -implicitDefEqProofs only [go_sem, Nat.reduceAdd, Nat.reduceMul, Nat.reduceLT, Nat.reduceLeDiff, Nat.reduceEqDiff, Nat.reduceBEq, reduceCtorEq, Int.reduceLT, Int.reduceLE, Int.reduceEq, Int.reduceGT, Int.reduceGE, Int.reduceToNat, Int.reduceNeg, t1]
  · simp -implicitDefEqProofs only [go_sem, Nat.reduceAdd, Nat.reduceMul, Nat.reduceLT, Nat.reduceLeDiff, Nat.reduceEqDiff, Nat.reduceBEq, reduceCtorEq, Int.reduceLT, Int.reduceLE, Int.reduceEq, Int.reduceGT, Int.reduceGE, Int.reduceToNat, Int.reduceNeg]
    rw [printT_take l i hi]
    simp [rowT]
  · simp -implicitDefEqProofs only [go_sem, Nat.reduceAdd, Nat.reduceMul, Nat.reduceLT, Nat.reduceLeDiff, Nat.reduceEqDiff, Nat.reduceBEq, reduceCtorEq, Int.reduceLT, Int.reduceLE, Int.reduceEq, Int.reduceGT, Int.reduceGE, Int.reduceToNat, Int.reduceNeg]

theorem print_ref (d : Nat) {H : AH} (hw : H.wf) (hT : Tabs H) {s : AV} {l : List Ins} (hl : InsRow H s l) (hlen : l.length ≤ 1000) (a b c : AV) :
    Ret (RT (d + 1) 21 [.agg [s, a, b, c]] H) fun r => r.1 = .str (strOfNums (printT 0 l)) ∧ Ext H.next H r.2 := by
  rw [R21]
  unfold F21
  obtain ⟨hrow, hok⟩ := hl
  have hs : aLen Tryd.prog 22 s = some (.int .i64 (l.length : Nat)) := by rw [hrow.alen ysl22.under, List.length_map]
  simp -implicitDefEqProofs only [go_sem, Nat.reduceAdd, Nat.reduceMul, Nat.reduceLT, Nat.reduceLeDiff, Nat.reduceEqDiff, Nat.reduceBEq, reduceCtorEq, Int.reduceLT, Int.reduceLE, Int.reduceEq, Int.reduceGT, Int.reduceGE, Int.reduceToNat, Int.reduceNeg]
  have hx : Ext H.next H (H.new [s, a, b, c] 24) := (Ext.refl hw).new _ _
  refine Ret.then (Q' := fun r => r.1 = .exit 0 ∧ r.2.1 3 = .str (strOfNums (printT 0 l)) ∧ Ext H.next H r.2.2) ?_ ?_
  · refine Ret.upTo (n := l.length) (PrintJ s a b c l H) (by unfold big; omega) ?_ ?_ ?_
    · refine ⟨?_, ?_, ?_, rfl⟩
      · simp -implicitDefEqProofs only [go_sem, Nat.reduceAdd, Nat.reduceMul, Nat.reduceLT, Nat.reduceLeDiff, Nat.reduceEqDiff, Nat.reduceBEq, reduceCtorEq, Int.reduceLT, Int.reduceLE, Int.reduceEq, Int.reduceGT, Int.reduceGE, Int.reduceToNat, Int.reduceNeg]
      · simp -implicitDefEqProofs only [go_sem, Nat.reduceAdd, Nat.reduceMul, Nat.reduceLT, Nat.reduceLeDiff, Nat.reduceEqDiff, Nat.reduceBEq, reduceCtorEq, Int.reduceLT, Int.reduceLE, Int.reduceEq, Int.reduceGT, Int.reduceGE, Int.reduceToNat, Int.reduceNeg]
        rfl
      · simp -implicitDefEqProofs only [go_sem, Nat.reduceAdd, Nat.reduceMul, Nat.reduceLT, Nat.reduceLeDiff, Nat.reduceEqDiff, Nat.reduceBEq, reduceCtorEq, Int.reduceLT, Int.reduceLE, Int.reduceEq, Int.reduceGT, Int.reduceGE, Int.reduceToNat, Int.reduceNeg]
        rfl
    · rintro i ⟨T, H1⟩ hi ⟨t1, t3, t4, hH⟩
      simp only at t1 t3 t4 hH
      subst hH
      obtain ⟨p, o, e1, e2, _⟩ := (hrow.mono (hx.sub hw)).at (i := i) (by simpa using hi)
      have hii := hok l[i] (List.getElem_mem _)
      have hin : insC l[i] = [.int .i64 l[i].op, .int .i64 l[i].n, .int .i64 l[i].m] := rfl
      simp only [List.getElem_map] at e2
      rw [hin] at e2
      obtain ⟨x, e, hx1, hx2⟩ := lineAV_T l[i]
      have h63 := RT_63 d (op := l[i].op) hii.n hii.m (hT.ext hx hT.two)
      have hcmp : decide (((i : Nat) : Int) < ((l.length : Nat) : Int)) = true := decide_eq_true (by omega)
      unfold F21_L1
      simp -implicitDefEqProofs only [go_sem, Nat.reduceAdd, Nat.reduceMul, Nat.reduceLT, Nat.reduceLeDiff, Nat.reduceEqDiff, Nat.reduceBEq, reduceCtorEq, Int.reduceLT, Int.reduceLE, Int.reduceEq, Int.reduceGT, Int.reduceGE, Int.reduceToNat, Int.reduceNeg, t1, t3, t4, hs, e1, e2, hcmp, h63, hx1]
      by_cases he : e = 0
      · simp -implicitDefEqProofs only [go_sem, Nat.reduceAdd, Nat.reduceMul, Nat.reduceLT, Nat.reduceLeDiff, Nat.reduceEqDiff, Nat.reduceBEq, reduceCtorEq, Int.reduceLT, Int.reduceLE, Int.reduceEq, Int.reduceGT, Int.reduceGE, Int.reduceToNat, Int.reduceNeg, decide_eq_true he]
        rw [if_pos he] at hx2
        refine (ref_tail d hlen hi ⟨?_, ?_, ?_, rfl⟩ ?_).mono fun r h => .inl h
        · simp -implicitDefEqProofs only [go_sem, Nat.reduceAdd, Nat.reduceMul, Nat.reduceLT, Nat.reduceLeDiff, Nat.reduceEqDiff, Nat.reduceBEq, reduceCtorEq, Int.reduceLT, Int.reduceLE, Int.reduceEq, Int.reduceGT, Int.reduceGE, Int.reduceToNat, Int.reduceNeg, t1]
        · simp -implicitDefEqProofs only [go_sem, Nat.reduceAdd, Nat.reduceMul, Nat.reduceLT, Nat.reduceLeDiff, Nat.reduceEqDiff, Nat.reduceBEq, reduceCtorEq, Int.reduceLT, Int.reduceLE, Int.reduceEq, Int.reduceGT, Int.reduceGE, Int.reduceToNat, Int.reduceNeg, t3]
        · simp -implicitDefEqProofs only [go_sem, Nat.reduceAdd, Nat.reduceMul, Nat.reduceLT, Nat.reduceLeDiff, Nat.reduceEqDiff, Nat.reduceBEq, reduceCtorEq, Int.reduceLT, Int.reduceLE, Int.reduceEq, Int.reduceGT, Int.reduceGE, Int.reduceToNat, Int.reduceNeg, t4]
        · simp -implicitDefEqProofs only [go_sem, Nat.reduceAdd, Nat.reduceMul, Nat.reduceLT, Nat.reduceLeDiff, Nat.reduceEqDiff, Nat.reduceBEq, reduceCtorEq, Int.reduceLT, Int.reduceLE, Int.reduceEq, Int.reduceGT, Int.reduceGE, Int.reduceToNat, Int.reduceNeg, hx2]
      · simp -implicitDefEqProofs only [go_sem, Nat.reduceAdd, Nat.reduceMul, Nat.reduceLT, Nat.reduceLeDiff, Nat.reduceEqDiff, Nat.reduceBEq, reduceCtorEq, Int.reduceLT, Int.reduceLE, Int.reduceEq, Int.reduceGT, Int.reduceGE, Int.reduceToNat, Int.reduceNeg, decide_eq_false he]
        rw [if_neg he] at hx2
        refine (ref_tail d hlen hi ⟨?_, ?_, ?_, rfl⟩ ?_).mono fun r h => .inl h
        · simp -implicitDefEqProofs only [go_sem, Nat.reduceAdd, Nat.reduceMul, Nat.reduceLT, Nat.reduceLeDiff, Nat.reduceEqDiff, Nat.reduceBEq, reduceCtorEq, Int.reduceLT, Int.reduceLE, Int.reduceEq, Int.reduceGT, Int.reduceGE, Int.reduceToNat, Int.reduceNeg, t1]
        · simp -implicitDefEqProofs only [go_sem, Nat.reduceAdd, Nat.reduceMul, Nat.reduceLT, Nat.reduceLeDiff, Nat.reduceEqDiff, Nat.reduceBEq, reduceCtorEq, Int.reduceLT, Int.reduceLE, Int.reduceEq, Int.reduceGT, Int.reduceGE, Int.reduceToNat, Int.reduceNeg, t3]
        · simp -implicitDefEqProofs only [go_sem, Nat.reduceAdd, Nat.reduceMul, Nat.reduceLT, Nat.reduceLeDiff, Nat.reduceEqDiff, Nat.reduceBEq, reduceCtorEq, Int.reduceLT, Int.reduceLE, Int.reduceEq, Int.reduceGT, Int.reduceGE, Int.reduceToNat, Int.reduceNeg, t4]
        · simp -implicitDefEqProofs only [go_sem, Nat.reduceAdd, Nat.reduceMul, Nat.reduceLT, Nat.reduceLeDiff, Nat.reduceEqDiff, Nat.reduceBEq, reduceCtorEq, Int.reduceLT, Int.reduceLE, Int.reduceEq, Int.reduceGT, Int.reduceGE, Int.reduceToNat, Int.reduceNeg, hx2]
    · rintro ⟨T, H1⟩ ⟨t1, t3, t4, hH⟩
      simp only at t1 t3 t4 hH
      subst hH
      rw [List.take_of_length_le (Nat.le_refl _)] at t3
      have hcmp : decide (((l.length : Nat) : Int) < ((l.length : Nat) : Int)) = false := decide_eq_false (by omega)
      unfold F21_L1
      simp -implicitDefEqProofs only [go_sem, Nat.reduceAdd, Nat.reduceMul, Nat.reduceLT, Nat.reduceLeDiff, Nat.reduceEqDiff, Nat.reduceBEq, reduceCtorEq, Int.reduceLT, Int.reduceLE, Int.reduceEq, Int.reduceGT, Int.reduceGE, Int.reduceToNat, Int.reduceNeg, t1, t4, hs, hcmp]
      refine .mk ⟨by simp, rfl, ?_, hx⟩
      simp -implicitDefEqProofs only [go_sem, Nat.reduceAdd, Nat.reduceMul, Nat.reduceLT, Nat.reduceLeDiff, Nat.reduceEqDiff, Nat.reduceBEq, reduceCtorEq, Int.reduceLT, Int.reduceLE, Int.reduceEq, Int.reduceGT, Int.reduceGE, Int.reduceToNat, Int.reduceNeg, t3]
  · rintro ⟨e, T, H1⟩ ⟨he, h3, hx1⟩
    simp only at he h3 hx1
    subst he
    simp -implicitDefEqProofs only [go_sem, Nat.reduceAdd, Nat.reduceMul, Nat.reduceLT, Nat.reduceLeDiff, Nat.reduceEqDiff, Nat.reduceBEq, reduceCtorEq, Int.reduceLT, Int.reduceLE, Int.reduceEq, Int.reduceGT, Int.reduceGE, Int.reduceToNat, Int.reduceNeg, h3]
    exact .mk ⟨rfl, hx1⟩

theorem law_prints (d : Nat) {H : AH} (hw : H.wf) (hT : Tabs H) {s : AV} {l : List Ins} (hl : InsRow H s l) (a b c : AV) : Ret (RT (d + 2) 3 [.agg [s, a, b, c]] H) fun r => r.1 = .bool true := by
  rw [R3]
  unfold F3
  have hs : aLen Tryd.prog 22 s = some (.int .i64 (l.length : Nat)) := by rw [hl.1.alen ysl22.under, List.length_map]
  have hx : Ext H.next H (H.new [s, a, b, c] 24) := (Ext.refl hw).new _ _
  have hl' : InsRow (H.new [s, a, b, c] 24) s l := ⟨hl.1.mono (hx.sub hw), hl.2⟩
  by_cases h : l.length ≤ 500
  · have hcmp : decide (((l.length : Nat) : Int) > 500) = false := decide_eq_false (by omega)
    obtain ⟨⟨v1, H1⟩, h1, rfl, hx1⟩ := print_code d hx.wf (hT.ext hx hT.two) hl' (by omega) a b c
    simp only at hx1
    have hl1 : InsRow H1 s l := ⟨hl'.1.mono (hx1.sub hx.wf), hl.2⟩
    have hT1 := (hT.ext hx hT.two).ext hx1 (by simp only [new_next]; have := hT.two; omega)
    obtain ⟨⟨v2, H2⟩, h2, rfl, hx2⟩ := print_ref d hx1.wf hT1 hl1 (by omega) a b c
    simp only at hx2
    have hT2 := hT1.ext hx2 hT1.two
    have hb : H1.m H.next = some ⟨[s, a, b, c], 24, true⟩ := by rw [hx1.low _ (by simp)]; simp
    simp -implicitDefEqProofs only [go_sem, Nat.reduceAdd, Nat.reduceMul, Nat.reduceLT, Nat.reduceLeDiff, Nat.reduceEqDiff, Nat.reduceBEq, reduceCtorEq, Int.reduceLT, Int.reduceLE, Int.reduceEq, Int.reduceGT, Int.reduceGE, Int.reduceToNat, Int.reduceNeg, hs, hcmp, h1, h2, hb, aBin_same, RT_22 (d + 1) hT2]
    exact .mk rfl
  · have hcmp : decide (((l.length : Nat) : Int) > 500) = true := decide_eq_true (by omega)
    simp -implicitDefEqProofs only [go_sem, Nat.reduceAdd, Nat.reduceMul, Nat.reduceLT, Nat.reduceLeDiff, Nat.reduceEqDiff, Nat.reduceBEq, reduceCtorEq, Int.reduceLT, Int.reduceLE, Int.reduceEq, Int.reduceGT, Int.reduceGE, Int.reduceToNat, Int.reduceNeg, hs, hcmp]
    exact .mk rfl
end Go.Proofs.YthiflgncldmkjaaDoor
/- What the arguments read as, laid into an abstract heap that nobody writes. -/
set_option linter.unusedVariables false
set_option linter.unusedSimpArgs false
set_option maxRecDepth 100000
namespace Go.Ri

/-- A heap in which nothing may be written. -/
def AH.ro (H : AH) : Prop := ∀ b B, H.m b = some B → B.rw_ = false
def AH.win (H : AH) (cells : List AV) (e : TypeId) : AH := ⟨setM H.m H.next (some ⟨cells, e, false⟩), H.next + 1⟩
def winRo (ρ : Ro) (n blk base lim : Nat) : Ro := fun b => if b = n then some ⟨blk, base, lim⟩ else ρ b
theorem win_sound {P : Program} {ρ : Ro} {H : AH} {w : World} (h : Sim P ρ H w) (hro : H.ro) {blk base : Nat} {cs : Array Value} {e : TypeId} {fr : Nat × Nat} (hb : w.heap[blk]? = some (.cells cs e fr))
    {cells : List AV} {vs : List Value} (hr : relL ρ cells vs) (h1 : cells.all AV.isOne = true) (hv : ∀ i v, vs[i]? = some v → cs[base + i]? = some v) (hl : base + vs.length ≤ cs.size) :
    Sim P (winRo ρ H.next blk base (cs.size - base)) (H.win cells e) w ∧ ρ.le (winRo ρ H.next blk base (cs.size - base)) ∧ (H.win cells e).ro ∧ H.sub (H.win cells e) := by
  have hle : ρ.le (winRo ρ H.next blk base (cs.size - base)) := by
    intro b r hb
    have : b ≠ H.next := by have := h.lt hb; omega
    simp [winRo, this, hb]
  have hro' : (H.win cells e).ro := by
    intro b B hB
    simp only [AH.win, setM] at hB
    split at hB
    · cases hB; rfl
    · exact hro b B hB
  refine ⟨⟨fun b B hB => ?_, fun b b' B B' r r' hB hB' hor => ?_, fun b hb' => ?_, fun g hg => ?_⟩, hle, hro', fun b B hB => ?_⟩
  · by_cases hbn : b = H.next
    · subst hbn
      simp only [AH.win, setM_same] at hB
      cases hB
      exact ⟨⟨blk, base, cs.size - base⟩, cs, fr, vs, by simp [winRo], hb, by simp only; omega, fun hh => by simp at hh, relL_mono hle _ hr, by simp only; omega, hv, h1⟩
    · simp only [AH.win, setM_other _ _ hbn] at hB
      obtain ⟨r, cs', fr', vs', g1, g2, g3, g4, g5, g6⟩ := h.blk b B hB
      exact ⟨r, cs', fr', vs', hle _ _ g1, g2, g3, g4, relL_mono hle _ g5, g6⟩
  · rcases hor with hh | hh
    · rw [hro' b B hB] at hh; cases hh
    · rw [hro' b' B' hB'] at hh; cases hh
  · simp only [AH.win] at hb'
    have : b ≠ H.next := by omega
    simp only [winRo, this, if_false]
    exact h.fresh b (by omega)
  · obtain ⟨l, hl⟩ := h.glob g hg
    exact ⟨l, hle _ _ hl⟩
  · have : b ≠ H.next := by have := h.dom hB; omega
    simp only [AH.win, setM_other _ _ this]
    exact hB

theorem cell_add {w : World} {a : Addr} {n : Nat} {v : Value} (h : w.cell? (a.add n) = some v) : ∃ c e fr, w.heap[a.block]? = some (.cells c e fr) ∧ c[a.off + n]? = some v ∧ (n = 0 → a.spot = none) := by
  by_cases hn : n = 0
  · subst hn
    simp only [Addr.add, if_true, World.cell?] at h
    split at h
    · rename_i c e fr hc
      split at h
      · cases h
      · rename_i hs
        exact ⟨c, e, fr, hc, by simpa using h, fun _ => by simpa using hs⟩
    · cases h
  · simp only [Addr.add, if_neg hn, World.cell?] at h
    split at h
    · rename_i c e fr hc
      exact ⟨c, e, fr, hc, by simpa using h, fun h => absurd h hn⟩
    · cases h
theorem cells_some {w : World} {base k : Nat} {a : Addr} {cs : List Value} (h : w.cells? base a k = some cs) : cs.length = k ∧ ∀ j, j < k → ∃ v, cs[j]? = some v ∧ w.cell? (a.add j) = some v := by
  unfold World.cells? at h
  split at h
  · have hl := Lib.mapM_length h
    simp at hl
    refine ⟨hl, fun j hj => ?_⟩
    obtain ⟨b, hb, hf⟩ := Lib.mapM_at h j j (by simp [hj])
    exact ⟨b, hb, hf⟩
  · cases h
theorem add_add (a : Addr) (m n : Nat) : (a.add m).add n = a.add (m + n) := by
  unfold Addr.add
  by_cases hm : m = 0 <;> by_cases hn : n = 0 <;> simp [hm, hn, Nat.add_assoc]
/-- How many elements a slice has, as it reads. -/
def lens {H : Type} : DataW H → Nat
  | .slice es _ => es.length
  | _ => 0
theorem trod_sl {H : Type} {enc : TypeId × Value → H} {P : Program} {w : World} {base : Nat} {sp : Nat → Bool} {held : Bool} {fuel : Nat} {t e : TypeId} {cs : List Value} {x : DataW H × List MemPlace}
    (ht : P.underlying t = some (.slice e)) (h : DataW.trod enc P w base sp held fuel t cs = some x) :
    (cs = [.slice none 0 0] ∧ lens x.1 = 0) ∨ ∃ a len cap m, cs = [.slice (some a) len cap] ∧ lens x.1 = len ∧ len ≤ cap ∧ cap ≤ maxLen ∧ ∀ i, i < len → ∃ ci y, w.cells? base (a.add (i * P.cellsOf e)) (P.cellsOf e) = some ci ∧ DataW.trod enc P w base sp held m e ci = some y := by
  cases fuel with
  | zero => simp [DataW.trod] at h
  | succ m =>
    unfold DataW.trod at h
    rw [ht] at h
    split at h <;> first | (simp_all; done) | (cases h; exact .inl ⟨rfl, rfl⟩) | skip
    rename_i e' a len cap he
    simp only [Option.some.injEq, TypeDesc.slice.injEq] at he
    subst he
    split at h
    · rename_i hc
      simp only [Option.bind_eq_some_iff] at h
      obtain ⟨elems, hel, hx⟩ := h
      have hlen : lens x.1 = len := by
        obtain ⟨rest, _, rfl⟩ := Option.map_eq_some_iff.1 hx
        simpa [lens] using Lib.mapM_length hel
      refine .inr ⟨a, len, cap, m, rfl, hlen, hc.2.1, hc.2.2, fun i hi => ?_⟩
      obtain ⟨y, _, hy⟩ := Lib.mapM_at hel i i (by simp [hi])
      simp only [Option.bind_eq_some_iff] at hy
      obtain ⟨ci, h1, h2⟩ := hy
      exact ⟨ci, y, h1, h2⟩
    · cases h

/-- One step of laying arguments: the heap grows, nothing that was there turns. -/
structure Lays (P : Program) (w : World) (ρ : Ro) (H : AH) (ρ' : Ro) (H' : AH) : Prop where
  sim : Sim P ρ' H' w
  le : ρ.le ρ'
  ro : H'.ro
  sub : H.sub H'
theorem Lays.refl {P : Program} {w : World} {ρ : Ro} {H : AH} (h : Sim P ρ H w) (hro : H.ro) : Lays P w ρ H ρ H := ⟨h, .refl ρ, hro, fun _ _ h => h⟩
theorem Lays.trans {P : Program} {w : World} {ρ ρ1 ρ2 : Ro} {H H1 H2 : AH} (h : Lays P w ρ H ρ1 H1) (k : Lays P w ρ1 H1 ρ2 H2) : Lays P w ρ H ρ2 H2 := ⟨k.sim, h.le.trans k.le, k.ro, fun b B hB => k.sub b B (h.sub b B hB)⟩

/-- A slice is laid, its elements being laid one by one. -/
theorem lay_slice {P : Program} {w : World} {k : Nat} (hk : 0 < k) {ρ : Ro} {H : AH} (h : Sim P ρ H w) (hro : H.ro) {Good : AH → List AV → Prop} (hmono : ∀ H H' x, Good H x → H.sub H' → Good H' x)
    {v : Value} {a : Addr} {len cap : Nat} (hv : v = .slice (some a) len cap) (hc : len ≤ cap)
    (hel : ∀ i, i < len → ∃ ci, w.cells? 0 (a.add (i * k)) k = some ci ∧ ∀ ρ H, Sim P ρ H w → H.ro → ∃ ρ' H' x, Lays P w ρ H ρ' H' ∧ relL ρ' x ci ∧ x.length = k ∧ x.all AV.isOne = true ∧ Good H' x) :
    ∃ ρ' H' s l, Lays P w ρ H ρ' H' ∧ rel ρ' s v ∧ Row H' s k l ∧ l.length = len ∧ ∀ x ∈ l, Good H' x := by
  cases len with
  | zero => exact ⟨ρ, H, .empty, [], .refl h hro, ⟨a, cap, hv⟩, ⟨by simp, .inl ⟨rfl, rfl⟩⟩, rfl, by simp⟩
  | succ n =>
    -- the elements
    have key : ∀ m, m ≤ n + 1 → ∃ (ρ' : Ro) (H' : AH) (l : List (List AV)) (vs : List Value), Lays P w ρ H ρ' H' ∧ l.length = m ∧ (∀ x ∈ l, x.length = k ∧ x.all AV.isOne = true ∧ Good H' x) ∧ relL ρ' l.flatten vs ∧ vs.length = m * k ∧ ∀ i v, vs[i]? = some v → w.cell? (a.add i) = some v := by
      intro m
      induction m with
      | zero => exact fun _ => ⟨ρ, H, [], [], .refl h hro, rfl, by simp, relL_nil _, by simp, by simp⟩
      | succ m ih =>
        intro hm
        obtain ⟨ρ1, H1, l, vs, hL, hl, hx, hr, hvl, hcell⟩ := ih (by omega)
        obtain ⟨ci, hci, hgo⟩ := hel m (by omega)
        obtain ⟨ρ2, H2, x, hL2, hr2, hxk, hx1, hg⟩ := hgo ρ1 H1 hL.sim hL.ro
        obtain ⟨hcl, hcc⟩ := cells_some hci
        refine ⟨ρ2, H2, l ++ [x], vs ++ ci, hL.trans hL2, by simp [hl], ?_, ?_, ?_, ?_⟩
        · intro y hy
          simp only [List.mem_append, List.mem_cons, List.not_mem_nil, or_false] at hy
          rcases hy with hy | rfl
          · obtain ⟨a1, a2, a3⟩ := hx y hy
            exact ⟨a1, a2, hmono _ _ _ a3 hL2.sub⟩
          · exact ⟨hxk, hx1, hg⟩
        · rw [List.flatten_append, List.flatten_cons, List.flatten_nil, List.append_nil]
          exact relL_append (relL_mono hL2.le _ hr) hr2
        · rw [List.length_append, hvl, hcl, Nat.succ_mul]
        · intro i u hi
          rw [List.getElem?_append] at hi
          split at hi
          · exact hcell i u hi
          · rename_i hge
            rw [hvl] at hi hge
            have hlt := (List.getElem?_eq_some_iff.1 hi).1
            obtain ⟨u', h1, h2⟩ := hcc (i - m * k) (by omega)
            rw [hi] at h1
            cases h1
            rw [add_add] at h2
            rw [show m * k + (i - m * k) = i by omega] at h2
            exact h2
    obtain ⟨ρ1, H1, l, vs, hL, hl, hx, hr, hvl, hcell⟩ := key (n + 1) (Nat.le_refl _)
    have hpos : 0 < (n + 1) * k := Nat.mul_pos (by omega) hk
    obtain ⟨u0, hu0⟩ : ∃ u, vs[0]? = some u := ⟨_, List.getElem?_eq_getElem (by omega)⟩
    obtain ⟨c, e, fr, hblk, hc0, hspot⟩ := cell_add (hcell 0 u0 hu0)
    have hcs : ∀ i v, vs[i]? = some v → c[a.off + i]? = some v := by
      intro i v hi
      obtain ⟨c', e', fr', hb', hc', _⟩ := cell_add (hcell i v hi)
      rw [hblk] at hb'
      cases hb'
      exact hc'
    have hend : a.off + vs.length ≤ c.size := by
      obtain ⟨u, hu⟩ : ∃ u, vs[vs.length - 1]? = some u := ⟨_, List.getElem?_eq_getElem (by omega)⟩
      have := (Array.getElem?_eq_some_iff.1 (hcs _ _ hu)).1
      omega
    have h1 : l.flatten.all AV.isOne = true := by
      rw [List.all_eq_true]
      intro y hy
      obtain ⟨x, hxl, hyx⟩ := List.mem_flatten.1 hy
      exact List.all_eq_true.1 (hx x hxl).2.1 y hyx
    obtain ⟨hs, hle, hro2, hsub⟩ := win_sound hL.sim hL.ro hblk hr h1 hcs hend
    have hlen : ∀ x ∈ l, x.length = k := fun x hxl => (hx x hxl).1
    have hfl := flat_len l hlen
    refine ⟨_, _, .slice (some (H1.next, 0)) (n + 1) (.kn cap), l, hL.trans ⟨hs, hle, hro2, hsub⟩, ?_, ?_, hl, fun x hxl => hmono _ _ _ (hx x hxl).2.2 hsub⟩
    · refine ⟨some a, cap, ?_, rfl, hc, hv⟩
      have hsp := hspot rfl
      simp only [cAddr, winRo, if_true, Option.map_some, Nat.add_zero]
      cases a
      simp only at hsp
      subst hsp
      rfl
    · refine ⟨hlen, .inr ⟨some (H1.next, 0), .kn cap, by rw [hl], .inr ⟨H1.next, 0, ⟨l.flatten, e, false⟩, rfl, by simp [AH.win, setM_same], by simp only; omega, fun i hi => ?_⟩⟩⟩
      rw [Nat.zero_add]
      exact flat_at l hlen i hi
end Go.Ri

namespace Go.Proofs.YthiflgncldmkjaaDoor
open Go.Ri Go.ChangeShapes Go.WideShapes Go.ChangeAt Go.RowKit

theorem under2 : Tryd.prog.underlying 2 = some (.int .i64) := by kernel_rfl
theorem struct29 : ((Tryd.prog.underlying 29).map fun d => match d with | .struct fs => fs.toList.map fun f => (f.type, f.offset) | _ => []) = some [(3, 0), (2, 1), (2, 2)] := by kernel_rfl
theorem struct24 : ((Tryd.prog.underlying 24).map fun d => match d with | .struct fs => fs.toList.map fun f => (f.type, f.offset) | _ => []) = some [(22, 0), (3, 1), (3, 2), (4, 3)] := by kernel_rfl
theorem c2 : Tryd.prog.cellsOf 2 = 1 := by kernel_rfl
theorem c4 : Tryd.prog.cellsOf 4 = 1 := by kernel_rfl
theorem c22 : Tryd.prog.cellsOf 22 = 1 := by kernel_rfl
theorem c24 : Tryd.prog.cellsOf 24 = 4 := by kernel_rfl
theorem c29 : Tryd.prog.cellsOf 29 = 3 := by kernel_rfl
theorem inI_of_wf {n : Int} (h : (Lit.int .i64 n).wf = true) : InI n := by
  have := bounds_i64 h
  unfold InI
  omega
section
variable {Hh : Type} {enc : TypeId × Value → Hh} {W : World} {base : Nat} {sp : Nat → Bool} {held : Bool}
/-- The fields of a struct. -/
theorem trod_fields {P : Program} {t : TypeId} {l : List (TypeId × Nat)} {fuel : Nat} {cs : List Value} {x : DataW Hh × List MemPlace}
    (hs : ((P.underlying t).map fun d => match d with | .struct fs => fs.toList.map fun f => (f.type, f.offset) | _ => []) = some l) (hl : l ≠ [])
    (h : DataW.trod enc P W base sp held fuel t cs = some x) : cs.length = P.cellsOf t ∧ ∃ m, ∀ u o, (u, o) ∈ l → ∃ y, DataW.trod enc P W base sp held m u ((cs.drop o).take (P.cellsOf u)) = some y := by
  cases hu : P.underlying t with
  | none => rw [hu] at hs; cases hs
  | some d =>
    rw [hu] at hs
    simp only [Option.map_some, Option.some.injEq] at hs
    cases d with
    | struct fs =>
      simp only at hs
      obtain ⟨xs, m, _, _, hlen, hxs, hf⟩ := DataW.trod_struct hu h
      refine ⟨hlen, m, fun u o huo => ?_⟩
      rw [← hs, List.mem_map] at huo
      obtain ⟨f, hfm, hfe⟩ := huo
      obtain ⟨i, hi⟩ := List.mem_iff_getElem?.1 hfm
      have := hf i f (by simpa using hi)
      cases hfe
      have hil : i < xs.length := by
        have := (List.getElem?_eq_some_iff.1 hi).1
        simp at this
        omega
      exact ⟨xs[i], by rw [this, List.getElem?_eq_getElem hil]⟩
    | _ => simp only at hs; exact absurd hs.symm hl
theorem one_of_take {cs : List Value} {o : Nat} {v : Value} (h : (cs.drop o).take 1 = [v]) : cs[o]? = some v := by
  have := congrArg (·[0]?) h
  simpa [List.getElem?_take, List.getElem?_drop] using this
theorem trod_ins {fuel : Nat} {cs : List Value} {x : DataW Hh × List MemPlace} (h : DataW.trod enc Tryd.prog W base sp held fuel 29 cs = some x) :
    ∃ i : Ins, i.Ok ∧ cs = [.int .i64 i.op, .int .i64 i.n, .int .i64 i.m] := by
  obtain ⟨hl, m, hf⟩ := trod_fields struct29 (by simp) h
  obtain ⟨y0, h0⟩ := hf 3 0 (by simp)
  obtain ⟨y1, h1⟩ := hf 2 1 (by simp)
  obtain ⟨y2, h2⟩ := hf 2 2 (by simp)
  obtain ⟨a, ea, _, wa⟩ := DataW.trod_int under3 h0
  obtain ⟨b, eb, _, wb⟩ := DataW.trod_int under2 h1
  obtain ⟨c, ec, _, wc⟩ := DataW.trod_int under2 h2
  rw [cells3] at ea
  rw [c2] at eb ec
  have ea := one_of_take ea
  have eb := one_of_take eb
  have ec := one_of_take ec
  rw [c29] at hl
  refine ⟨⟨a, b, c⟩, ⟨inI_of_wf wa, inI_of_wf wb, inI_of_wf wc⟩, ?_⟩
  match cs, hl with
  | [p, q, r], _ => simp_all
/-- A slice of instructions is laid. -/
theorem lay_ins {fuel : Nat} {v : Value} {x : DataW Hh × List MemPlace} {sp : Nat → Bool} (h : DataW.trod enc Tryd.prog W 0 sp held fuel 22 [v] = some x) {ρ : Ro} {H : AH} (hS : Sim Tryd.prog ρ H W) (hro : H.ro) :
    ∃ ρ' H' s l, Lays Tryd.prog W ρ H ρ' H' ∧ rel ρ' s v ∧ s.isOne = true ∧ InsRow H' s l ∧ l.length ≤ 9223372036854775807 ∧ l.length = lens x.1 := by
  rcases trod_sl ysl22.under h with ⟨hv, hx0⟩ | ⟨a, len, cap, m, hv, hx0, hc, hcm, hel⟩
  · cases hv
    exact ⟨ρ, H, .slice none 0 (.kn 0), [], .refl hS hro, ⟨none, 0, rfl, rfl, Nat.le_refl _, rfl⟩, rfl, ⟨.nil _ _, by simp⟩, by simp, hx0.symm⟩
  · cases hv
    rw [c29] at hel
    obtain ⟨ρ', H', s, l, hL, hr, hrow, hl, hg⟩ := lay_slice (k := 3) (by omega) hS hro (Good := fun _ x => ∃ i : Ins, i.Ok ∧ x = insC i) (fun _ _ _ h _ => h) rfl hc fun i hi => by
      obtain ⟨ci, y, h1, h2⟩ := hel i hi
      obtain ⟨ins, hok, rfl⟩ := trod_ins h2
      refine ⟨_, h1, fun ρ1 H1 hS1 hro1 => ⟨ρ1, H1, insC ins, .refl hS1 hro1, ?_, rfl, rfl, ins, hok, rfl⟩⟩
      exact relL_cons rfl (relL_cons rfl (relL_one rfl))
    have hone : s.isOne = true := by
      rcases hrow.is with ⟨rfl, _⟩ | ⟨a, c, rfl, _⟩ <;> rfl
    have hex : ∃ ll : List Ins, l = ll.map insC ∧ ∀ i ∈ ll, i.Ok := by
      clear hrow hL hr hl
      induction l with
      | nil => exact ⟨[], rfl, by simp⟩
      | cons y l ih =>
        obtain ⟨ll, rfl, hok⟩ := ih fun x hx => hg x (by simp [hx])
        obtain ⟨i, hi, rfl⟩ := hg y (by simp)
        exact ⟨i :: ll, rfl, by simpa using ⟨hi, hok⟩⟩
    obtain ⟨ll, rfl, hok⟩ := hex
    exact ⟨ρ', H', s, ll, hL, hr, hone, ⟨hrow, hok⟩, by rw [List.length_map] at hl; have : maxLen = 9223372036854775807 := (by decide); omega, by rw [List.length_map] at hl; omega⟩
structure Code where
  ins : List Ins
  cells : Int
  params : Int
  answers : Bool
  deriving DecidableEq
structure Code.Ok (c : Code) : Prop where
  ins : ∀ i ∈ c.ins, i.Ok
  cells : InI c.cells
  params : InI c.params
/-- Four cells that hold a code. -/
def CodeAt (H : AH) (x : List AV) (c : Code) : Prop := ∃ s, x = [s, .int .i64 c.cells, .int .i64 c.params, .bool c.answers] ∧ InsRow H s c.ins ∧ InI c.cells ∧ InI c.params ∧ c.ins.length ≤ 9223372036854775807
theorem CodeAt.mono {H H' : AH} {x : List AV} {c : Code} (h : CodeAt H x c) (hs : H.sub H') : CodeAt H' x c := by
  obtain ⟨s, h1, h2, h3⟩ := h
  exact ⟨s, h1, ⟨h2.1.mono hs, h2.2⟩, h3⟩
theorem lay_code {fuel : Nat} {cs : List Value} {x : DataW Hh × List MemPlace} (h : DataW.trod enc Tryd.prog W 0 sp held fuel 24 cs = some x) {ρ : Ro} {H : AH} (hS : Sim Tryd.prog ρ H W) (hro : H.ro) :
    ∃ ρ' H' y c, Lays Tryd.prog W ρ H ρ' H' ∧ relL ρ' y cs ∧ y.length = 4 ∧ y.all AV.isOne = true ∧ CodeAt H' y c := by
  obtain ⟨hl, m, hf⟩ := trod_fields struct24 (by simp) h
  obtain ⟨y0, h0⟩ := hf 22 0 (by simp)
  obtain ⟨y1, h1⟩ := hf 3 1 (by simp)
  obtain ⟨y2, h2⟩ := hf 3 2 (by simp)
  obtain ⟨y3, h3⟩ := hf 4 3 (by simp)
  obtain ⟨b, eb, _, wb⟩ := DataW.trod_int under3 h1
  obtain ⟨c, ec, _, wc⟩ := DataW.trod_int under3 h2
  obtain ⟨d, ed, _⟩ := DataW.trod_bool under4 h3
  rw [cells3] at eb ec
  rw [c4] at ed
  have eb := one_of_take eb
  have ec := one_of_take ec
  have ed := one_of_take ed
  rw [c24] at hl
  match cs, hl with
  | [p, q, r, t], _ =>
    simp only [List.getElem?_cons_succ, List.getElem?_cons_zero, Option.some.injEq] at eb ec ed
    subst eb ec ed
    rw [c22] at h0
    obtain ⟨ρ', H', s, l, hL, hr, h1, hrow, hll, _⟩ := lay_ins (v := p) (by simpa using h0) hS hro
    refine ⟨ρ', H', [s, .int .i64 b, .int .i64 c, .bool d], ⟨l, b, c, d⟩, hL, relL_cons hr (relL_cons rfl (relL_cons rfl (relL_one rfl))), rfl, by simp only [List.all_cons, List.all_nil, h1, Bool.and_true, Bool.true_and]; rfl, s, rfl, hrow, inI_of_wf wb, inI_of_wf wc, hll⟩

/-- A row of codes. -/
def CodesRow (H : AH) (s : AV) (l : List Code) : Prop := ∃ rows, Row H s 4 rows ∧ (rows.length = l.length ∧ l.length ≤ 9223372036854775807) ∧ ∀ i (h : i < rows.length) (h' : i < l.length), CodeAt H rows[i] l[i]
theorem CodesRow.mono {H H' : AH} {s : AV} {l : List Code} (h : CodesRow H s l) (hs : H.sub H') : CodesRow H' s l := by
  obtain ⟨rows, h1, h2, h3⟩ := h
  exact ⟨rows, h1.mono hs, h2, fun i h h' => (h3 i h h').mono hs⟩
theorem lay_codes {fuel : Nat} {v : Value} {x : DataW Hh × List MemPlace} (h : DataW.trod enc Tryd.prog W 0 sp held fuel 36 [v] = some x) {ρ : Ro} {H : AH} (hS : Sim Tryd.prog ρ H W) (hro : H.ro) :
    ∃ ρ' H' s l, Lays Tryd.prog W ρ H ρ' H' ∧ rel ρ' s v ∧ s.isOne = true ∧ CodesRow H' s l ∧ l.length = lens x.1 := by
  rcases trod_sl ysl36.under h with ⟨hv, hx0⟩ | ⟨a, len, cap, m, hv, hx0, hc, hcm, hel⟩
  · cases hv
    exact ⟨ρ, H, .slice none 0 (.kn 0), [], .refl hS hro, ⟨none, 0, rfl, rfl, Nat.le_refl _, rfl⟩, rfl, ⟨[], .nil _ _, ⟨rfl, by simp⟩, fun i h => by simp at h⟩, hx0.symm⟩
  · cases hv
    rw [c24] at hel
    obtain ⟨ρ', H', s, l, hL, hr, hrow, hl, hg⟩ := lay_slice (k := 4) (by omega) hS hro (Good := fun H x => ∃ c : Code, CodeAt H x c) (fun _ _ _ ⟨c, hc⟩ hs => ⟨c, hc.mono hs⟩) rfl hc fun i hi => by
      obtain ⟨ci, y, h1, h2⟩ := hel i hi
      refine ⟨_, h1, fun ρ1 H1 hS1 hro1 => ?_⟩
      obtain ⟨ρ2, H2, y, c, q1, q2, q3, q4, q5⟩ := lay_code h2 hS1 hro1
      exact ⟨ρ2, H2, y, q1, q2, q3, q4, c, q5⟩
    have hone : s.isOne = true := by
      rcases hrow.is with ⟨rfl, _⟩ | ⟨a, c, rfl, _⟩ <;> rfl
    have hex : ∃ ll : List Code, l.length = ll.length ∧ ∀ i (h : i < l.length) (h' : i < ll.length), CodeAt H' l[i] ll[i] := by
      clear hrow hL hr hl
      induction l with
      | nil => exact ⟨[], rfl, fun i h => by simp at h⟩
      | cons y l ih =>
        obtain ⟨ll, h1, h2⟩ := ih fun x hx => hg x (by simp [hx])
        obtain ⟨c, hc⟩ := hg y (by simp)
        refine ⟨c :: ll, by simp [h1], fun i h h' => ?_⟩
        cases i with
        | zero => exact hc
        | succ i => exact h2 i (by simpa using h) (by simpa using h')
    obtain ⟨ll, h1, h2⟩ := hex
    exact ⟨ρ', H', s, ll, hL, hr, hone, ⟨l, hrow, ⟨h1, by have : maxLen = 9223372036854775807 := (by decide); omega⟩, h2⟩, by omega⟩
/-- A row of numbers. -/
def NumsRow (H : AH) (s : AV) (l : List Int) : Prop := Row H s 1 (l.map fun n => [.int .i64 n]) ∧ ∀ n ∈ l, InI n
theorem lay_nums {fuel : Nat} {v : Value} {x : DataW Hh × List MemPlace} (h : DataW.trod enc Tryd.prog W 0 sp held fuel 51 [v] = some x) {ρ : Ro} {H : AH} (hS : Sim Tryd.prog ρ H W) (hro : H.ro) :
    ∃ ρ' H' s l, Lays Tryd.prog W ρ H ρ' H' ∧ rel ρ' s v ∧ s.isOne = true ∧ NumsRow H' s l ∧ l.length = lens x.1 := by
  rcases trod_sl ysl51.under h with ⟨hv, hx0⟩ | ⟨a, len, cap, m, hv, hx0, hc, hcm, hel⟩
  · cases hv
    exact ⟨ρ, H, .slice none 0 (.kn 0), [], .refl hS hro, ⟨none, 0, rfl, rfl, Nat.le_refl _, rfl⟩, rfl, ⟨.nil _ _, by simp⟩, hx0.symm⟩
  · cases hv
    rw [c2] at hel
    obtain ⟨ρ', H', s, l, hL, hr, hrow, hl, hg⟩ := lay_slice (k := 1) (by omega) hS hro (Good := fun _ x => ∃ n, InI n ∧ x = [.int .i64 n]) (fun _ _ _ h _ => h) rfl hc fun i hi => by
      obtain ⟨ci, y, h1, h2⟩ := hel i hi
      obtain ⟨n, hn, _, wn⟩ := DataW.trod_int under2 h2
      subst hn
      exact ⟨_, h1, fun ρ1 H1 hS1 hro1 => ⟨ρ1, H1, [.int .i64 n], .refl hS1 hro1, relL_one rfl, rfl, rfl, n, inI_of_wf wn, rfl⟩⟩
    have hone : s.isOne = true := by
      rcases hrow.is with ⟨rfl, _⟩ | ⟨a, c, rfl, _⟩ <;> rfl
    have hex : ∃ ll : List Int, l = ll.map (fun n => [.int .i64 n]) ∧ ∀ n ∈ ll, InI n := by
      clear hrow hL hr hl
      induction l with
      | nil => exact ⟨[], rfl, by simp⟩
      | cons y l ih =>
        obtain ⟨ll, rfl, hok⟩ := ih fun x hx => hg x (by simp [hx])
        obtain ⟨n, hn, rfl⟩ := hg y (by simp)
        exact ⟨n :: ll, rfl, by simpa using ⟨hn, hok⟩⟩
    obtain ⟨ll, rfl, hok⟩ := hex
    exact ⟨ρ', H', s, ll, hL, hr, hone, ⟨hrow, hok⟩, by rw [List.length_map] at hl; omega⟩

/-- The tables alone. -/
theorem start {W : World} (h : laidMetH Tryd.prog laidTabs W) : ∃ ρ H, Sim Tryd.prog ρ H W ∧ H.ro ∧ Tabs H := by
  have hT := tabs_of_laid h
  obtain ⟨e0, e1, hsub⟩ := small_sub hT
  have hs := absH_sim Tryd.prog (w := W) (by rw [globals2]; exact hT.two)
  refine ⟨fun b => if b < 2 then absRo W b else none, ⟨mTabs e0 e1, 2⟩, ⟨fun b B hB => ?_, fun b b' B B' r r' hB hB' hor => ?_, fun b hb => if_neg (by simpa using hb), fun g hg => ?_⟩, fun b B hB => (mTabs_ok e0 e1 b B hB).2.1, ?_⟩
  · obtain ⟨h1, h2, h3⟩ := mTabs_ok e0 e1 b B hB
    obtain ⟨r, cs, fr, vs, g1, g2, g3, g4, g5, g6⟩ := hs.blk b B (hsub b B hB)
    exact ⟨r, cs, fr, vs, by simp only [if_pos h1]; exact g1, g2, g3, g4, relL_flat h3 g5, g6⟩
  · have h1 := (mTabs_ok e0 e1 b B hB).2.1
    have h2 := (mTabs_ok e0 e1 b' B' hB').2.1
    rw [h1, h2] at hor
    simp at hor
  · obtain ⟨l, hl⟩ := hs.glob g hg
    rw [globals2] at hg
    exact ⟨l, by simp only [if_pos hg]; exact hl⟩
  · exact ⟨⟨e0, rfl⟩, ⟨e1, rfl⟩, Nat.le_refl _⟩
theorem Tabs.sub {H H' : AH} (h : Tabs H) (hs : H.sub H') (hw : H'.wf) : Tabs H' := by
  obtain ⟨⟨e, he⟩, ⟨e', he'⟩, h2⟩ := h
  have := hw 1 _ (hs _ _ he')
  exact ⟨⟨e, hs _ _ he⟩, ⟨e', hs _ _ he'⟩, by omega⟩
theorem below_of_ro {P : Program} {W W' : World} {ρ ρ' : Ro} {H H' : AH} (hro : H.ro) (hout : Out P ρ H W ρ' H' W') : Below W.heap.size W W' := by
  refine ⟨hout.os, hout.tape, hout.output, hout.size, fun k hk => hout.keep k hk fun b B r hB hrw _ => ?_⟩
  rw [hro b B hB] at hrw
  cases hrw

theorem laidOut : laidOutB Tryd.prog = true := by kernel_rfl
/-- Arguments read behind the call as they did. -/
theorem trodAll_stays {W W' : World} {sp : Nat → Bool} (hb : Below W.heap.size W W') : ∀ {ts : List TypeId} {vs : List Value} {ds : List (DataW Hh)} {ps : List MemPlace}, (∀ t ∈ ts, Tryd.prog.readableRec t = true ∧ t < Tryd.prog.types.size) →
    DataW.TrodAll enc Tryd.prog W 0 (fun _ => true) true ts vs ds ps → (∀ x ∈ ps, x.block < W.heap.size) → (∀ x ∈ ps, sp x.block = true) → DataW.TrodAll enc Tryd.prog W' 0 sp true ts vs ds ps
  | [], vs, ds, ps, _, h, _, _ => by
    obtain ⟨rfl, rfl, rfl⟩ := trodAll_nil h
    exact trodAll_mk0
  | t :: ts, vs, ds, ps, ht, h, hlt, hsp => by
    obtain ⟨v, vs', d, ds', p, q, rfl, rfl, rfl, h0, hr⟩ := trodAll_cons h
    have ht0 := ht t (by simp)
    refine trodAll_cons_mk ?_ (trodAll_stays hb (fun u hu => ht u (by simp [hu])) hr (fun x hx => hlt x (by simp [hx])) fun x hx => hsp x (by simp [hx]))
    exact WideElems.Trod_stays laidOut ht0.1 ht0.2 h0 (fun x hx => hb.same (hlt x (by simp [hx]))) fun x hx => hsp x (by simp [hx])

theorem agg_of {t : TypeId} {W : World} {r : Reach} {base : Nat} {v : Value} (ht : ((Tryd.prog.underlying t).map fun d => match d with | .struct _ => true | _ => false) = some true) (h : Value.okWide Tryd.prog W r base t v) : ∃ cs, v = .agg cs := by
  unfold Value.okWide at h
  cases hu : Tryd.prog.underlying t with
  | none => rw [hu] at ht; cases ht
  | some d =>
    rw [hu] at ht h
    cases d <;> simp at ht
    obtain ⟨cs, h, _⟩ := h
    exact ⟨cs, h⟩
theorem under36 : Tryd.prog.underlying 36 = some (.slice 24) := by kernel_rfl
theorem under51 : Tryd.prog.underlying 51 = some (.slice 2) := by kernel_rfl
theorem slice_cells {t e : TypeId} {W : World} {r : Reach} {base : Nat} {v : Value} (ht : Tryd.prog.underlying t = some (.slice e)) (h : Value.okWide Tryd.prog W r base t v) : v.cells.toList = [v] := by
  cases v with
  | agg cs =>
    unfold Value.okWide at h
    rw [ht] at h
    simp only [Cell.okWide, ht, Cell.ok] at h
  | tuple cs =>
    unfold Value.okWide at h
    rw [ht] at h
    simp only [Cell.okWide, ht, Cell.ok] at h
  | _ => rfl
/-- From the run on the laid heap to what the row asks. -/
theorem contract_of {f : FuncId} {fn : Func} {spec : ChangeSpec} (hres : fn.resultTypes = #[4])
    (hspec : ∀ ds : List (DataW Hh), ds.length = fn.params.size → spec.fn Hh ds = { results := [.lit (.bool true)], args := ds }) (hvars : spec.vars = [])
    (hread : ∀ t ∈ fn.params.toList, Tryd.prog.readableRec t = true ∧ t < Tryd.prog.types.size)
    {W : World} {args : Array Value} {ds gs : List (DataW Hh)} {before : List MemPlace}
    (hW : DataW.Whole enc Tryd.prog fn.params.toList spec.vars false W args.toList ds gs before) (hL : laidMetH Tryd.prog laidTabs W)
    (hrun : ∀ ρ H, Sim Tryd.prog ρ H W → H.ro → Tabs H → DataW.TrodAll enc Tryd.prog W 0 (fun _ => true) true fn.params.toList args.toList ds before →
      ∃ ρ' H' vs d, Lays Tryd.prog W ρ H ρ' H' ∧ relL ρ' vs args.toList ∧ Ret (RT d f vs H') fun r => r.1 = .bool true) :
    Calls Tryd.prog f args W fun e W' => ∃ v, e = .returned v ∧ spec.post enc Tryd.prog fn false true false false W args v W' := by
  have hW' := hW
  obtain ⟨p, q, hA, hV, rfl, hfz, hnd⟩ := hW
  rw [hvars] at hV
  obtain ⟨rfl, rfl⟩ := trodVars_none hV
  simp only [List.append_nil] at hW' hrun
  obtain ⟨ρ, H, hS, hro, hT⟩ := start hL
  obtain ⟨ρ', H', vs, d, hLay, hrel, ⟨r, hr1, hr2⟩⟩ := hrun ρ H hS hro hT hA
  obtain ⟨v1, H1⟩ := r
  simp only at hr2
  subst hr2
  have hC := (RT_ok d f vs H' (.bool true) H1 hr1).2 ρ' W args.toList hLay.sim hrel
  rw [Array.toArray_toList] at hC
  refine hC.mono ?_
  rintro e W' ⟨ρ2, v', rfl, hv, hout⟩
  simp only [rel] at hv
  subst hv
  have hb := below_of_ro hLay.ro hout
  have hlen : ds.length = fn.params.size := by
    have h : ∀ {ts : List TypeId} {vs : List Value} {ds : List (DataW Hh)} {ps : List MemPlace}, DataW.TrodAll enc Tryd.prog W 0 (fun _ => true) true ts vs ds ps → ds.length = ts.length := by
      intro ts
      induction ts with
      | nil => intro vs ds ps h; obtain ⟨_, rfl, _⟩ := trodAll_nil h; rfl
      | cons t ts ih =>
        intro vs ds ps h
        obtain ⟨v, vs', d, ds', p, q, rfl, rfl, rfl, h0, hr⟩ := trodAll_cons h
        simp [ih hr]
    simpa using h hA
  have hfn := hspec ds hlen
  have hlt : ∀ x ∈ p, x.block < W.heap.size := fun x hx => hW'.lt x hx
  refine ⟨_, rfl, post_of_below (pa := p) (pv := []) (by simpa using hW') (fun _ _ _ => ?_) (fun sp hsp => ?_) (fun _ _ => ?_) (by simp) hb (ok_one hres rfl (okWide_bool_mk under4 _))⟩
  · rw [List.append_nil, hfn, hres]
    exact trodAll_cons_mk (shut_bool under4 _) trodAll_mk0
  · rw [List.append_nil, hfn]
    exact trodAll_stays hb hread hA hlt (fun x hx => hsp x (by simpa using hx))
  · rw [List.append_nil, hfn, hvars]
    rfl

theorem weight_slice {H : Type} {t e : TypeId} {b : Nat} (hu : Tryd.prog.underlying t = some (.slice e)) (hb : Tryd.prog.bytesOf e = b) {d : DataW H} (h : (DataW.weights Tryd.prog t d).all (· ≤ reachBytes) = true) : lens d * b ≤ 140737488351232 := by
  have hr : reachBytes = 140737488351232 := (by decide)
  cases d with
  | slice es sp =>
    simp only [DataW.weights, hu, hb, List.all_cons, Bool.and_eq_true, decide_eq_true_eq] at h
    simp only [lens]
    have h1 := h.1
    rw [Nat.add_mul] at h1
    omega
  | _ => simp [lens]
theorem bytes24 : Tryd.prog.bytesOf 24 = 48 := by kernel_rfl
theorem bytes2 : Tryd.prog.bytesOf 2 = 8 := by kernel_rfl
end
end Go.Proofs.YthiflgncldmkjaaDoor
/- Heights of a code: what they must be, and that there is one row of them at most. Plain lists, no memory. -/
set_option linter.unusedVariables false
set_option linter.unusedSimpArgs false
set_option maxRecDepth 100000
namespace Go.Proofs.YthiflgncldmkjaaDoor
open Go.Ri

def within (c : Code) (n m : Int) : Bool := decide (0 ≤ n) && decide (1 ≤ m) && decide (n ≤ c.cells) && decide (m ≤ c.cells - n)
def paramsAt (l : List Code) (n : Int) : Int := ((l[n.toNat]?).map (·.params)).getD 0
def answersAt (l : List Code) (n : Int) : Bool := ((l[n.toNat]?).map (·.answers)).getD false
def mayI (l : List Code) (c : Code) (i : Ins) : Bool :=
  if (lineOf i.op i.n i.m).isNone = true then false
  else if i.op = 2 ∨ i.op = 3 then within c i.n 1
  else if i.op = 4 ∨ i.op = 5 ∨ i.op = 6 then decide (i.m ≤ 64) && within c i.n i.m
  else if i.op = 17 ∨ i.op = 18 then decide (0 ≤ i.n) && decide (i.n < (c.ins.length : Nat))
  else if i.op = 19 then decide (0 ≤ i.n) && decide (i.n < (l.length : Nat)) && decide (0 ≤ i.m) && decide (i.m ≤ 8) && decide (i.m = paramsAt l i.n)
  else if i.op = 20 then decide (i.n = if c.answers = true then 1 else 0)
  else if i.op = 24 then decide (0 ≤ i.n) && decide (1 ≤ i.m) && decide (i.m ≤ 3)
  else true
def tk (l : List Code) (i : Ins) : Int := if i.op = 19 then i.m else if i.op = 20 then i.n else takes i.op
def lv (l : List Code) (i : Ins) : Int := if i.op = 19 then (if answersAt l i.n = true then 1 else 0) else if i.op = 20 then 0 else leaves i.op
def nextI (i : Ins) (a : Nat) : List Int := if i.op = 17 then [i.n] else if i.op = 18 then [(a + 1 : Nat), i.n] else if i.op = 20 then [] else [((a + 1 : Nat) : Int)]
def okAt (l : List Code) (i : Ins) (x : Int) : Prop := tk l i ≤ x ∧ x ≤ 4096 ∧ (i.op = 20 → x = tk l i) ∧ (i.op = 24 → x = 0)
instance (l : List Code) (i : Ins) (x : Int) : Decidable (okAt l i x) := by unfold okAt; exact inferInstance
inductive Reach (c : Code) : Nat → Prop where
  | zero : Reach c 0
  | step {a q : Nat} {i : Ins} : Reach c a → c.ins[a]? = some i → ((q : Nat) : Int) ∈ nextI i a → Reach c q
/-- A place is as its height asks: what comes next has the height that it leaves. -/
def Done (l : List Code) (i : Ins) (a : Nat) (x : Int) (h : List Int) : Prop := okAt l i x ∧ ∀ p ∈ nextI i a, ∃ q : Nat, p = q ∧ h[q]? = some (x - tk l i + lv l i)
structure Good (l : List Code) (c : Code) (h : List Int) : Prop where
  len : h.length = c.ins.length
  zero : h[0]? = some 0
  step : ∀ a i x, c.ins[a]? = some i → h[a]? = some x → 0 ≤ x → Done l i a x h
  reach : ∀ a x, h[a]? = some x → x = -1 ∨ (0 ≤ x ∧ Reach c a)

theorem lineOf_op {op n m : Int} (h : (lineOf op n m).isNone = false) : 1 ≤ op ∧ op ≤ 25 := by
  unfold lineOf at h
  split at h
  · simp at h
  · omega
theorem mayI_op {l : List Code} {c : Code} {i : Ins} (h : mayI l c i = true) : 1 ≤ i.op ∧ i.op ≤ 25 := by
  unfold mayI at h
  split at h
  · cases h
  · rename_i h1
    exact lineOf_op (n := i.n) (m := i.m) (by cases hh : (lineOf i.op i.n i.m).isNone <;> simp_all)
theorem leaves_nonneg (op : Int) : 0 ≤ leaves op := by
  unfold leaves
  rw [List.getD_eq_getElem?_getD]
  have h : stackN.all (fun n => decide (0 ≤ n)) = true := by decide
  cases he : stackN[op.toNat * 2 + 1]? with
  | none => simp
  | some s => simpa using List.all_eq_true.1 h s (List.mem_of_getElem? he)
theorem takes_nonneg (op : Int) : 0 ≤ takes op := by
  unfold takes
  rw [List.getD_eq_getElem?_getD]
  have h : stackN.all (fun n => decide (0 ≤ n)) = true := by decide
  cases he : stackN[op.toNat * 2]? with
  | none => simp
  | some s => simpa using List.all_eq_true.1 h s (List.mem_of_getElem? he)
theorem takes_le (op : Int) : takes op ≤ 2 := by
  unfold takes
  rw [List.getD_eq_getElem?_getD]
  have h : stackN.all (fun n => decide (n ≤ 2)) = true := by decide
  cases he : stackN[op.toNat * 2]? with
  | none => simp
  | some s => simpa using List.all_eq_true.1 h s (List.mem_of_getElem? he)
theorem leaves_le (op : Int) : leaves op ≤ 2 := by
  unfold leaves
  rw [List.getD_eq_getElem?_getD]
  have h : stackN.all (fun n => decide (n ≤ 2)) = true := by decide
  cases he : stackN[op.toNat * 2 + 1]? with
  | none => simp
  | some s => simpa using List.all_eq_true.1 h s (List.mem_of_getElem? he)
theorem lv_nonneg (l : List Code) (i : Ins) : 0 ≤ lv l i := by
  unfold lv
  split
  · split <;> omega
  · split
    · omega
    · exact leaves_nonneg _
theorem lv_le (l : List Code) (i : Ins) : lv l i ≤ 2 := by
  unfold lv
  split
  · split <;> omega
  · split
    · omega
    · exact leaves_le _
theorem Good.at_reach {l : List Code} {c : Code} {h : List Int} (g : Good l c h) {a : Nat} (hr : Reach c a) : ∃ x, h[a]? = some x ∧ 0 ≤ x := by
  induction hr with
  | zero => exact ⟨0, g.zero, by omega⟩
  | step hr hi hp ih =>
    obtain ⟨x, hx, h0⟩ := ih
    obtain ⟨ho, hn⟩ := g.step _ _ _ hi hx h0
    obtain ⟨q', hq, hh⟩ := hn _ hp
    have := Int.ofNat_inj.1 hq
    subst this
    have := lv_nonneg l ‹Ins›
    exact ⟨_, hh, by have := ho.1; omega⟩
theorem Good.same {l : List Code} {c : Code} {h h' : List Int} (g : Good l c h) (g' : Good l c h') {a : Nat} (hr : Reach c a) : h[a]? = h'[a]? := by
  induction hr with
  | zero => rw [g.zero, g'.zero]
  | step hr hi hp ih =>
    obtain ⟨x, hx, h0⟩ := g.at_reach hr
    obtain ⟨_, hn⟩ := g.step _ _ _ hi hx h0
    obtain ⟨_, hn'⟩ := g'.step _ _ _ hi (ih ▸ hx) h0
    obtain ⟨q1, e1, k1⟩ := hn _ hp
    obtain ⟨q2, e2, k2⟩ := hn' _ hp
    have := Int.ofNat_inj.1 e1
    subst this
    have := Int.ofNat_inj.1 e2
    subst this
    rw [k1, k2]
theorem Good.unique {l : List Code} {c : Code} {h h' : List Int} (g : Good l c h) (g' : Good l c h') : h = h' := by
  apply List.ext_getElem?
  intro a
  by_cases ha : a < c.ins.length
  · obtain ⟨x, hx⟩ : ∃ x, h[a]? = some x := ⟨_, List.getElem?_eq_getElem (by rw [g.len]; exact ha)⟩
    obtain ⟨y, hy⟩ : ∃ y, h'[a]? = some y := ⟨_, List.getElem?_eq_getElem (by rw [g'.len]; exact ha)⟩
    rcases g.reach a x hx with h1 | ⟨h1, hr⟩
    · rcases g'.reach a y hy with h2 | ⟨h2, hr⟩
      · rw [hx, hy, h1, h2]
      · exact g.same g' hr
    · exact g.same g' hr
  · rw [List.getElem?_eq_none (by rw [g.len]; omega), List.getElem?_eq_none (by rw [g'.len]; omega)]

structure OwnOk (l : List Code) (c : Code) : Prop where
  some_ : 1 ≤ c.ins.length
  few : c.ins.length ≤ 65536
  cells : 0 ≤ c.cells ∧ c.cells ≤ 65536
  params : 0 ≤ c.params ∧ c.params ≤ 8 ∧ c.params ≤ c.cells
  may : ∀ i ∈ c.ins, mayI l c i = true
/-- These are the heights of code k. -/
def Hts (l : List Code) (k : Int) (h : List Int) : Prop := ∃ c, 0 ≤ k ∧ l[k.toNat]? = some c ∧ OwnOk l c ∧ Good l c h
theorem Hts.unique {l : List Code} {k : Int} {h h' : List Int} (g : Hts l k h) (g' : Hts l k h') : h = h' := by
  obtain ⟨c, _, h1, _, h2⟩ := g
  obtain ⟨c', _, h1', _, h2'⟩ := g'
  rw [h1] at h1'
  cases h1'
  exact h2.unique h2'

/-! ### The way to them: places that wait -/
structure Way (l : List Code) (c : Code) (h : List Int) (w : List Nat) (ex : Nat → Prop) : Prop where
  len : h.length = c.ins.length
  zero : h[0]? = some 0
  known : ∀ a x, h[a]? = some x → x = -1 ∨ (0 ≤ x ∧ Reach c a ∧ ∀ g, Good l c g → g[a]? = some x)
  wait : ∀ a ∈ w, ∃ x, h[a]? = some x ∧ 0 ≤ x
  done : ∀ a i x, h[a]? = some x → 0 ≤ x → a ∉ w → ¬ ex a → c.ins[a]? = some i → Done l i a x h
/-- How many places have no height. -/
def negs (h : List Int) : Nat := h.countP (· == -1)
theorem Done.set {l : List Code} {i : Ins} {a : Nat} {x : Int} {h : List Int} (hd : Done l i a x h) {q : Nat} {y : Int} (hq : h[q]? = some (-1)) : Done l i a x (h.set q y) := by
  refine ⟨hd.1, fun p hp => ?_⟩
  obtain ⟨r, e, hr⟩ := hd.2 p hp
  refine ⟨r, e, ?_⟩
  have hne : q ≠ r := by
    rintro rfl
    rw [hq] at hr
    have := Option.some.inj hr
    have h1 := hd.1.1
    have := lv_nonneg l i
    omega
  rw [List.getElem?_set_ne hne]
  exact hr
theorem Way.start {l : List Code} {c : Code} (h : 1 ≤ c.ins.length) : Way l c ((List.replicate c.ins.length (-1)).set 0 0) [0] (fun _ => False) := by
  have hl : ((List.replicate c.ins.length (-1 : Int)).set 0 0).length = c.ins.length := by simp
  have h0 : ((List.replicate c.ins.length (-1 : Int)).set 0 0)[0]? = some 0 := by rw [List.getElem?_set_self (by simp; omega)]
  have hk : ∀ a x, ((List.replicate c.ins.length (-1 : Int)).set 0 0)[a]? = some x → a ≠ 0 → x = -1 := by
    intro a x hx ha
    rw [List.getElem?_set_ne (Ne.symm ha), List.getElem?_replicate] at hx
    split at hx
    · exact (Option.some.inj hx).symm
    · cases hx
  refine ⟨hl, h0, fun a x hx => ?_, fun a ha => ?_, fun a i x hx hx0 ha _ _ => ?_⟩
  · by_cases ha : a = 0
    · subst ha
      rw [h0] at hx
      cases hx
      exact .inr ⟨by omega, .zero, fun g hg => hg.zero⟩
    · exact .inl (hk a x hx ha)
  · simp at ha
    subst ha
    exact ⟨0, h0, by omega⟩
  · have : a ≠ 0 := by simpa using ha
    have := hk a x hx this
    omega
/-- One place is taken from those that wait. -/
theorem Way.take {l : List Code} {c : Code} {h : List Int} {w : List Nat} {a : Nat} (W : Way l c h (w ++ [a]) (fun _ => False)) : Way l c h w (fun b => b = a) :=
  ⟨W.len, W.zero, W.known, fun b hb => W.wait b (by simp [hb]), fun b i x hx h0 hb hne hi => W.done b i x hx h0 (by simp only [List.mem_append, List.mem_cons, List.not_mem_nil, or_false]; rintro (h | h); exact hb h; exact hne h) (fun h => h) hi⟩
/-- A place that comes next gets its height. -/
theorem Way.put {l : List Code} {c : Code} {h : List Int} {w : List Nat} {ex : Nat → Prop} {a q : Nat} {i : Ins} {x : Int} (W : Way l c h w ex) (hi : c.ins[a]? = some i) (hx : h[a]? = some x) (h0 : 0 ≤ x) (ho : okAt l i x)
    (hq : ((q : Nat) : Int) ∈ nextI i a) (hn : h[q]? = some (-1)) : Way l c (h.set q (x - tk l i + lv l i)) (w ++ [q]) ex := by
  have hlt := (List.getElem?_eq_some_iff.1 hn).1
  have hy : 0 ≤ x - tk l i + lv l i := by have := ho.1; have := lv_nonneg l i; omega
  have hself : (h.set q (x - tk l i + lv l i))[q]? = some (x - tk l i + lv l i) := List.getElem?_set_self hlt
  obtain ⟨hr, hf⟩ : Reach c a ∧ ∀ g, Good l c g → g[a]? = some x := by
    rcases W.known a x hx with h | h
    · omega
    · exact h.2
  have h0q : q ≠ 0 := by
    rintro rfl
    rw [W.zero] at hn
    simp at hn
  refine ⟨by simp [W.len], by rw [List.getElem?_set_ne h0q]; exact W.zero, fun b y hb => ?_, fun b hb => ?_, fun b j y hb hy0 hbw hne hj => ?_⟩
  · by_cases hbq : b = q
    · subst hbq
      rw [hself] at hb
      cases hb
      refine .inr ⟨hy, .step hr hi hq, fun g hg => ?_⟩
      obtain ⟨_, hgn⟩ := hg.step a i x hi (hf g hg) h0
      obtain ⟨q', e, he⟩ := hgn _ hq
      have := Int.ofNat_inj.1 e
      subst this
      exact he
    · rw [List.getElem?_set_ne (Ne.symm hbq)] at hb
      exact W.known b y hb
  · simp only [List.mem_append, List.mem_cons, List.not_mem_nil, or_false] at hb
    by_cases hbq : b = q
    · subst hbq
      exact ⟨_, hself, hy⟩
    · rw [List.getElem?_set_ne (Ne.symm hbq)]
      exact W.wait b (hb.resolve_right hbq)
  · simp only [List.mem_append, List.mem_cons, List.not_mem_nil, or_false, not_or] at hbw
    rw [List.getElem?_set_ne (Ne.symm hbw.2)] at hb
    exact (W.done b j y hb hy0 hbw.1 hne hj).set hn
/-- The place is done. -/
theorem Way.close {l : List Code} {c : Code} {h : List Int} {w : List Nat} {a : Nat} {i : Ins} {x : Int} (W : Way l c h w (fun b => b = a)) (hi : c.ins[a]? = some i) (hx : h[a]? = some x) (hd : Done l i a x h) : Way l c h w (fun _ => False) := by
  refine ⟨W.len, W.zero, W.known, W.wait, fun b j y hb hy hbw _ hj => ?_⟩
  by_cases hba : b = a
  · subst hba
    rw [hx] at hb
    cases hb
    rw [hi] at hj
    cases hj
    exact hd
  · exact W.done b j y hb hy hbw hba hj
theorem Way.good {l : List Code} {c : Code} {h : List Int} (W : Way l c h [] (fun _ => False)) : Good l c h :=
  ⟨W.len, W.zero, fun a i x hi hx h0 => W.done a i x hx h0 (by simp) (fun h => h) hi, fun a x hx => (W.known a x hx).imp id fun h => ⟨h.1, h.2.1⟩⟩
/-- What a failing test says: there are no heights. -/
theorem Way.none {l : List Code} {c : Code} {h : List Int} {w : List Nat} {ex : Nat → Prop} {a : Nat} {i : Ins} {x : Int} (W : Way l c h w ex) (hi : c.ins[a]? = some i) (hx : h[a]? = some x) (h0 : 0 ≤ x)
    (hbad : ¬ okAt l i x ∨ ∃ p ∈ nextI i a, ∀ q : Nat, p = q → ∃ y, (h[q]? = some y ∧ y ≠ -1 ∧ y ≠ x - tk l i + lv l i) ∨ h.length ≤ q) : ¬ ∃ g, Good l c g := by
  rintro ⟨g, hg⟩
  have hga : g[a]? = some x := by
    rcases W.known a x hx with h | h
    · omega
    · exact h.2.2 g hg
  obtain ⟨ho, hn⟩ := hg.step a i x hi hga h0
  rcases hbad with h | ⟨p, hp, hb⟩
  · exact h ho
  · obtain ⟨q, e, hq⟩ := hn p hp
    obtain ⟨y, ⟨h1, h2, h3⟩ | h1⟩ := hb q e
    · rcases W.known q y h1 with h | h
      · exact h2 h
      · rw [h.2.2 g hg] at hq
        exact h3 (Option.some.inj hq)
    · rw [List.getElem?_eq_none (by rw [hg.len, ← W.len]; exact h1)] at hq
      cases hq
theorem negs_set {h : List Int} {q : Nat} {y : Int} (hq : h[q]? = some (-1)) (hy : 0 ≤ y) : negs (h.set q y) + 1 = negs h := by
  unfold negs
  induction h generalizing q with
  | nil => simp at hq
  | cons x h ih =>
    cases q with
    | zero =>
      simp at hq
      subst hq
      have : ((y == -1) : Bool) = false := by simp; omega
      simp [List.countP_cons, this]
    | succ q =>
      have := ih (q := q) (by simpa using hq)
      simp only [List.set_cons_succ, List.countP_cons]
      omega
theorem negs_le (h : List Int) : negs h ≤ h.length := List.countP_le_length
end Go.Proofs.YthiflgncldmkjaaDoor
/- The checker's small functions: within, may, moves, next. -/
set_option linter.unusedVariables false
set_option linter.unusedSimpArgs false
set_option maxRecDepth 100000
namespace Go.Proofs.YthiflgncldmkjaaDoor
open Go.Ri

/-- The checker's block: the codes, the code, its heights. -/
structure Chk (H : AH) (k : Nat) (ls s hs : AV) (l : List Code) (c : Code) : Prop where
  blk : H.m k = some ⟨[ls, s, .int .i64 c.cells, .int .i64 c.params, .bool c.answers, hs], 100, true⟩
  codes : CodesRow H ls l
  ins : InsRow H s c.ins
  cells : InI c.cells
  params : InI c.params
theorem Chk.ext {H H' : AH} {k : Nat} {ls s hs : AV} {l : List Code} {c : Code} (h : Chk H k ls s hs l c) (hs' : H.sub H') : Chk H' k ls s hs l c :=
  ⟨hs' _ _ h.blk, h.codes.mono hs', ⟨h.ins.1.mono hs', h.ins.2⟩, h.cells, h.params⟩

theorem within_spec (d : Nat) {H : AH} {k : Nat} {ls s hs : AV} {l : List Code} {c : Code} (hk : Chk H k ls s hs l c) {n m : Int} (hn : InI n) (hm : InI m) :
    RT (d + 1) 116 [.ptr (some (k, 0)), .int .i64 n, .int .i64 m] H = some (.bool (within c n m), H) := by
  rw [R116]
  unfold F116
  by_cases h1 : n ≥ 0
  · by_cases h2 : m ≥ 1
    · simp -implicitDefEqProofs only [go_sem, Nat.reduceAdd, Nat.reduceMul, Nat.reduceLT, Nat.reduceLeDiff, Nat.reduceEqDiff, Nat.reduceBEq, reduceCtorEq, Int.reduceLT, Int.reduceLE, Int.reduceEq, Int.reduceGT, Int.reduceGE, Int.reduceToNat, Int.reduceNeg, decide_eq_true h1, decide_eq_true h2, hk.blk]
      by_cases h3 : n ≤ c.cells
      · have hw : IntKind.i64.wrap (c.cells - n) = c.cells - n := wrap_id (by have := hk.cells; unfold InI at *; omega)
        simp -implicitDefEqProofs only [go_sem, Nat.reduceAdd, Nat.reduceMul, Nat.reduceLT, Nat.reduceLeDiff, Nat.reduceEqDiff, Nat.reduceBEq, reduceCtorEq, Int.reduceLT, Int.reduceLE, Int.reduceEq, Int.reduceGT, Int.reduceGE, Int.reduceToNat, Int.reduceNeg, decide_eq_true h3, hw, hk.blk]
        simp [within, h1, h2, h3]
      · simp -implicitDefEqProofs only [go_sem, Nat.reduceAdd, Nat.reduceMul, Nat.reduceLT, Nat.reduceLeDiff, Nat.reduceEqDiff, Nat.reduceBEq, reduceCtorEq, Int.reduceLT, Int.reduceLE, Int.reduceEq, Int.reduceGT, Int.reduceGE, Int.reduceToNat, Int.reduceNeg, decide_eq_false h3]
        simp [within, h3]
    · simp -implicitDefEqProofs only [go_sem, Nat.reduceAdd, Nat.reduceMul, Nat.reduceLT, Nat.reduceLeDiff, Nat.reduceEqDiff, Nat.reduceBEq, reduceCtorEq, Int.reduceLT, Int.reduceLE, Int.reduceEq, Int.reduceGT, Int.reduceGE, Int.reduceToNat, Int.reduceNeg, decide_eq_true h1, decide_eq_false h2]
      have : ¬ (1 ≤ m) := h2
      simp [within, this]
  · simp -implicitDefEqProofs only [go_sem, Nat.reduceAdd, Nat.reduceMul, Nat.reduceLT, Nat.reduceLeDiff, Nat.reduceEqDiff, Nat.reduceBEq, reduceCtorEq, Int.reduceLT, Int.reduceLE, Int.reduceEq, Int.reduceGT, Int.reduceGE, Int.reduceToNat, Int.reduceNeg, decide_eq_false h1]
    have : ¬ (0 ≤ n) := h1
    simp [within, this]

theorem lineAV_of {i : Ins} : (lineOf i.op i.n i.m = none ∧ lineAV i.op i.n i.m = .tuple [.str ⟨#[]⟩, .int .i64 61]) ∨ ∃ t, lineOf i.op i.n i.m = some t ∧ lineAV i.op i.n i.m = .tuple [.str (strOfNums t), .int .i64 0] := by
  unfold lineAV
  cases lineOf i.op i.n i.m with
  | none => exact .inl ⟨rfl, rfl⟩
  | some t => exact .inr ⟨t, rfl, rfl⟩
/-- A code's third cell. -/
theorem codes_at {H : AH} {ls : AV} {l : List Code} (h : CodesRow H ls l) {n : Int} (h0 : 0 ≤ n) (h1 : n < (l.length : Nat)) :
    ∃ b o c, l[n.toNat]? = some c ∧ (∀ kd, idxSl ls (.int kd n) 4 = some (.ptr (some (b, o)))) ∧ (∃ s, ldAgg (.ptr (some (b, o))) 4 H = some (.agg [s, .int .i64 c.cells, .int .i64 c.params, .bool c.answers]) ∧ InsRow H s c.ins ∧
      ldOne (.ptr (some (b, o + 0))) H = some s) ∧ ldOne (.ptr (some (b, o + 1))) H = some (.int .i64 c.cells) ∧ ldOne (.ptr (some (b, o + 2))) H = some (.int .i64 c.params) ∧ ldOne (.ptr (some (b, o + 3))) H = some (.bool c.answers) ∧ InI c.cells ∧ InI c.params ∧ c.ins.length ≤ 9223372036854775807 := by
  obtain ⟨rows, hr, ⟨hl, _⟩, hc⟩ := h
  have hi : n.toNat < l.length := by omega
  obtain ⟨b, o, e1, e2, e3⟩ := hr.at (i := n.toNat) (by omega)
  obtain ⟨s, hs, hi', hc1, hc2, hc3⟩ := hc n.toNat (by omega) hi
  rw [hs] at e2 e3
  refine ⟨b, o, l[n.toNat], List.getElem?_eq_getElem hi, fun kd => ?_, ⟨s, e2, hi', e3 0 (by omega)⟩, e3 1 (by omega), e3 2 (by omega), e3 3 (by omega), hc1, hc2, hc3⟩
  have := e1 kd
  rw [Int.toNat_of_nonneg h0] at this
  exact this
theorem CodesRow.alen {H : AH} {ls : AV} {l : List Code} (h : CodesRow H ls l) : aLen Tryd.prog 36 ls = some (.int .i64 (l.length : Nat)) := by
  obtain ⟨rows, hr, ⟨hl, _⟩, _⟩ := h
  rw [hr.alen ysl36.under, hl]
theorem InsRow.alen {H : AH} {s : AV} {l : List Ins} (h : InsRow H s l) : aLen Tryd.prog 22 s = some (.int .i64 (l.length : Nat)) := by
  rw [h.1.alen ysl22.under, List.length_map]

theorem may_spec (d : Nat) {H : AH} (hw : H.wf) (hT : Tabs H) {k : Nat} {ls s hs : AV} {l : List Code} {c : Code} (hk : Chk H k ls s hs l c) {i : Ins} (hi : i.Ok) :
    Ret (RT (d + 2) 94 [.ptr (some (k, 0)), .agg (insC i)] H) fun r => r.1 = .bool (mayI l c i) ∧ r.2 = H.new (insC i) 29 := by
  rw [R94]
  unfold F94
  have hx : Ext H.next H (H.new (insC i) 29) := (Ext.refl hw).new _ _
  have hT1 := hT.ext hx hT.two
  have hk1 := hk.ext (hx.sub hw)
  have hin : insC i = [.int .i64 i.op, .int .i64 i.n, .int .i64 i.m] := rfl
  rw [hin] at hx hT1 hk1 ⊢
  obtain ⟨op, n, m⟩ := i
  obtain ⟨ho, hn, hm⟩ := hi
  simp only at ho hn hm hx hT1 hk1 ⊢
  have h23 := RT_23 (d + 1) (op := op) hn hm hT1
  have hkn : k ≠ H.next := by have := hw _ _ hk.blk; omega
  rcases lineAV_of (i := ⟨op, n, m⟩) with ⟨hl, hv⟩ | ⟨t, hl, hv⟩
  · simp only at hl hv
    simp -implicitDefEqProofs only [go_sem, Nat.reduceAdd, Nat.reduceMul, Nat.reduceLT, Nat.reduceLeDiff, Nat.reduceEqDiff, Nat.reduceBEq, reduceCtorEq, Int.reduceLT, Int.reduceLE, Int.reduceEq, Int.reduceGT, Int.reduceGE, Int.reduceToNat, Int.reduceNeg, h23, hv]
    exact .mk ⟨by simp [mayI, hl], rfl⟩
  · simp only at hl hv
    simp -implicitDefEqProofs only [go_sem, Nat.reduceAdd, Nat.reduceMul, Nat.reduceLT, Nat.reduceLeDiff, Nat.reduceEqDiff, Nat.reduceBEq, reduceCtorEq, Int.reduceLT, Int.reduceLE, Int.reduceEq, Int.reduceGT, Int.reduceGE, Int.reduceToNat, Int.reduceNeg, h23, hv]
    have hwn := fun (a b : Int) (ha : InI a) (hb : InI b) => within_spec d hk1 ha hb
    have hns : (lineOf op n m).isNone = false := by rw [hl]; rfl
    by_cases e2 : op = 2
    · subst e2
      simp -implicitDefEqProofs only [go_sem, Nat.reduceAdd, Nat.reduceMul, Nat.reduceLT, Nat.reduceLeDiff, Nat.reduceEqDiff, Nat.reduceBEq, reduceCtorEq, Int.reduceLT, Int.reduceLE, Int.reduceEq, Int.reduceGT, Int.reduceGE, Int.reduceToNat, Int.reduceNeg, F94_J2, hwn n 1 hn (by unfold InI; omega)]
      exact .mk ⟨by simp [mayI, hns], rfl⟩
    by_cases e3 : op = 3
    · subst e3
      simp -implicitDefEqProofs only [go_sem, Nat.reduceAdd, Nat.reduceMul, Nat.reduceLT, Nat.reduceLeDiff, Nat.reduceEqDiff, Nat.reduceBEq, reduceCtorEq, Int.reduceLT, Int.reduceLE, Int.reduceEq, Int.reduceGT, Int.reduceGE, Int.reduceToNat, Int.reduceNeg, F94_J2, hwn n 1 hn (by unfold InI; omega)]
      exact .mk ⟨by simp [mayI, hns], rfl⟩
    have hfin : ∀ o : Int, (op = 4 ∨ op = 5 ∨ op = 6) → mayI l c ⟨op, n, m⟩ = (decide (m ≤ 64) && within c n m) := fun o h => by
      rcases h with rfl | rfl | rfl <;> simp [mayI, hns]
    by_cases e4 : op = 4 ∨ op = 5 ∨ op = 6
    · have hf := hfin 0 e4
      by_cases h64 : m ≤ 64
      · rcases e4 with rfl | rfl | rfl <;> simp -implicitDefEqProofs only [go_sem, Nat.reduceAdd, Nat.reduceMul, Nat.reduceLT, Nat.reduceLeDiff, Nat.reduceEqDiff, Nat.reduceBEq, reduceCtorEq, Int.reduceLT, Int.reduceLE, Int.reduceEq, Int.reduceGT, Int.reduceGE, Int.reduceToNat, Int.reduceNeg, F94_J2, F94_J1, decide_eq_true h64, hwn n m hn hm] <;> exact .mk ⟨by rw [hf]; simp [h64], rfl⟩
      · rcases e4 with rfl | rfl | rfl <;> simp -implicitDefEqProofs only [go_sem, Nat.reduceAdd, Nat.reduceMul, Nat.reduceLT, Nat.reduceLeDiff, Nat.reduceEqDiff, Nat.reduceBEq, reduceCtorEq, Int.reduceLT, Int.reduceLE, Int.reduceEq, Int.reduceGT, Int.reduceGE, Int.reduceToNat, Int.reduceNeg, F94_J2, F94_J1, decide_eq_false h64] <;> exact .mk ⟨by rw [hf]; simp [h64], rfl⟩
    have hlen := hk1.ins.alen
    have n4 : op ≠ 4 := fun h => e4 (.inl h)
    have n5 : op ≠ 5 := fun h => e4 (.inr (.inl h))
    have n6 : op ≠ 6 := fun h => e4 (.inr (.inr h))
    by_cases e17 : op = 17 ∨ op = 18
    · have hf : mayI l c ⟨op, n, m⟩ = (decide (0 ≤ n) && decide (n < (c.ins.length : Nat))) := by
        rcases e17 with rfl | rfl <;> simp [mayI, hns]
      by_cases h0 : n ≥ 0
      · rcases e17 with rfl | rfl <;> simp -implicitDefEqProofs only [go_sem, Nat.reduceAdd, Nat.reduceMul, Nat.reduceLT, Nat.reduceLeDiff, Nat.reduceEqDiff, Nat.reduceBEq, reduceCtorEq, Int.reduceLT, Int.reduceLE, Int.reduceEq, Int.reduceGT, Int.reduceGE, Int.reduceToNat, Int.reduceNeg, F94_J2, F94_J1, F94_J0, decide_eq_true h0, hk.blk, hkn, hlen] <;> exact .mk ⟨by rw [hf]; simp [h0], rfl⟩
      · have h0' : ¬ (0 ≤ n) := h0
        rcases e17 with rfl | rfl <;> simp -implicitDefEqProofs only [go_sem, Nat.reduceAdd, Nat.reduceMul, Nat.reduceLT, Nat.reduceLeDiff, Nat.reduceEqDiff, Nat.reduceBEq, reduceCtorEq, Int.reduceLT, Int.reduceLE, Int.reduceEq, Int.reduceGT, Int.reduceGE, Int.reduceToNat, Int.reduceNeg, F94_J2, F94_J1, F94_J0, decide_eq_false h0] <;> exact .mk ⟨by rw [hf]; simp [h0'], rfl⟩
    have n17 : op ≠ 17 := fun h => e17 (.inl h)
    have n18 : op ≠ 18 := fun h => e17 (.inr h)
    by_cases e19 : op = 19
    · subst e19
      have hf : mayI l c ⟨19, n, m⟩ = (decide (0 ≤ n) && decide (n < (l.length : Nat)) && decide (0 ≤ m) && decide (m ≤ 8) && decide (m = paramsAt l n)) := by simp [mayI, hns]
      have hcl := hk1.codes.alen
      simp -implicitDefEqProofs only [go_sem, Nat.reduceAdd, Nat.reduceMul, Nat.reduceLT, Nat.reduceLeDiff, Nat.reduceEqDiff, Nat.reduceBEq, reduceCtorEq, Int.reduceLT, Int.reduceLE, Int.reduceEq, Int.reduceGT, Int.reduceGE, Int.reduceToNat, Int.reduceNeg, F94_J2, F94_J1, F94_J0]
      by_cases h0 : n ≥ 0
      · simp -implicitDefEqProofs only [go_sem, Nat.reduceAdd, Nat.reduceMul, Nat.reduceLT, Nat.reduceLeDiff, Nat.reduceEqDiff, Nat.reduceBEq, reduceCtorEq, Int.reduceLT, Int.reduceLE, Int.reduceEq, Int.reduceGT, Int.reduceGE, Int.reduceToNat, Int.reduceNeg, decide_eq_true h0, hk.blk, hkn, hcl]
        by_cases h1 : n < (l.length : Nat)
        · simp -implicitDefEqProofs only [go_sem, Nat.reduceAdd, Nat.reduceMul, Nat.reduceLT, Nat.reduceLeDiff, Nat.reduceEqDiff, Nat.reduceBEq, reduceCtorEq, Int.reduceLT, Int.reduceLE, Int.reduceEq, Int.reduceGT, Int.reduceGE, Int.reduceToNat, Int.reduceNeg, decide_eq_true h1]
          by_cases h2 : m ≥ 0
          · simp -implicitDefEqProofs only [go_sem, Nat.reduceAdd, Nat.reduceMul, Nat.reduceLT, Nat.reduceLeDiff, Nat.reduceEqDiff, Nat.reduceBEq, reduceCtorEq, Int.reduceLT, Int.reduceLE, Int.reduceEq, Int.reduceGT, Int.reduceGE, Int.reduceToNat, Int.reduceNeg, decide_eq_true h2]
            by_cases h3 : m ≤ 8
            · obtain ⟨b, o, c', q1, q2, q3, q4, q5, _⟩ := codes_at hk1.codes h0 h1
              simp -implicitDefEqProofs only [go_sem, Nat.reduceAdd, Nat.reduceMul, Nat.reduceLT, Nat.reduceLeDiff, Nat.reduceEqDiff, Nat.reduceBEq, reduceCtorEq, Int.reduceLT, Int.reduceLE, Int.reduceEq, Int.reduceGT, Int.reduceGE, Int.reduceToNat, Int.reduceNeg, decide_eq_true h3, hk.blk, hkn, q2, q5]
              have hp : paramsAt l n = c'.params := by simp [paramsAt, q1]
              have k0 : decide (0 ≤ n) = true := decide_eq_true h0
              have k2 : decide (0 ≤ m) = true := decide_eq_true h2
              exact .mk ⟨by rw [hf, hp, k0, k2, decide_eq_true h1, decide_eq_true h3]; rfl, rfl⟩
            · simp -implicitDefEqProofs only [go_sem, Nat.reduceAdd, Nat.reduceMul, Nat.reduceLT, Nat.reduceLeDiff, Nat.reduceEqDiff, Nat.reduceBEq, reduceCtorEq, Int.reduceLT, Int.reduceLE, Int.reduceEq, Int.reduceGT, Int.reduceGE, Int.reduceToNat, Int.reduceNeg, decide_eq_false h3]
              exact .mk ⟨by rw [hf]; simp [h3], rfl⟩
          · simp -implicitDefEqProofs only [go_sem, Nat.reduceAdd, Nat.reduceMul, Nat.reduceLT, Nat.reduceLeDiff, Nat.reduceEqDiff, Nat.reduceBEq, reduceCtorEq, Int.reduceLT, Int.reduceLE, Int.reduceEq, Int.reduceGT, Int.reduceGE, Int.reduceToNat, Int.reduceNeg, decide_eq_false h2]
            have h2' : ¬ (0 ≤ m) := h2
            exact .mk ⟨by rw [hf]; simp [h2'], rfl⟩
        · simp -implicitDefEqProofs only [go_sem, Nat.reduceAdd, Nat.reduceMul, Nat.reduceLT, Nat.reduceLeDiff, Nat.reduceEqDiff, Nat.reduceBEq, reduceCtorEq, Int.reduceLT, Int.reduceLE, Int.reduceEq, Int.reduceGT, Int.reduceGE, Int.reduceToNat, Int.reduceNeg, decide_eq_false h1]
          exact .mk ⟨by rw [hf]; simp [h1], rfl⟩
      · simp -implicitDefEqProofs only [go_sem, Nat.reduceAdd, Nat.reduceMul, Nat.reduceLT, Nat.reduceLeDiff, Nat.reduceEqDiff, Nat.reduceBEq, reduceCtorEq, Int.reduceLT, Int.reduceLE, Int.reduceEq, Int.reduceGT, Int.reduceGE, Int.reduceToNat, Int.reduceNeg, decide_eq_false h0]
        have h0' : ¬ (0 ≤ n) := h0
        exact .mk ⟨by rw [hf]; simp [h0'], rfl⟩
    by_cases e20 : op = 20
    · subst e20
      have hf : mayI l c ⟨20, n, m⟩ = decide (n = if c.answers = true then 1 else 0) := by simp [mayI, hns]
      simp -implicitDefEqProofs only [go_sem, Nat.reduceAdd, Nat.reduceMul, Nat.reduceLT, Nat.reduceLeDiff, Nat.reduceEqDiff, Nat.reduceBEq, reduceCtorEq, Int.reduceLT, Int.reduceLE, Int.reduceEq, Int.reduceGT, Int.reduceGE, Int.reduceToNat, Int.reduceNeg, F94_J2, F94_J1, F94_J0, hk.blk, hkn]
      by_cases h0 : n = 0
      · subst h0
        simp -implicitDefEqProofs only [go_sem, Nat.reduceAdd, Nat.reduceMul, Nat.reduceLT, Nat.reduceLeDiff, Nat.reduceEqDiff, Nat.reduceBEq, reduceCtorEq, Int.reduceLT, Int.reduceLE, Int.reduceEq, Int.reduceGT, Int.reduceGE, Int.reduceToNat, Int.reduceNeg, hk.blk, hkn]
        cases hans : c.answers
        · simp -implicitDefEqProofs only [go_sem, Nat.reduceAdd, Nat.reduceMul, Nat.reduceLT, Nat.reduceLeDiff, Nat.reduceEqDiff, Nat.reduceBEq, reduceCtorEq, Int.reduceLT, Int.reduceLE, Int.reduceEq, Int.reduceGT, Int.reduceGE, Int.reduceToNat, Int.reduceNeg]
          exact .mk ⟨by rw [hf]; simp [hans], rfl⟩
        · simp -implicitDefEqProofs only [go_sem, Nat.reduceAdd, Nat.reduceMul, Nat.reduceLT, Nat.reduceLeDiff, Nat.reduceEqDiff, Nat.reduceBEq, reduceCtorEq, Int.reduceLT, Int.reduceLE, Int.reduceEq, Int.reduceGT, Int.reduceGE, Int.reduceToNat, Int.reduceNeg]
          exact .mk ⟨by rw [hf]; simp [hans], rfl⟩
      · simp -implicitDefEqProofs only [go_sem, Nat.reduceAdd, Nat.reduceMul, Nat.reduceLT, Nat.reduceLeDiff, Nat.reduceEqDiff, Nat.reduceBEq, reduceCtorEq, Int.reduceLT, Int.reduceLE, Int.reduceEq, Int.reduceGT, Int.reduceGE, Int.reduceToNat, Int.reduceNeg, decide_eq_false h0]
        by_cases h1 : n = 1
        · subst h1
          simp -implicitDefEqProofs only [go_sem, Nat.reduceAdd, Nat.reduceMul, Nat.reduceLT, Nat.reduceLeDiff, Nat.reduceEqDiff, Nat.reduceBEq, reduceCtorEq, Int.reduceLT, Int.reduceLE, Int.reduceEq, Int.reduceGT, Int.reduceGE, Int.reduceToNat, Int.reduceNeg, hk.blk, hkn]
          exact .mk ⟨by rw [hf]; cases c.answers <;> simp, rfl⟩
        · simp -implicitDefEqProofs only [go_sem, Nat.reduceAdd, Nat.reduceMul, Nat.reduceLT, Nat.reduceLeDiff, Nat.reduceEqDiff, Nat.reduceBEq, reduceCtorEq, Int.reduceLT, Int.reduceLE, Int.reduceEq, Int.reduceGT, Int.reduceGE, Int.reduceToNat, Int.reduceNeg, decide_eq_false h1]
          exact .mk ⟨by rw [hf]; cases c.answers <;> simp [h0, h1], rfl⟩
    by_cases e24 : op = 24
    · subst e24
      have hf : mayI l c ⟨24, n, m⟩ = (decide (0 ≤ n) && decide (1 ≤ m) && decide (m ≤ 3)) := by simp [mayI, hns]
      simp -implicitDefEqProofs only [go_sem, Nat.reduceAdd, Nat.reduceMul, Nat.reduceLT, Nat.reduceLeDiff, Nat.reduceEqDiff, Nat.reduceBEq, reduceCtorEq, Int.reduceLT, Int.reduceLE, Int.reduceEq, Int.reduceGT, Int.reduceGE, Int.reduceToNat, Int.reduceNeg, F94_J2, F94_J1, F94_J0]
      by_cases h0 : n ≥ 0
      · simp -implicitDefEqProofs only [go_sem, Nat.reduceAdd, Nat.reduceMul, Nat.reduceLT, Nat.reduceLeDiff, Nat.reduceEqDiff, Nat.reduceBEq, reduceCtorEq, Int.reduceLT, Int.reduceLE, Int.reduceEq, Int.reduceGT, Int.reduceGE, Int.reduceToNat, Int.reduceNeg, decide_eq_true h0]
        by_cases h1 : m ≥ 1
        · simp -implicitDefEqProofs only [go_sem, Nat.reduceAdd, Nat.reduceMul, Nat.reduceLT, Nat.reduceLeDiff, Nat.reduceEqDiff, Nat.reduceBEq, reduceCtorEq, Int.reduceLT, Int.reduceLE, Int.reduceEq, Int.reduceGT, Int.reduceGE, Int.reduceToNat, Int.reduceNeg, decide_eq_true h1]
          exact .mk ⟨by rw [hf]; simp [h0, h1], rfl⟩
        · simp -implicitDefEqProofs only [go_sem, Nat.reduceAdd, Nat.reduceMul, Nat.reduceLT, Nat.reduceLeDiff, Nat.reduceEqDiff, Nat.reduceBEq, reduceCtorEq, Int.reduceLT, Int.reduceLE, Int.reduceEq, Int.reduceGT, Int.reduceGE, Int.reduceToNat, Int.reduceNeg, decide_eq_false h1]
          have h1' : ¬ (1 ≤ m) := h1
          exact .mk ⟨by rw [hf]; simp [h1'], rfl⟩
      · simp -implicitDefEqProofs only [go_sem, Nat.reduceAdd, Nat.reduceMul, Nat.reduceLT, Nat.reduceLeDiff, Nat.reduceEqDiff, Nat.reduceBEq, reduceCtorEq, Int.reduceLT, Int.reduceLE, Int.reduceEq, Int.reduceGT, Int.reduceGE, Int.reduceToNat, Int.reduceNeg, decide_eq_false h0]
        have h0' : ¬ (0 ≤ n) := h0
        exact .mk ⟨by rw [hf]; simp [h0'], rfl⟩
    simp -implicitDefEqProofs only [go_sem, Nat.reduceAdd, Nat.reduceMul, Nat.reduceLT, Nat.reduceLeDiff, Nat.reduceEqDiff, Nat.reduceBEq, reduceCtorEq, Int.reduceLT, Int.reduceLE, Int.reduceEq, Int.reduceGT, Int.reduceGE, Int.reduceToNat, Int.reduceNeg, F94_J2, F94_J1, F94_J0, decide_eq_false e2, decide_eq_false e3, decide_eq_false n4, decide_eq_false n5, decide_eq_false n6, decide_eq_false n17, decide_eq_false n18, decide_eq_false e19, decide_eq_false e20, decide_eq_false e24]
    exact .mk ⟨by simp [mayI, hns, e2, e3, n4, n5, n6, n17, n18, e19, e20, e24], rfl⟩

theorem stack_takes (op : Int) (h : 1 ≤ op ∧ op ≤ 25) : stackA[op.toNat * 2]? = some (.int .i64 (takes op)) := by
  have hl : stackN.length = 52 := by decide
  unfold stackA takes
  rw [List.getElem?_map, List.getD_eq_getElem?_getD, List.getElem?_eq_getElem (by omega)]
  rfl
theorem stack_leaves (op : Int) (h : 1 ≤ op ∧ op ≤ 25) : stackA[op.toNat * 2 + 1]? = some (.int .i64 (leaves op)) := by
  have hl : stackN.length = 52 := by decide
  unfold stackA leaves
  rw [List.getElem?_map, List.getD_eq_getElem?_getD, List.getElem?_eq_getElem (by omega)]
  rfl
theorem moves_spec (d : Nat) {H : AH} (hw : H.wf) (hT : Tabs H) {k : Nat} {ls s hs : AV} {l : List Code} {c : Code} (hk : Chk H k ls s hs l c) {i : Ins} (hm : mayI l c i = true) :
    RT (d + 1) 117 [.ptr (some (k, 0)), .agg (insC i)] H = some (.tuple [.int .i64 (tk l i), .int .i64 (lv l i)], H.new (insC i) 29) := by
  rw [R117]
  unfold F117
  have hop := mayI_op hm
  have hx : Ext H.next H (H.new (insC i) 29) := (Ext.refl hw).new _ _
  have hk1 := hk.ext (hx.sub hw)
  have hin : insC i = [.int .i64 i.op, .int .i64 i.n, .int .i64 i.m] := rfl
  rw [hin] at hx hk1 ⊢
  obtain ⟨op, n, m⟩ := i
  simp only at hop hm hx hk1 ⊢
  have hkn : k ≠ H.next := by have := hw _ _ hk.blk; omega
  have h1n : ¬ (1 = H.next) := by have := hT.two; omega
  by_cases e19 : op = 19
  · subst e19
    have hm' : (decide (0 ≤ n) && decide (n < (l.length : Nat)) && decide (0 ≤ m) && decide (m ≤ 8) && decide (m = paramsAt l n)) = true := by
      have := hm
      unfold mayI at this
      split at this
      · cases this
      · simpa using this
    simp only [Bool.and_eq_true, decide_eq_true_eq] at hm'
    obtain ⟨b, o, c', q1, q2, q3, q4, q5, q6, _⟩ := codes_at hk1.codes hm'.1.1.1.1 hm'.1.1.1.2
    simp -implicitDefEqProofs only [go_sem, Nat.reduceAdd, Nat.reduceMul, Nat.reduceLT, Nat.reduceLeDiff, Nat.reduceEqDiff, Nat.reduceBEq, reduceCtorEq, Int.reduceLT, Int.reduceLE, Int.reduceEq, Int.reduceGT, Int.reduceGE, Int.reduceToNat, Int.reduceNeg, hk.blk, hkn, q2, q6]
    have ha : answersAt l n = c'.answers := by simp [answersAt, q1]
    cases hans : c'.answers
    · simp -implicitDefEqProofs only [go_sem, Nat.reduceAdd, Nat.reduceMul, Nat.reduceLT, Nat.reduceLeDiff, Nat.reduceEqDiff, Nat.reduceBEq, reduceCtorEq, Int.reduceLT, Int.reduceLE, Int.reduceEq, Int.reduceGT, Int.reduceGE, Int.reduceToNat, Int.reduceNeg]
      simp [tk, lv, ha, hans]
    · simp -implicitDefEqProofs only [go_sem, Nat.reduceAdd, Nat.reduceMul, Nat.reduceLT, Nat.reduceLeDiff, Nat.reduceEqDiff, Nat.reduceBEq, reduceCtorEq, Int.reduceLT, Int.reduceLE, Int.reduceEq, Int.reduceGT, Int.reduceGE, Int.reduceToNat, Int.reduceNeg]
      simp [tk, lv, ha, hans]
  by_cases e20 : op = 20
  · subst e20
    simp -implicitDefEqProofs only [go_sem, Nat.reduceAdd, Nat.reduceMul, Nat.reduceLT, Nat.reduceLeDiff, Nat.reduceEqDiff, Nat.reduceBEq, reduceCtorEq, Int.reduceLT, Int.reduceLE, Int.reduceEq, Int.reduceGT, Int.reduceGE, Int.reduceToNat, Int.reduceNeg]
    simp [tk, lv]
  obtain ⟨es, hst⟩ := hT.stack
  have h0 : 0 ≤ op ∧ op < 26 := by omega
  simp -implicitDefEqProofs only [go_sem, Nat.reduceAdd, Nat.reduceMul, Nat.reduceLT, Nat.reduceLeDiff, Nat.reduceEqDiff, Nat.reduceBEq, reduceCtorEq, Int.reduceLT, Int.reduceLE, Int.reduceEq, Int.reduceGT, Int.reduceGE, Int.reduceToNat, Int.reduceNeg, decide_eq_false e19, decide_eq_false e20, decide_eq_true (show op < 26 by omega), if_pos h0, hst, h1n, stack_takes op hop, stack_leaves op hop]
  simp [tk, lv, e19, e20]

theorem next_spec (d : Nat) {H : AH} (hw : H.wf) (i : Ins) {a : Nat} (ha : a < 70000) :
    Ret (RT (d + 1) 118 [.agg (insC i), .int .i64 (a : Nat)] H) fun r => Row r.2 r.1 1 ((nextI i a).map fun p => [.int .i64 p]) ∧ Ext H.next H r.2 ∧ ∀ b o n c, r.1 = .slice (some (b, o)) n c → H.next ≤ b ∧ b < r.2.next := by
  rw [R118]
  unfold F118
  have hin : insC i = [.int .i64 i.op, .int .i64 i.n, .int .i64 i.m] := rfl
  have hx : Ext H.next H (H.new (insC i) 29) := (Ext.refl hw).new _ _
  rw [hin] at hx ⊢
  have hwr := wrapS (i := a) (by omega)
  have hnn : (H.next + 1 = H.next + 1) = True := by simp
  have one : ∀ p : Int, Row (((H.new [.int .i64 i.op, .int .i64 i.n, .int .i64 i.m] 29).new [.int .i64 p] 3)) (.slice (some (H.next + 1, 0)) 1 (.kn 1)) 1 [[.int .i64 p]] := fun p =>
    Own.row (l := [[.int .i64 p]]) (by omega) (Own.made (N := 0) (H := H.new [.int .i64 i.op, .int .i64 i.n, .int .i64 i.m] 29) (n := 1) (Nat.zero_le _) rfl) (by simp)
  have two : ∀ p q : Int, Row (((H.new [.int .i64 i.op, .int .i64 i.n, .int .i64 i.m] 29).new [.int .i64 p, .int .i64 q] 3)) (.slice (some (H.next + 1, 0)) 2 (.kn 2)) 1 [[.int .i64 p], [.int .i64 q]] := fun p q =>
    Own.row (l := [[.int .i64 p], [.int .i64 q]]) (by omega) (Own.made (N := 0) (H := H.new [.int .i64 i.op, .int .i64 i.n, .int .i64 i.m] 29) (n := 2) (Nat.zero_le _) rfl) (by simp)
  by_cases e17 : i.op = 17
  · simp -implicitDefEqProofs only [go_sem, Nat.reduceAdd, Nat.reduceMul, Nat.reduceLT, Nat.reduceLeDiff, Nat.reduceEqDiff, Nat.reduceBEq, reduceCtorEq, Int.reduceLT, Int.reduceLE, Int.reduceEq, Int.reduceGT, Int.reduceGE, Int.reduceToNat, Int.reduceNeg, decide_eq_true e17]
    refine .mk ⟨?_, hx.new _ _, fun b o n c h => by cases h; simp⟩
    simp only [nextI, if_pos e17]
    exact one i.n
  by_cases e18 : i.op = 18
  · simp -implicitDefEqProofs only [go_sem, Nat.reduceAdd, Nat.reduceMul, Nat.reduceLT, Nat.reduceLeDiff, Nat.reduceEqDiff, Nat.reduceBEq, reduceCtorEq, Int.reduceLT, Int.reduceLE, Int.reduceEq, Int.reduceGT, Int.reduceGE, Int.reduceToNat, Int.reduceNeg, decide_eq_false e17, decide_eq_true e18, hwr]
    refine .mk ⟨?_, hx.new _ _, fun b o n c h => by cases h; simp⟩
    simp only [nextI, if_neg e17, if_pos e18]
    exact two _ _
  by_cases e20 : i.op = 20
  · simp -implicitDefEqProofs only [go_sem, Nat.reduceAdd, Nat.reduceMul, Nat.reduceLT, Nat.reduceLeDiff, Nat.reduceEqDiff, Nat.reduceBEq, reduceCtorEq, Int.reduceLT, Int.reduceLE, Int.reduceEq, Int.reduceGT, Int.reduceGE, Int.reduceToNat, Int.reduceNeg, decide_eq_false e17, decide_eq_false e18, decide_eq_true e20]
    refine .mk ⟨?_, hx, fun b o n c h => by cases h⟩
    simp only [nextI, if_neg e17, if_neg e18, if_pos e20]
    exact Row.nil _ _
  · simp -implicitDefEqProofs only [go_sem, Nat.reduceAdd, Nat.reduceMul, Nat.reduceLT, Nat.reduceLeDiff, Nat.reduceEqDiff, Nat.reduceBEq, reduceCtorEq, Int.reduceLT, Int.reduceLE, Int.reduceEq, Int.reduceGT, Int.reduceGE, Int.reduceToNat, Int.reduceNeg, decide_eq_false e17, decide_eq_false e18, decide_eq_false e20, hwr]
    refine .mk ⟨?_, hx.new _ _, fun b o n c h => by cases h; simp⟩
    simp only [nextI, if_neg e17, if_neg e18, if_neg e20]
    exact one _
end Go.Proofs.YthiflgncldmkjaaDoor
/- A number's text read back; words and lines: plain lists. -/
set_option linter.unusedVariables false
set_option linter.unusedSimpArgs false
namespace Go.Proofs.YthiflgncldmkjaaDoor
open Go.Ri

/-! ### Digits -/
def isDg (d : Int) : Prop := 48 ≤ d ∧ d ≤ 57
instance (d : Int) : Decidable (isDg d) := by unfold isDg; infer_instance
def dval : List Int → Nat → Nat
  | [], u => u
  | d :: l, u => dval l (u * 10 + (d - 48).toNat)
theorem dval_append (a b : List Int) (u : Nat) : dval (a ++ b) u = dval b (dval a u) := by
  induction a generalizing u with
  | nil => rfl
  | cons d a ih => simp [dval, ih]
theorem dval_ge (a : List Int) (u : Nat) : u ≤ dval a u := by
  induction a generalizing u with
  | nil => exact Nat.le_refl _
  | cons d a ih =>
    have := ih (u * 10 + (d - 48).toNat)
    simp only [dval]
    omega
/-- Digits as they are written. -/
def Dgs (l : List Int) : Prop := l ≠ [] ∧ (∀ d ∈ l, isDg d) ∧ (l.head? = some 48 → l.length = 1)
theorem dg_dval : ∀ (f u : Nat) (acc : List Int), u < 10 ^ f → 1 ≤ f → ∃ ds, dg f u acc = ds ++ acc ∧ ds ≠ [] ∧ (∀ d ∈ ds, isDg d) ∧ (ds.head? = some 48 → u = 0 ∧ ds.length = 1) ∧ dval ds 0 = u
  | 0, u, acc, _, h => by omega
  | f + 1, u, acc, hu, _ => by
    rw [dg]
    split
    · refine ⟨[((48 + u % 10 : Nat) : Int)], rfl, by simp, ?_, ?_, ?_⟩
      · intro d hd
        simp only [List.mem_cons, List.not_mem_nil, or_false] at hd
        subst hd
        unfold isDg
        omega
      · intro h
        simp only [List.head?_cons, Option.some.injEq] at h
        exact ⟨by omega, rfl⟩
      · simp only [dval]
        omega
    · rename_i hne
      have hf : 1 ≤ f := by
        cases f with
        | zero => simp at hu; omega
        | succ f => omega
      obtain ⟨ds, h1, h2, h3, h4, h5⟩ := dg_dval f (u / 10) ((48 + u % 10 : Nat) :: acc) (by rw [Nat.pow_succ] at hu; omega) hf
      refine ⟨ds ++ [((48 + u % 10 : Nat) : Int)], by rw [h1]; simp, by simp, ?_, ?_, ?_⟩
      · intro d hd
        simp only [List.mem_append, List.mem_cons, List.not_mem_nil, or_false] at hd
        rcases hd with hd | rfl
        · exact h3 d hd
        · unfold isDg
          omega
      · intro h
        cases ds with
        | nil => exact absurd rfl h2
        | cons a ds =>
          have := h4 (by simpa using h)
          omega
      · rw [dval_append, h5]
        simp only [dval]
        omega
theorem dval_pos {l : List Int} (h0 : l ≠ []) (h1 : ∀ d ∈ l, isDg d) (h2 : l.head? ≠ some 48) : 0 < dval l 0 := by
  cases l with
  | nil => exact absurd rfl h0
  | cons a l =>
    have ha := h1 a (by simp)
    have : a ≠ 48 := fun h => h2 (by simp [h])
    have hg := dval_ge l (0 * 10 + (a - 48).toNat)
    unfold isDg at ha
    simp only [dval]
    omega
theorem dg_of : ∀ (f : Nat) (l acc : List Int), l ≠ [] → (∀ d ∈ l, isDg d) → (l.head? = some 48 → l.length = 1) → dval l 0 < 10 ^ f → 1 ≤ f → dg f (dval l 0) acc = l ++ acc
  | 0, l, acc, _, _, _, _, h => by omega
  | f + 1, l, acc, h0, h1, h2, h3, _ => by
    rcases List.eq_nil_or_concat l with rfl | ⟨l', d, rfl⟩
    · exact absurd rfl h0
    · rw [List.concat_eq_append] at *
      have hd := h1 d (by simp)
      unfold isDg at hd
      have hv : dval (l' ++ [d]) 0 = dval l' 0 * 10 + (d - 48).toNat := by rw [dval_append]; rfl
      have hm : (48 + dval (l' ++ [d]) 0 % 10 : Nat) = d := by rw [hv]; omega
      have hq : dval (l' ++ [d]) 0 / 10 = dval l' 0 := by rw [hv]; omega
      rw [dg, hm, hq]
      cases l' with
      | nil => simp [dval]
      | cons a l' =>
        have ha : (a :: l').head? ≠ some 48 := fun h => by
          have := h2 (by simpa using h)
          simp at this
        have hp := dval_pos (l := a :: l') (by simp) (fun x hx => h1 x (by simp at hx ⊢; rcases hx with h | h; exact .inl h; exact .inr (.inl h))) ha
        rw [if_neg (by omega)]
        have hf : 1 ≤ f := by
          cases f with
          | zero => rw [hv] at h3; simp at h3; omega
          | succ f => omega
        rw [dg_of f (a :: l') (d :: acc) (by simp) (fun x hx => h1 x (by simp at hx ⊢; rcases hx with h | h; exact .inl h; exact .inr (.inl h))) (fun h => absurd h ha) (by rw [hv, Nat.pow_succ] at h3; omega) hf]
        simp

/-! ### A number's text -/
def lim (below : Bool) : Nat := if below = true then 9223372036854775808 else 9223372036854775807
def digitsOf (s : List Int) : List Int := if s.head? = some 45 then s.tail else s
def parseN (s : List Int) : Option Int :=
  if digitsOf s ≠ [] ∧ (∀ d ∈ digitsOf s, isDg d) ∧ ((digitsOf s).head? = some 48 → s.length = 1) ∧ dval (digitsOf s) 0 ≤ lim (decide (s.head? = some 45)) then
    some (if s.head? = some 45 then -(dval (digitsOf s) 0 : Nat) else (dval (digitsOf s) 0 : Nat)) else none
theorem big19 : (10 : Nat) ^ 19 = 10000000000000000000 := by decide
theorem parseN_txt {n : Int} (h : InI n) : parseN (txt n) = some n := by
  unfold InI at h
  obtain ⟨ds, h1, h2, h3, h4, h5⟩ := dg_dval 19 n.natAbs [] (by rw [big19]; omega) (by omega)
  rw [List.append_nil] at h1
  have hne : ds.head? ≠ some 45 := fun hh => by
    cases ds with
    | nil => simp at hh
    | cons a ds =>
      have := h3 a (by simp)
      simp only [List.head?_cons, Option.some.injEq] at hh
      unfold isDg at this
      omega
  unfold parseN txt
  by_cases hn : n < 0
  · rw [if_pos hn, h1]
    have hd : digitsOf (45 :: ds) = ds := by simp [digitsOf]
    rw [hd, h5]
    rw [if_pos ⟨h2, h3, fun hh => by have := (h4 hh).1; omega, by simp [lim]; omega⟩]
    simp
    omega
  · rw [if_neg hn, h1]
    have hd : digitsOf ds = ds := by simp [digitsOf, hne]
    rw [hd, h5]
    rw [if_pos ⟨h2, h3, fun hh => (h4 hh).2, by simp [lim, hne]; omega⟩]
    simp [hne]
    omega
theorem txt_parseN {s : List Int} {n : Int} (h : parseN s = some n) : InI n ∧ txt n = s := by
  unfold parseN at h
  split at h
  · rename_i hc
    obtain ⟨h1, h2, h3, h4⟩ := hc
    by_cases hb : s.head? = some 45
    · rw [if_pos hb] at h
      cases s with
      | nil => simp at hb
      | cons a s =>
        simp only [List.head?_cons, Option.some.injEq] at hb
        subst hb
        have hd : digitsOf (45 :: s) = s := by simp [digitsOf]
        rw [hd] at h h1 h2 h3 h4
        have hh : s.head? ≠ some 48 := fun hh => by
          have := h3 hh
          cases s with
          | nil => exact h1 rfl
          | cons b s => simp at this
        have hp := dval_pos h1 h2 hh
        simp only [lim, List.head?_cons, decide_true, if_true] at h4
        have hn := Option.some.inj h
        refine ⟨by unfold InI; omega, ?_⟩
        unfold txt
        rw [if_pos (by omega)]
        have : n.natAbs = dval s 0 := by omega
        rw [this, dg_of 19 s [] h1 h2 (fun e => absurd e hh) (by rw [big19]; omega) (by omega)]
        simp
    · rw [if_neg hb] at h
      have hd : digitsOf s = s := by simp [digitsOf, hb]
      rw [hd] at h h1 h2 h3 h4
      simp only [lim, hb, decide_false, Bool.false_eq_true, if_false] at h4
      have hn := Option.some.inj h
      refine ⟨by unfold InI; omega, ?_⟩
      unfold txt
      rw [if_neg (by omega)]
      have : n.natAbs = dval s 0 := by omega
      rw [this, dg_of 19 s [] h1 h2 h3 (by rw [big19]; omega) (by omega)]
      simp
  · cases h

/-! ### Words -/
def wordsGo : List Int → List Int → List (List Int)
  | cur, [] => [cur]
  | cur, c :: l => if c = 32 then cur :: wordsGo [] l else wordsGo (cur ++ [c]) l
def wordsP (s : List Int) : List (List Int) := if s = [] then [] else wordsGo [] s
def joinW : List (List Int) → List Int
  | [] => []
  | [w] => w
  | w :: x :: l => w ++ 32 :: joinW (x :: l)
theorem wordsGo_ne (cur s : List Int) : wordsGo cur s ≠ [] := by
  induction s generalizing cur with
  | nil => simp [wordsGo]
  | cons c s ih =>
    unfold wordsGo
    split
    · simp
    · exact ih _
theorem joinW_cons (w : List Int) (l : List (List Int)) (h : l ≠ []) : joinW (w :: l) = w ++ 32 :: joinW l := by
  cases l with
  | nil => exact absurd rfl h
  | cons x l => rfl
theorem join_words (cur s : List Int) : joinW (wordsGo cur s) = cur ++ s := by
  induction s generalizing cur with
  | nil => simp [wordsGo, joinW]
  | cons c s ih =>
    unfold wordsGo
    split
    · rename_i h
      subst h
      rw [joinW_cons _ _ (wordsGo_ne _ _), ih]
      rfl
    · rw [ih]
      simp
theorem join_wordsP (s : List Int) : joinW (wordsP s) = s := by
  unfold wordsP
  split
  · rename_i h; subst h; rfl
  · rw [join_words]; rfl
theorem wordsGo_word (cur w s : List Int) (h : ∀ c ∈ w, c ≠ 32) : wordsGo cur (w ++ s) = wordsGo (cur ++ w) s := by
  induction w generalizing cur with
  | nil => simp
  | cons c w ih =>
    have hc := h c (by simp)
    rw [List.cons_append]
    conv => lhs; unfold wordsGo
    rw [if_neg hc, ih _ fun x hx => h x (by simp [hx])]
    simp
theorem words_join : ∀ (l : List (List Int)) (w : List Int), (∀ x ∈ w :: l, ∀ c ∈ x, c ≠ 32) → wordsGo [] (joinW (w :: l)) = w :: l
  | [], w, h => by
    have := wordsGo_word [] w [] (h w (by simp))
    simpa [joinW, wordsGo] using this
  | x :: l, w, h => by
    rw [joinW_cons _ _ (by simp), wordsGo_word [] w _ (h w (by simp)), List.nil_append]
    conv => lhs; unfold wordsGo
    rw [if_pos rfl, words_join l x fun y hy => h y (by simp at hy ⊢; exact .inr hy)]
theorem words_joinP {l : List (List Int)} {w : List Int} (h : ∀ x ∈ w :: l, ∀ c ∈ x, c ≠ 32) (hw : w ≠ []) : wordsP (joinW (w :: l)) = w :: l := by
  unfold wordsP
  rw [if_neg ?_, words_join l w h]
  intro e
  cases l with
  | nil => exact hw e
  | cons x l => simp [joinW_cons] at e
theorem txt_plain (n : Int) (h : InI n) : ∀ c ∈ txt n, c ≠ 32 := by
  unfold InI at h
  obtain ⟨ds, h1, h2, h3, h4, h5⟩ := dg_dval 19 n.natAbs [] (by rw [big19]; omega) (by omega)
  rw [List.append_nil] at h1
  unfold txt
  rw [h1]
  split
  · intro c hc
    simp only [List.mem_cons] at hc
    rcases hc with rfl | hc
    · decide
    · have := h3 c hc
      unfold isDg at this
      omega
  · intro c hc
    have := h3 c hc
    unfold isDg at this
    omega
end Go.Proofs.YthiflgncldmkjaaDoor
/- An instruction's line, there and back: plain lists. -/
set_option linter.unusedVariables false
set_option linter.unusedSimpArgs false
set_option maxRecDepth 100000
namespace Go.Proofs.YthiflgncldmkjaaDoor
open Go.Ri

def opP : Nat → List Int → Int
  | 0, _ => 0
  | k + 1, w => if 0 < k ∧ byteL (wordOf k) = w then (k : Nat) else opP k w
theorem opP_is : ∀ (k : Nat) (w : List Int), opP k w = 0 ∨ (1 ≤ opP k w ∧ opP k w < k ∧ byteL (wordOf (opP k w)) = w)
  | 0, w => .inl rfl
  | k + 1, w => by
    unfold opP
    split
    · rename_i h
      exact .inr ⟨by omega, by omega, h.2⟩
    · rcases opP_is k w with h | ⟨h1, h2, h3⟩
      · exact .inl h
      · exact .inr ⟨h1, by omega, h3⟩
theorem opP_of {op : Int} (h : 1 ≤ op ∧ op ≤ 25) : opP 26 (byteL (wordOf op)) = op := by
  rcases op_cases h with rfl | rfl | rfl | rfl | rfl | rfl | rfl | rfl | rfl | rfl | rfl | rfl | rfl | rfl | rfl | rfl | rfl | rfl | rfl | rfl | rfl | rfl | rfl | rfl | rfl <;> decide
theorem word_plain {op : Int} (h : 1 ≤ op ∧ op ≤ 25) : (∀ c ∈ byteL (wordOf op), c ≠ 32) ∧ byteL (wordOf op) ≠ [] := by
  rcases op_cases h with rfl | rfl | rfl | rfl | rfl | rfl | rfl | rfl | rfl | rfl | rfl | rfl | rfl | rfl | rfl | rfl | rfl | rfl | rfl | rfl | rfl | rfl | rfl | rfl | rfl <;> decide
def numsP (r : List (List Int)) : Option (Int × Int) := match r with
  | [] => some (0, 0)
  | [a] => (parseN a).map fun n => (n, 0)
  | a :: b :: _ => (parseN a).bind fun n => (parseN b).map fun m => (n, m)
def parseI (s : List Int) : Option Ins := match wordsP s with
  | [] => none
  | w :: r => if opP 26 w = 0 ∨ ((r.length : Nat) : Int) ≠ nums (opP 26 w) then none else (numsP r).map fun p => ⟨opP 26 w, p.1, p.2⟩

def numWords (op n m : Int) : List (List Int) := (if 0 < nums op then [txt n] else []) ++ (if 1 < nums op then [txt m] else [])
theorem line_join {op n m : Int} : joinL 0 (lineWords op n m) = joinW (byteL (wordOf op) :: numWords op n m) := by
  unfold lineWords numWords
  rcases nums_three op with h | h | h <;> simp [h, joinL, joinW, byteL_str _ (txt_small _)]
theorem parse_line {i : Ins} (hi : i.Ok) {t : List Int} (h : lineOf i.op i.n i.m = some t) : parseI t = some i := by
  obtain ⟨op, n, m⟩ := i
  obtain ⟨_, hn, hm⟩ := hi
  simp only at hn hm h
  unfold lineOf at h
  split at h
  · cases h
  split at h
  · cases h
  rename_i h1 h2
  have hop : 1 ≤ op ∧ op ≤ 25 := by omega
  obtain ⟨p1, p2⟩ := word_plain hop
  have e := Option.some.inj h
  rw [line_join] at e
  have hw : wordsP t = byteL (wordOf op) :: numWords op n m := by
    rw [← e]
    refine words_joinP (fun x hx => ?_) p2
    simp only [List.mem_cons] at hx
    rcases hx with rfl | hx
    · exact p1
    · unfold numWords at hx
      simp only [List.mem_append] at hx
      rcases hx with hx | hx
      · split at hx
        · simp at hx; subst hx; exact txt_plain n hn
        · simp at hx
      · split at hx
        · simp at hx; subst hx; exact txt_plain m hm
        · simp at hx
  unfold parseI
  rw [hw]
  simp only [opP_of hop]
  rcases nums_three op with h3 | h3 | h3
  · have hn0 : n = 0 := Classical.byContradiction fun h => h2 (.inl ⟨by omega, h⟩)
    have hm0 : m = 0 := Classical.byContradiction fun h => h2 (.inr ⟨by omega, h⟩)
    subst hn0 hm0
    simp [numWords, h3, numsP]
    omega
  · have hm0 : m = 0 := Classical.byContradiction fun h => h2 (.inr ⟨by omega, h⟩)
    subst hm0
    simp [numWords, h3, numsP, parseN_txt hn]
    omega
  · simp [numWords, h3, numsP, parseN_txt hn, parseN_txt hm]
    omega
theorem line_parse {s : List Int} {i : Ins} (h : parseI s = some i) : lineOf i.op i.n i.m = some s ∧ i.Ok := by
  unfold parseI at h
  split at h
  · cases h
  rename_i w r hw
  split at h
  · cases h
  rename_i hc
  simp only [not_or, Decidable.not_not] at hc
  rcases opP_is 26 w with h0 | ⟨h1, h2, h3⟩
  · exact absurd h0 hc.1
  · simp only [Option.map_eq_some_iff] at h
    obtain ⟨⟨n, m⟩, hp, rfl⟩ := h
    have hj := join_wordsP s
    rw [hw] at hj
    generalize opP 26 w = op at *
    have hop : 1 ≤ op ∧ op ≤ 25 := by omega
    have fin : InI n → InI m → r = numWords op n m → ¬ ((nums op < 1 ∧ n ≠ 0) ∨ (nums op < 2 ∧ m ≠ 0)) → lineOf op n m = some s ∧ Ins.Ok ⟨op, n, m⟩ := by
      intro hn hm hr hz
      refine ⟨?_, by unfold InI; simp only; omega, hn, hm⟩
      unfold lineOf
      rw [if_neg (by omega), if_neg hz, line_join, h3, ← hr, hj]
    match r, hc, hp, fin with
    | [], hc, hp, fin =>
      simp [numsP] at hp
      simp at hc
      refine fin (by unfold InI; omega) (by unfold InI; omega) ?_ (by omega)
      simp [numWords, ← hc.2]
    | [a], hc, hp, fin =>
      simp [numsP] at hp
      simp at hc
      obtain ⟨n', hp1, rfl, rfl⟩ := hp
      obtain ⟨q1, q2⟩ := txt_parseN hp1
      refine fin q1 (by unfold InI; omega) ?_ (by omega)
      simp [numWords, ← hc.2, q2]
    | [a, b], hc, hp, fin =>
      simp only [numsP, Option.bind_eq_some_iff, Option.map_eq_some_iff] at hp
      simp at hc
      obtain ⟨n', hp1, m', hp2, e⟩ := hp
      cases e
      obtain ⟨q1, q2⟩ := txt_parseN hp1
      obtain ⟨q3, q4⟩ := txt_parseN hp2
      refine fin q1 q3 ?_ (by omega)
      simp [numWords, ← hc.2, q2, q4]
    | a :: b :: d :: r, hc, hp, fin =>
      have := nums_three op
      simp at hc
      omega
end Go.Proofs.YthiflgncldmkjaaDoor
/- Steps on strings; words of a text. -/
set_option linter.unusedVariables false
set_option linter.unusedSimpArgs false
set_option maxRecDepth 100000
namespace Go.Proofs.YthiflgncldmkjaaDoor
open Go.Ri

theorem gdv_tuple (l : List AV) (w : Bool) : gdv (.tuple l) w = some false := (rfl)
attribute [go_sem] gdv_tuple
def Bs (l : List Int) : Prop := ∀ n ∈ l, 0 ≤ n ∧ n < 256
theorem Bs.byteL (s : ByteArray) : Bs (byteL s) := by
  intro n hn
  simp only [Go.Proofs.YthiflgncldmkjaaDoor.byteL, List.mem_map] at hn
  obtain ⟨y, _, rfl⟩ := hn
  have := y.toNat_lt
  omega
theorem Bs.take {l : List Int} (h : Bs l) (k : Nat) : Bs (l.take k) := fun n hn => h n (List.mem_of_mem_take hn)
theorem Bs.drop {l : List Int} (h : Bs l) (k : Nat) : Bs (l.drop k) := fun n hn => h n (List.mem_of_mem_drop hn)
theorem str_get {l : List Int} (h : Bs l) {i : Nat} (hi : i < l.length) (k : IntKind) : idxStr (.str (strOfNums l)) (.int k (i : Nat)) = some (.int .u8 l[i]) := by
  have hs := strOfNums_size l
  simp only [idxStr]
  rw [if_pos (by omega)]
  simp only [Int.toNat_natCast]
  have hb := byteL_str l h
  have hg : (byteL (strOfNums l))[i]? = some l[i] := by rw [hb]; exact List.getElem?_eq_getElem hi
  unfold byteL at hg
  rw [List.getElem?_map] at hg
  have hi2 : i < (strOfNums l).size := by omega
  rw [getElem?_pos (strOfNums l) i hi2]
  have hi3 : i < (strOfNums l).data.toList.length := by simpa using hi2
  rw [List.getElem?_eq_getElem hi3] at hg
  simp only [Option.map_some, Option.some.injEq] at hg ⊢
  rw [← hg]
  simp only [Array.getElem_toList]
  rfl
theorem str_cut {l : List Int} (h : Bs l) {a b : Nat} (h1 : a ≤ b) (h2 : b ≤ l.length) (k j : IntKind) : slStr (.str (strOfNums l)) (some (.int k (a : Nat))) (some (.int j (b : Nat))) none = some (.str (strOfNums ((l.take b).drop a))) := by
  have hs := strOfNums_size l
  simp only [slStr, bnds, Option.getD_some]
  rw [bnd_nat j (by omega)]
  simp only [Option.bind_some]
  rw [bnd_nat k h1]
  simp only [Option.map_some, Option.some.injEq, AV.str.injEq]
  apply toList_inj
  rw [toList_data, toList_data]
  simp only [ByteArray.data_extract, Array.toList_extract, List.extract_eq_take_drop, strOfNums]
  simp [List.map_take, List.map_drop, List.drop_take]
theorem str_from {l : List Int} (h : Bs l) {a : Nat} (h1 : a ≤ l.length) (k : IntKind) : slStr (.str (strOfNums l)) (some (.int k (a : Nat))) none none = some (.str (strOfNums (l.drop a))) := by
  have hs := strOfNums_size l
  simp only [slStr, bnds, Option.getD_some]
  rw [bnd_nat k (by omega)]
  simp only [Option.map_some, Option.some.injEq, AV.str.injEq]
  apply toList_inj
  rw [toList_data, toList_data]
  simp only [ByteArray.data_extract, Array.toList_extract, List.extract_eq_take_drop, strOfNums]
  have h2 : ({ data := (List.map (fun n : Int => UInt8.ofNat n.toNat) l).toArray } : ByteArray).size = l.length := hs
  simp [h2, List.map_take, List.map_drop, List.drop_take]
  rw [List.take_of_length_le (by simp)]
theorem str_eqB {a b : List Int} (ha : Bs a) (hb : Bs b) : ((strOfNums a).toList == (strOfNums b).toList) = decide (a = b) := by
  by_cases e : a = b
  · subst e
    simp
  · rw [decide_eq_false e]
    simp only [beq_eq_false_iff_ne, ne_eq]
    intro hh
    have := toList_inj hh
    exact e (by rw [← byteL_str a ha, ← byteL_str b hb, this])
theorem str_eql {a b : List Int} (ha : Bs a) (hb : Bs b) (t : TypeId) : aBin Tryd.prog .eql t (.str (strOfNums a)) (.str (strOfNums b)) = some (.bool (decide (a = b))) := by
  rw [aBin_same, str_eqB ha hb]
theorem aBin_nsame (P : Program) (t) (x y : ByteArray) : aBin P .neq t (.str x) (.str y) = some (.bool (!(x.toList == y.toList))) := (rfl)
theorem str_neq {a b : List Int} (ha : Bs a) (hb : Bs b) (t : TypeId) : aBin Tryd.prog .neq t (.str (strOfNums a)) (.str (strOfNums b)) = some (.bool (!decide (a = b))) := by
  rw [aBin_nsame, str_eqB ha hb]
theorem Bs.nil : Bs [] := fun n hn => by simp at hn
theorem str_len (l : List Int) : aLen Tryd.prog 9 (.str (strOfNums l)) = some (.int .i64 (l.length : Nat)) := by
  have h : ∀ x : ByteArray, aLen Tryd.prog 9 (.str x) = some (.int .i64 (x.size : Nat)) := fun x => by kernel_rfl
  rw [h, strOfNums_size]
theorem ins_eql (a b c a' b' c' : Int) : aBin Tryd.prog .eql 29 (.agg [.int .i64 a, .int .i64 b, .int .i64 c]) (.agg [.int .i64 a', .int .i64 b', .int .i64 c']) = some (.bool (a == a' && (b == b' && (c == c' && true)))) := by kernel_rfl
theorem ins_neq (a b c a' b' c' : Int) : aBin Tryd.prog .neq 29 (.agg [.int .i64 a, .int .i64 b, .int .i64 c]) (.agg [.int .i64 a', .int .i64 b', .int .i64 c']) = some (.bool (!(a == a' && (b == b' && (c == c' && true))))) := by kernel_rfl
theorem words_at {i : Nat} (h : i < 26) (cs : List AV) : idxAgg Tryd.prog 9 26 1 (.agg cs) (.int .i64 (i : Nat)) = cs[i]? := by
  have e : ∀ (cs : List AV) (o : Nat), aPart Tryd.prog 9 cs o = cs[o]? := fun cs o => by kernel_rfl
  simp only [idxAgg]
  rw [if_pos (by omega), e]
  simp

/-! ### Words -/
def StrsC (ws : List (List Int)) : List AV := ws.map fun w => .str (strOfNums w)
theorem flat_one {A B : Type} (f : A → B) (l : List A) : (l.map fun w => [f w]).flatten = l.map f := by
  induction l with
  | nil => rfl
  | cons a l ih => simp [ih]
def Strs (H : AH) (v : AV) (ws : List (List Int)) : Prop := Row H v 1 (ws.map fun w => [.str (strOfNums w)])
theorem Strs.alen {H : AH} {v : AV} {ws : List (List Int)} (h : Strs H v ws) : aLen Tryd.prog 90 v = some (.int .i64 (ws.length : Nat)) := by
  rw [Row.alen ysl90.under h, List.length_map]
theorem Strs.at {H : AH} {v : AV} {ws : List (List Int)} (h : Strs H v ws) {i : Nat} (hi : i < ws.length) : ∃ p, (∀ k, idxSl v (.int k (i : Nat)) 1 = some (.ptr (some p))) ∧ ldOne (.ptr (some p)) H = some (.str (strOfNums ws[i])) := by
  obtain ⟨b, o, h1, _, h3⟩ := Row.at h (i := i) (by simpa using hi)
  have := h3 0 (by omega)
  simp only [List.getElem_map, Nat.add_zero, List.getElem?_cons_zero] at this
  exact ⟨(b, o), h1, this⟩
/-- The loop over the text. -/
def IW (H : AH) (l : List Int) (i : Nat) (t : St) : Prop :=
  t.1 0 = .str (strOfNums l) ∧ t.1 5 = .int .i64 (i : Nat) ∧ Ext H.next H t.2 ∧ ∃ ws f, f ≤ i ∧ t.1 4 = .int .i64 (f : Nat) ∧ Own H.next 1 9 t.2 (t.1 3) (StrsC ws) ∧ ws.length ≤ i ∧ wordsGo [] l = ws ++ wordsGo ((l.take i).drop f) (l.drop i)
theorem words_spec (d : Nat) {H : AH} (hw : H.wf) {l : List Int} (hl : Bs l) (hlen : l.length ≤ 500) :
    Ret (RT (d + 1) 67 [.str (strOfNums l)] H) fun r => Ext H.next H r.2 ∧ Strs r.2 r.1 (wordsP l) := by
  rw [R67]
  unfold F67
  have he := str_eql hl Bs.nil 9
  rw [← str_nil] at he
  by_cases h0 : l = []
  · subst h0
    simp -implicitDefEqProofs only [go_sem, Nat.reduceAdd, Nat.reduceMul, Nat.reduceLT, Nat.reduceLeDiff, Nat.reduceEqDiff, Nat.reduceBEq, reduceCtorEq, Int.reduceLT, Int.reduceLE, Int.reduceEq, Int.reduceGT, Int.reduceGE, Int.reduceToNat, Int.reduceNeg, he]
    exact .mk ⟨.refl hw, Row.nil _ _⟩
  · simp -implicitDefEqProofs only [go_sem, Nat.reduceAdd, Nat.reduceMul, Nat.reduceLT, Nat.reduceLeDiff, Nat.reduceEqDiff, Nat.reduceBEq, reduceCtorEq, Int.reduceLT, Int.reduceLE, Int.reduceEq, Int.reduceGT, Int.reduceGE, Int.reduceToNat, Int.reduceNeg, he, decide_eq_false h0]
    refine Ret.then (Q' := fun r => r.1 = .exit 0 ∧ IW H l l.length r.2) (Ret.upTo (n := l.length) (IW H l) (by unfold big; omega) ⟨?_, ?_, .refl hw, [], 0, Nat.le_refl _, ?_, ?_, Nat.le_refl _, ?_⟩ ?_ ?_) ?_
    · simp -implicitDefEqProofs only [go_sem, Nat.reduceAdd, Nat.reduceMul, Nat.reduceLT, Nat.reduceLeDiff, Nat.reduceEqDiff, Nat.reduceBEq, reduceCtorEq, Int.reduceLT, Int.reduceLE, Int.reduceEq, Int.reduceGT, Int.reduceGE, Int.reduceToNat, Int.reduceNeg]
    · simp -implicitDefEqProofs only [go_sem, Nat.reduceAdd, Nat.reduceMul, Nat.reduceLT, Nat.reduceLeDiff, Nat.reduceEqDiff, Nat.reduceBEq, reduceCtorEq, Int.reduceLT, Int.reduceLE, Int.reduceEq, Int.reduceGT, Int.reduceGE, Int.reduceToNat, Int.reduceNeg]
      rfl
    · simp -implicitDefEqProofs only [go_sem, Nat.reduceAdd, Nat.reduceMul, Nat.reduceLT, Nat.reduceLeDiff, Nat.reduceEqDiff, Nat.reduceBEq, reduceCtorEq, Int.reduceLT, Int.reduceLE, Int.reduceEq, Int.reduceGT, Int.reduceGE, Int.reduceToNat, Int.reduceNeg]
      rfl
    · simp -implicitDefEqProofs only [go_sem, Nat.reduceAdd, Nat.reduceMul, Nat.reduceLT, Nat.reduceLeDiff, Nat.reduceEqDiff, Nat.reduceBEq, reduceCtorEq, Int.reduceLT, Int.reduceLE, Int.reduceEq, Int.reduceGT, Int.reduceGE, Int.reduceToNat, Int.reduceNeg]
      exact Own.nil _ _ _ _
    · simp
    · rintro i ⟨T, H1⟩ hi ⟨t0, t5, hx, ws, f, hf, t4, hown, hwl, hgo⟩
      simp only at t0 t5 hx t4 hown
      have hcmp : decide (((i : Nat) : Int) < ((l.length : Nat) : Int)) = true := decide_eq_true (by omega)
      unfold F67_L1
      have hdrop : l.drop i = l[i] :: l.drop (i + 1) := List.drop_eq_getElem_cons hi
      by_cases h32 : l[i] = 32
      · have hw' := wrapS (i := i) (by omega)
        simp -implicitDefEqProofs only [go_sem, Nat.reduceAdd, Nat.reduceMul, Nat.reduceLT, Nat.reduceLeDiff, Nat.reduceEqDiff, Nat.reduceBEq, reduceCtorEq, Int.reduceLT, Int.reduceLE, Int.reduceEq, Int.reduceGT, Int.reduceGE, Int.reduceToNat, Int.reduceNeg, t0, t5, t4, str_len, hcmp, str_get hl hi, decide_eq_true h32, str_cut hl hf (by omega : i ≤ l.length), bs90]
        refine ret_bind (ret_bind ((app_el (ds := [.str (strOfNums ((l.take i).drop f))]) ysl90 hown hx rfl (by simp [StrsC]; omega)).mono ?_))
        rintro ⟨v, H2⟩ ⟨h1, h2, _⟩
        simp only at h1 h2
        refine .mk ?_
        simp -implicitDefEqProofs only [go_sem, Nat.reduceAdd, Nat.reduceMul, Nat.reduceLT, Nat.reduceLeDiff, Nat.reduceEqDiff, Nat.reduceBEq, reduceCtorEq, Int.reduceLT, Int.reduceLE, Int.reduceEq, Int.reduceGT, Int.reduceGE, Int.reduceToNat, Int.reduceNeg, hw', F67_J0, t5]
        refine .mk (.inl ⟨rfl, ?_, ?_, h2, ws ++ [(l.take i).drop f], i + 1, Nat.le_refl _, ?_, ?_, ?_, ?_⟩)
        · simp -implicitDefEqProofs only [go_sem, Nat.reduceAdd, Nat.reduceMul, Nat.reduceLT, Nat.reduceLeDiff, Nat.reduceEqDiff, Nat.reduceBEq, reduceCtorEq, Int.reduceLT, Int.reduceLE, Int.reduceEq, Int.reduceGT, Int.reduceGE, Int.reduceToNat, Int.reduceNeg, t0]
        · simp -implicitDefEqProofs only [go_sem, Nat.reduceAdd, Nat.reduceMul, Nat.reduceLT, Nat.reduceLeDiff, Nat.reduceEqDiff, Nat.reduceBEq, reduceCtorEq, Int.reduceLT, Int.reduceLE, Int.reduceEq, Int.reduceGT, Int.reduceGE, Int.reduceToNat, Int.reduceNeg]
        · simp -implicitDefEqProofs only [go_sem, Nat.reduceAdd, Nat.reduceMul, Nat.reduceLT, Nat.reduceLeDiff, Nat.reduceEqDiff, Nat.reduceBEq, reduceCtorEq, Int.reduceLT, Int.reduceLE, Int.reduceEq, Int.reduceGT, Int.reduceGE, Int.reduceToNat, Int.reduceNeg]
        · simp -implicitDefEqProofs only [go_sem, Nat.reduceAdd, Nat.reduceMul, Nat.reduceLT, Nat.reduceLeDiff, Nat.reduceEqDiff, Nat.reduceBEq, reduceCtorEq, Int.reduceLT, Int.reduceLE, Int.reduceEq, Int.reduceGT, Int.reduceGE, Int.reduceToNat, Int.reduceNeg]
          simpa [StrsC] using h1
        · simp; omega
        · rw [hgo, hdrop]
          conv => lhs; unfold wordsGo
          have e : (l.take (i + 1)).drop (i + 1) = [] := List.drop_of_length_le (by simp; omega)
          rw [if_pos h32, e]
          simp
      · have hw' := wrapS (i := i) (by omega)
        simp -implicitDefEqProofs only [go_sem, Nat.reduceAdd, Nat.reduceMul, Nat.reduceLT, Nat.reduceLeDiff, Nat.reduceEqDiff, Nat.reduceBEq, reduceCtorEq, Int.reduceLT, Int.reduceLE, Int.reduceEq, Int.reduceGT, Int.reduceGE, Int.reduceToNat, Int.reduceNeg, t0, t5, t4, str_len, hcmp, str_get hl hi, decide_eq_false h32, F67_J0, hw']
        refine .mk (.inl ⟨rfl, ?_, ?_, hx, ws, f, by omega, ?_, ?_, by omega, ?_⟩)
        · simp -implicitDefEqProofs only [go_sem, Nat.reduceAdd, Nat.reduceMul, Nat.reduceLT, Nat.reduceLeDiff, Nat.reduceEqDiff, Nat.reduceBEq, reduceCtorEq, Int.reduceLT, Int.reduceLE, Int.reduceEq, Int.reduceGT, Int.reduceGE, Int.reduceToNat, Int.reduceNeg, t0]
        · simp -implicitDefEqProofs only [go_sem, Nat.reduceAdd, Nat.reduceMul, Nat.reduceLT, Nat.reduceLeDiff, Nat.reduceEqDiff, Nat.reduceBEq, reduceCtorEq, Int.reduceLT, Int.reduceLE, Int.reduceEq, Int.reduceGT, Int.reduceGE, Int.reduceToNat, Int.reduceNeg]
        · simp -implicitDefEqProofs only [go_sem, Nat.reduceAdd, Nat.reduceMul, Nat.reduceLT, Nat.reduceLeDiff, Nat.reduceEqDiff, Nat.reduceBEq, reduceCtorEq, Int.reduceLT, Int.reduceLE, Int.reduceEq, Int.reduceGT, Int.reduceGE, Int.reduceToNat, Int.reduceNeg, t4]
        · simp -implicitDefEqProofs only [go_sem, Nat.reduceAdd, Nat.reduceMul, Nat.reduceLT, Nat.reduceLeDiff, Nat.reduceEqDiff, Nat.reduceBEq, reduceCtorEq, Int.reduceLT, Int.reduceLE, Int.reduceEq, Int.reduceGT, Int.reduceGE, Int.reduceToNat, Int.reduceNeg]
          exact hown
        · rw [hgo, hdrop]
          conv => lhs; unfold wordsGo
          rw [if_neg h32]
          congr 2
          rw [List.take_succ_eq_append_getElem hi, List.drop_append_of_le_length (by simp; omega)]
    · rintro ⟨T, H1⟩ ⟨t0, t5, hx, ws, f, hf, t4, hown, hwl, hgo⟩
      simp only at t0 t5 hx t4 hown
      have hcmp : decide (((l.length : Nat) : Int) < ((l.length : Nat) : Int)) = false := decide_eq_false (by omega)
      unfold F67_L1
      simp -implicitDefEqProofs only [go_sem, Nat.reduceAdd, Nat.reduceMul, Nat.reduceLT, Nat.reduceLeDiff, Nat.reduceEqDiff, Nat.reduceBEq, reduceCtorEq, Int.reduceLT, Int.reduceLE, Int.reduceEq, Int.reduceGT, Int.reduceGE, Int.reduceToNat, Int.reduceNeg, t0, t5, str_len, hcmp]
      refine .mk ⟨by simp, rfl, ?_, ?_, hx, ws, f, hf, ?_, ?_, hwl, hgo⟩
      · simp -implicitDefEqProofs only [go_sem, Nat.reduceAdd, Nat.reduceMul, Nat.reduceLT, Nat.reduceLeDiff, Nat.reduceEqDiff, Nat.reduceBEq, reduceCtorEq, Int.reduceLT, Int.reduceLE, Int.reduceEq, Int.reduceGT, Int.reduceGE, Int.reduceToNat, Int.reduceNeg, t0]
      · simp -implicitDefEqProofs only [go_sem, Nat.reduceAdd, Nat.reduceMul, Nat.reduceLT, Nat.reduceLeDiff, Nat.reduceEqDiff, Nat.reduceBEq, reduceCtorEq, Int.reduceLT, Int.reduceLE, Int.reduceEq, Int.reduceGT, Int.reduceGE, Int.reduceToNat, Int.reduceNeg, t5]
      · simp -implicitDefEqProofs only [go_sem, Nat.reduceAdd, Nat.reduceMul, Nat.reduceLT, Nat.reduceLeDiff, Nat.reduceEqDiff, Nat.reduceBEq, reduceCtorEq, Int.reduceLT, Int.reduceLE, Int.reduceEq, Int.reduceGT, Int.reduceGE, Int.reduceToNat, Int.reduceNeg, t4]
      · simp -implicitDefEqProofs only [go_sem, Nat.reduceAdd, Nat.reduceMul, Nat.reduceLT, Nat.reduceLeDiff, Nat.reduceEqDiff, Nat.reduceBEq, reduceCtorEq, Int.reduceLT, Int.reduceLE, Int.reduceEq, Int.reduceGT, Int.reduceGE, Int.reduceToNat, Int.reduceNeg]
        exact hown
    · rintro ⟨e, T, H1⟩ ⟨rfl, t0, t5, hx, ws, f, hf, t4, hown, hwl, hgo⟩
      simp only at t0 t5 hx t4 hown
      simp -implicitDefEqProofs only [go_sem, Nat.reduceAdd, Nat.reduceMul, Nat.reduceLT, Nat.reduceLeDiff, Nat.reduceEqDiff, Nat.reduceBEq, reduceCtorEq, Int.reduceLT, Int.reduceLE, Int.reduceEq, Int.reduceGT, Int.reduceGE, Int.reduceToNat, Int.reduceNeg, t0, t4, str_from hl hf, bs90]
      refine ret_bind ((app_el (ds := [.str (strOfNums (l.drop f))]) ysl90 hown hx rfl (by simp [StrsC]; omega)).mono ?_)
      rintro ⟨v, H2⟩ ⟨h1, h2, _⟩
      simp only at h1 h2
      refine .mk ⟨h2, ?_⟩
      have hp : wordsP l = ws ++ [l.drop f] := by
        unfold wordsP
        rw [if_neg h0, hgo]
        simp [wordsGo]
      rw [hp]
      refine Own.row (by omega) (N := H.next) (e := 9) ?_ (fun x hx => by simp only [List.mem_map] at hx; obtain ⟨w, _, rfl⟩ := hx; rfl)
      have : ((ws ++ [l.drop f]).map fun w => [AV.str (strOfNums w)]).flatten = StrsC ws ++ [.str (strOfNums (l.drop f))] := by
        rw [flat_one]
        simp [StrsC]
      rw [this]
      exact h1
end Go.Proofs.YthiflgncldmkjaaDoor
/- A number's text, read by the program. -/
set_option linter.unusedVariables false
set_option linter.unusedSimpArgs false
set_option maxRecDepth 100000
namespace Go.Proofs.YthiflgncldmkjaaDoor
open Go.Ri

def lim63 : Nat := 9223372036854775808
/-- The digits so far are such, and their number is not too great. -/
def OkD (l : List Int) : Prop := (∀ d ∈ l, isDg d) ∧ dval l 0 ≤ 9223372036854775808
theorem dval_snoc (l : List Int) (d : Int) : dval (l ++ [d]) 0 = dval l 0 * 10 + (d - 48).toNat := by rw [dval_append]; rfl
theorem OkD.take {l : List Int} (h : OkD l) (k : Nat) : OkD (l.take k) := by
  refine ⟨fun d hd => h.1 d (List.mem_of_mem_take hd), ?_⟩
  have : dval l 0 = dval (l.drop k) (dval (l.take k) 0) := by rw [← dval_append, List.take_append_drop]
  have h2 := dval_ge (l.drop k) (dval (l.take k) 0)
  have := h.2
  omega
def IP (H : AH) (x0 : AV) (below : Bool) (l : List Int) (i : Nat) (t : St) : Prop :=
  t.2 = H ∧ t.1 0 = x0 ∧ t.1 4 = .str (strOfNums l) ∧ t.1 5 = .bool below ∧ t.1 6 = .int .u64 (dval (l.take i) 0 : Nat) ∧ t.1 7 = .bool true ∧ t.1 8 = .int .i64 (i : Nat) ∧ OkD (l.take i)
theorem parse_loop (d : Nat) {H : AH} {x0 : AV} {below : Bool} {l : List Int} (hl : Bs l) (hlen : l.length ≤ 1000) {T : Tm} (h0 : IP H x0 below l 0 (T, H)) :
    Ret (Ri.iter big (F68_L0 (RT d) (Ri.iter big)) (T, H)) fun r => r.1 = .exit 0 ∧ r.2.2 = H ∧ r.2.1 5 = .bool below ∧ ((OkD l ∧ r.2.1 6 = .int .u64 (dval l 0 : Nat) ∧ r.2.1 7 = .bool true) ∨ (¬ OkD l ∧ r.2.1 7 = .bool false)) := by
  refine Ret.upTo (n := l.length) (IP H x0 below l) (by unfold big; omega) h0 ?_ ?_
  · rintro i ⟨T1, H1⟩ hi ⟨hH, t0, t4, t5, t6, t7, t8, hok⟩
    simp only at hH t0 t4 t5 t6 t7 t8
    subst hH
    have hcmp : decide (((i : Nat) : Int) < ((l.length : Nat) : Int)) = true := decide_eq_true (by omega)
    have hb := hl l[i] (List.getElem_mem _)
    have htk : l.take (i + 1) = l.take i ++ [l[i]] := List.take_succ_eq_append_getElem hi
    have hu := hok.2
    have hcv : IntKind.u64.wrap l[i] = l[i] := wrap_u (by omega) (by omega)
    unfold F68_L0
    by_cases h1 : l[i] < 48
    · simp -implicitDefEqProofs only [go_sem, Nat.reduceAdd, Nat.reduceMul, Nat.reduceLT, Nat.reduceLeDiff, Nat.reduceEqDiff, Nat.reduceBEq, reduceCtorEq, Int.reduceLT, Int.reduceLE, Int.reduceEq, Int.reduceGT, Int.reduceGE, Int.reduceToNat, Int.reduceNeg, t4, t7, t8, str_len, hcmp, str_get hl hi, hcv, decide_eq_true h1]
      refine .mk (.inr ⟨by simp, rfl, rfl, ?_, .inr ⟨fun h => ?_, ?_⟩⟩)
      · simp -implicitDefEqProofs only [go_sem, Nat.reduceAdd, Nat.reduceMul, Nat.reduceLT, Nat.reduceLeDiff, Nat.reduceEqDiff, Nat.reduceBEq, reduceCtorEq, Int.reduceLT, Int.reduceLE, Int.reduceEq, Int.reduceGT, Int.reduceGE, Int.reduceToNat, Int.reduceNeg, t5]
      · have := h.1 l[i] (List.getElem_mem _)
        unfold isDg at this
        omega
      · simp -implicitDefEqProofs only [go_sem, Nat.reduceAdd, Nat.reduceMul, Nat.reduceLT, Nat.reduceLeDiff, Nat.reduceEqDiff, Nat.reduceBEq, reduceCtorEq, Int.reduceLT, Int.reduceLE, Int.reduceEq, Int.reduceGT, Int.reduceGE, Int.reduceToNat, Int.reduceNeg]
    · have hsub : IntKind.u64.wrap (l[i] - 48) = l[i] - 48 := wrap_u (by omega) (by omega)
      by_cases h2 : l[i] - 48 > 9
      · simp -implicitDefEqProofs only [go_sem, Nat.reduceAdd, Nat.reduceMul, Nat.reduceLT, Nat.reduceLeDiff, Nat.reduceEqDiff, Nat.reduceBEq, reduceCtorEq, Int.reduceLT, Int.reduceLE, Int.reduceEq, Int.reduceGT, Int.reduceGE, Int.reduceToNat, Int.reduceNeg, t4, t7, t8, str_len, hcmp, str_get hl hi, hcv, decide_eq_false h1, hsub, decide_eq_true h2]
        refine .mk (.inr ⟨by simp, rfl, rfl, ?_, .inr ⟨fun h => ?_, ?_⟩⟩)
        · simp -implicitDefEqProofs only [go_sem, Nat.reduceAdd, Nat.reduceMul, Nat.reduceLT, Nat.reduceLeDiff, Nat.reduceEqDiff, Nat.reduceBEq, reduceCtorEq, Int.reduceLT, Int.reduceLE, Int.reduceEq, Int.reduceGT, Int.reduceGE, Int.reduceToNat, Int.reduceNeg, t5]
        · have := h.1 l[i] (List.getElem_mem _)
          unfold isDg at this
          omega
        · simp -implicitDefEqProofs only [go_sem, Nat.reduceAdd, Nat.reduceMul, Nat.reduceLT, Nat.reduceLeDiff, Nat.reduceEqDiff, Nat.reduceBEq, reduceCtorEq, Int.reduceLT, Int.reduceLE, Int.reduceEq, Int.reduceGT, Int.reduceGE, Int.reduceToNat, Int.reduceNeg]
      · have hsub2 : IntKind.u64.wrap (9223372036854775808 - (l[i] - 48)) = 9223372036854775808 - (l[i] - 48) := wrap_u (by omega) (by omega)
        have hq : IntKind.u64.wrap ((9223372036854775808 - (l[i] - 48)).tdiv 10) = (9223372036854775808 - (l[i] - 48)) / 10 := by
          rw [Int.tdiv_eq_ediv_of_nonneg (by omega)]
          exact wrap_u (by omega) (by omega)
        have hdv : dval (l.take (i + 1)) 0 = dval (l.take i) 0 * 10 + (l[i] - 48).toNat := by rw [htk, dval_snoc]
        have hqq := fun t x => aBin_quo Tryd.prog t .u64 x 10 (by decide)
        by_cases h3 : ((dval (l.take i) 0 : Nat) : Int) > (9223372036854775808 - (l[i] - 48)) / 10
        · simp -implicitDefEqProofs only [go_sem, Nat.reduceAdd, Nat.reduceMul, Nat.reduceLT, Nat.reduceLeDiff, Nat.reduceEqDiff, Nat.reduceBEq, reduceCtorEq, Int.reduceLT, Int.reduceLE, Int.reduceEq, Int.reduceGT, Int.reduceGE, Int.reduceToNat, Int.reduceNeg, t4, t6, t7, t8, str_len, hcmp, str_get hl hi, hcv, decide_eq_false h1, hsub, decide_eq_false h2, hsub2, hqq, hq, decide_eq_true h3]
          refine .mk (.inr ⟨by simp, rfl, rfl, ?_, .inr ⟨fun h => ?_, ?_⟩⟩)
          · simp -implicitDefEqProofs only [go_sem, Nat.reduceAdd, Nat.reduceMul, Nat.reduceLT, Nat.reduceLeDiff, Nat.reduceEqDiff, Nat.reduceBEq, reduceCtorEq, Int.reduceLT, Int.reduceLE, Int.reduceEq, Int.reduceGT, Int.reduceGE, Int.reduceToNat, Int.reduceNeg, t5]
          · have := (h.take (i + 1)).2
            omega
          · simp -implicitDefEqProofs only [go_sem, Nat.reduceAdd, Nat.reduceMul, Nat.reduceLT, Nat.reduceLeDiff, Nat.reduceEqDiff, Nat.reduceBEq, reduceCtorEq, Int.reduceLT, Int.reduceLE, Int.reduceEq, Int.reduceGT, Int.reduceGE, Int.reduceToNat, Int.reduceNeg]
        · have hm : IntKind.u64.wrap ((dval (l.take i) 0 : Nat) * 10) = (dval (l.take i) 0 : Nat) * 10 := wrap_u (by omega) (by omega)
          have ha : IntKind.u64.wrap ((dval (l.take i) 0 : Nat) * 10 + (l[i] - 48)) = (dval (l.take (i + 1)) 0 : Nat) := by
            rw [wrap_u (by omega) (by omega), hdv]
            omega
          simp -implicitDefEqProofs only [go_sem, Nat.reduceAdd, Nat.reduceMul, Nat.reduceLT, Nat.reduceLeDiff, Nat.reduceEqDiff, Nat.reduceBEq, reduceCtorEq, Int.reduceLT, Int.reduceLE, Int.reduceEq, Int.reduceGT, Int.reduceGE, Int.reduceToNat, Int.reduceNeg, t4, t6, t7, t8, str_len, hcmp, str_get hl hi, hcv, decide_eq_false h1, hsub, decide_eq_false h2, hsub2, hqq, hq, decide_eq_false h3, hm, ha, wrapS (i := i) (by omega)]
          refine .mk (.inl ⟨rfl, rfl, ?_, ?_, ?_, ?_, ?_, ?_, ?_⟩)
          · simp -implicitDefEqProofs only [go_sem, Nat.reduceAdd, Nat.reduceMul, Nat.reduceLT, Nat.reduceLeDiff, Nat.reduceEqDiff, Nat.reduceBEq, reduceCtorEq, Int.reduceLT, Int.reduceLE, Int.reduceEq, Int.reduceGT, Int.reduceGE, Int.reduceToNat, Int.reduceNeg, t0]
          · simp -implicitDefEqProofs only [go_sem, Nat.reduceAdd, Nat.reduceMul, Nat.reduceLT, Nat.reduceLeDiff, Nat.reduceEqDiff, Nat.reduceBEq, reduceCtorEq, Int.reduceLT, Int.reduceLE, Int.reduceEq, Int.reduceGT, Int.reduceGE, Int.reduceToNat, Int.reduceNeg, t4]
          · simp -implicitDefEqProofs only [go_sem, Nat.reduceAdd, Nat.reduceMul, Nat.reduceLT, Nat.reduceLeDiff, Nat.reduceEqDiff, Nat.reduceBEq, reduceCtorEq, Int.reduceLT, Int.reduceLE, Int.reduceEq, Int.reduceGT, Int.reduceGE, Int.reduceToNat, Int.reduceNeg, t5]
          · simp -implicitDefEqProofs only [go_sem, Nat.reduceAdd, Nat.reduceMul, Nat.reduceLT, Nat.reduceLeDiff, Nat.reduceEqDiff, Nat.reduceBEq, reduceCtorEq, Int.reduceLT, Int.reduceLE, Int.reduceEq, Int.reduceGT, Int.reduceGE, Int.reduceToNat, Int.reduceNeg]
          · simp -implicitDefEqProofs only [go_sem, Nat.reduceAdd, Nat.reduceMul, Nat.reduceLT, Nat.reduceLeDiff, Nat.reduceEqDiff, Nat.reduceBEq, reduceCtorEq, Int.reduceLT, Int.reduceLE, Int.reduceEq, Int.reduceGT, Int.reduceGE, Int.reduceToNat, Int.reduceNeg, t7]
          · simp -implicitDefEqProofs only [go_sem, Nat.reduceAdd, Nat.reduceMul, Nat.reduceLT, Nat.reduceLeDiff, Nat.reduceEqDiff, Nat.reduceBEq, reduceCtorEq, Int.reduceLT, Int.reduceLE, Int.reduceEq, Int.reduceGT, Int.reduceGE, Int.reduceToNat, Int.reduceNeg]
          · refine ⟨fun x hx => ?_, by rw [hdv]; omega⟩
            rw [htk] at hx
            simp only [List.mem_append, List.mem_cons, List.not_mem_nil, or_false] at hx
            rcases hx with hx | rfl
            · exact hok.1 x hx
            · unfold isDg
              omega
  · rintro ⟨T1, H1⟩ ⟨hH, t0, t4, t5, t6, t7, t8, hok⟩
    simp only at hH t0 t4 t5 t6 t7 t8
    subst hH
    have hcmp : decide (((l.length : Nat) : Int) < ((l.length : Nat) : Int)) = false := decide_eq_false (by omega)
    rw [List.take_of_length_le (Nat.le_refl _)] at t6 hok
    unfold F68_L0
    simp -implicitDefEqProofs only [go_sem, Nat.reduceAdd, Nat.reduceMul, Nat.reduceLT, Nat.reduceLeDiff, Nat.reduceEqDiff, Nat.reduceBEq, reduceCtorEq, Int.reduceLT, Int.reduceLE, Int.reduceEq, Int.reduceGT, Int.reduceGE, Int.reduceToNat, Int.reduceNeg, t4, t7, t8, str_len, hcmp]
    refine .mk ⟨by simp, rfl, rfl, ?_, .inl ⟨hok, ?_, ?_⟩⟩
    · simp -implicitDefEqProofs only [go_sem, Nat.reduceAdd, Nat.reduceMul, Nat.reduceLT, Nat.reduceLeDiff, Nat.reduceEqDiff, Nat.reduceBEq, reduceCtorEq, Int.reduceLT, Int.reduceLE, Int.reduceEq, Int.reduceGT, Int.reduceGE, Int.reduceToNat, Int.reduceNeg, t5]
    · simp -implicitDefEqProofs only [go_sem, Nat.reduceAdd, Nat.reduceMul, Nat.reduceLT, Nat.reduceLeDiff, Nat.reduceEqDiff, Nat.reduceBEq, reduceCtorEq, Int.reduceLT, Int.reduceLE, Int.reduceEq, Int.reduceGT, Int.reduceGE, Int.reduceToNat, Int.reduceNeg, t6]
    · simp -implicitDefEqProofs only [go_sem, Nat.reduceAdd, Nat.reduceMul, Nat.reduceLT, Nat.reduceLeDiff, Nat.reduceEqDiff, Nat.reduceBEq, reduceCtorEq, Int.reduceLT, Int.reduceLE, Int.reduceEq, Int.reduceGT, Int.reduceGE, Int.reduceToNat, Int.reduceNeg, t7]
/-- The loop does nothing when there is nothing to read. -/
theorem parse_skip (d : Nat) {H : AH} {T : Tm} (h7 : T 7 = .bool false) :
    Ret (Ri.iter big (F68_L0 (RT d) (Ri.iter big)) (T, H)) fun r => r.1 = .exit 0 ∧ r.2.2 = H ∧ r.2.1 7 = .bool false := by
  refine Ret.upTo (n := 0) (fun i t => t.2 = H ∧ t.1 7 = .bool false) (by unfold big; omega) ⟨rfl, h7⟩ (fun i s hi => absurd hi (Nat.not_lt_zero _)) ?_
  rintro ⟨T1, H1⟩ ⟨hH, t7⟩
  simp only at hH t7
  subst hH
  unfold F68_L0
  simp -implicitDefEqProofs only [go_sem, Nat.reduceAdd, Nat.reduceMul, Nat.reduceLT, Nat.reduceLeDiff, Nat.reduceEqDiff, Nat.reduceBEq, reduceCtorEq, Int.reduceLT, Int.reduceLE, Int.reduceEq, Int.reduceGT, Int.reduceGE, Int.reduceToNat, Int.reduceNeg, t7]
  refine .mk ⟨by simp, rfl, rfl, ?_⟩
  simp -implicitDefEqProofs only [go_sem, Nat.reduceAdd, Nat.reduceMul, Nat.reduceLT, Nat.reduceLeDiff, Nat.reduceEqDiff, Nat.reduceBEq, reduceCtorEq, Int.reduceLT, Int.reduceLE, Int.reduceEq, Int.reduceGT, Int.reduceGE, Int.reduceToNat, Int.reduceNeg, t7]
def numAV (s : List Int) : AV := match parseN s with
  | some n => .tuple [.int .i64 n, .int .i64 0]
  | none => .tuple [.int .i64 0, .int .i64 10]
theorem parseN_spec (d : Nat) (H : AH) {s : List Int} (hs : Bs s) (hlen : s.length ≤ 1000) :
    Ret (RT (d + 1) 68 [.str (strOfNums s)] H) fun r => r.2 = H ∧ r.1 = numAV s := by
  rw [R68]
  unfold F68
  have hne := str_neq hs Bs.nil 9
  rw [← str_nil] at hne
  have no : ∀ {l : List Int}, l = digitsOf s → ¬ (l ≠ [] ∧ (l.head? = some 48 → s.length = 1)) → numAV s = .tuple [.int .i64 0, .int .i64 10] := by
    rintro l rfl h
    unfold numAV parseN
    rw [if_neg fun hh => h ⟨hh.1, hh.2.2.1⟩]
  have no2 : ∀ {l : List Int}, l = digitsOf s → ¬ (OkD l ∧ dval l 0 ≤ lim (decide (s.head? = some 45))) → numAV s = .tuple [.int .i64 0, .int .i64 10] := by
    rintro l rfl h
    unfold numAV parseN
    rw [if_neg fun hh => h ⟨⟨hh.2.1, Nat.le_trans hh.2.2.2 (by unfold lim; split <;> omega)⟩, hh.2.2.2⟩]
  -- what comes behind the sign
  have main : ∀ (T : Tm) (below : Bool) (l : List Int), l = digitsOf s → below = decide (s.head? = some 45) → Bs l → l.length ≤ s.length → T 0 = .str (strOfNums s) → T 4 = .str (strOfNums l) → T 5 = .bool below →
      Ret (F68_J1 (RT d) (Ri.iter big) T H) fun r => r.2 = H ∧ r.1 = numAV s := by
    intro T below l hld hbel hl hll a0 a4 a5
    have hne2 := str_neq hl Bs.nil 9
    rw [← str_nil] at hne2
    unfold F68_J1
    have skip : ¬ (l ≠ [] ∧ (l.head? = some 48 → s.length = 1)) → ∀ T' : Tm, T' 7 = .bool false → Ret ((Ri.iter big (F68_L0 (RT d) (Ri.iter big)) (T', H)).bind fun r35 => match r35.1 with
       | .normal => none
       | .exit j36 => if j36 = 0 then
       ((aUn .not (r35.2.1 7)).bind fun v75 =>
       ((gdv v75 false).bind fun g76 => if g76 = true then (some (r35.2.1 6)) else some (.tuple [])).bind fun v77 =>
       ((gdv v75 false).bind fun g78 => if g78 = true then (aBin Tryd.prog .eql 131 v77 (.int .u64 9223372036854775808)) else some (.tuple [])).bind fun v79 =>
       ((gdv v75 false).bind fun g80 => if g80 = true then (some v79) else some (.tuple [])).bind fun v81 =>
       ((gdv v81 true).bind fun g82 => if g82 = true then (some (r35.2.1 5)) else some (.tuple [])).bind fun v83 =>
       ((gdv v81 true).bind fun g84 => if g84 = true then (aUn .not v83) else some (.tuple [])).bind fun v85 =>
       ((gdv v75 false).bind fun g87 => if g87 = true then ((asB v81).bind fun b86 => if b86 = true then some v85 else some (.bool false)) else some (.tuple [])).bind fun v88 =>
       ((asB v75).bind fun b89 => if b89 = true then some (.bool true) else some v88).bind fun v90 =>
       (asB v90).bind fun b91 => if b91 = true then
        (some ((.tuple [(.int .i64 0), (.int .i64 10)]), r35.2.2))
       else
        ((asB (r35.2.1 5)).bind fun b92 => if b92 = true then
         ((aUn .neg (r35.2.1 6)).bind fun v93 =>
         (cvInt .i64 v93).bind fun v94 =>
         some ((.tuple [v94, (.int .i64 0)]), r35.2.2))
        else
         ((cvInt .i64 (r35.2.1 6)).bind fun v95 =>
         some ((.tuple [v95, (.int .i64 0)]), r35.2.2))))
       else
       (none)
       | .ret => some ((.tuple [(r35.2.1 2), (r35.2.1 3)]), r35.2.2)) fun r => r.2 = H ∧ r.1 = numAV s := by
      intro hc T' h7
      refine Ret.then (parse_skip d h7) ?_
      rintro ⟨e, T1, H1⟩ ⟨rfl, hH, t7⟩
      simp only at hH t7
      subst hH
      simp -implicitDefEqProofs only [go_sem, Nat.reduceAdd, Nat.reduceMul, Nat.reduceLT, Nat.reduceLeDiff, Nat.reduceEqDiff, Nat.reduceBEq, reduceCtorEq, Int.reduceLT, Int.reduceLE, Int.reduceEq, Int.reduceGT, Int.reduceGE, Int.reduceToNat, Int.reduceNeg, t7]
      exact .mk ⟨rfl, (no hld hc).symm⟩
    have run : (l ≠ [] ∧ (l.head? = some 48 → s.length = 1)) → ∀ T' : Tm, T' 0 = .str (strOfNums s) → T' 4 = .str (strOfNums l) → T' 5 = .bool below → T' 6 = .int .u64 0 → T' 7 = .bool true → T' 8 = .int .i64 0 → Ret ((Ri.iter big (F68_L0 (RT d) (Ri.iter big)) (T', H)).bind fun r35 => match r35.1 with
       | .normal => none
       | .exit j36 => if j36 = 0 then
       ((aUn .not (r35.2.1 7)).bind fun v75 =>
       ((gdv v75 false).bind fun g76 => if g76 = true then (some (r35.2.1 6)) else some (.tuple [])).bind fun v77 =>
       ((gdv v75 false).bind fun g78 => if g78 = true then (aBin Tryd.prog .eql 131 v77 (.int .u64 9223372036854775808)) else some (.tuple [])).bind fun v79 =>
       ((gdv v75 false).bind fun g80 => if g80 = true then (some v79) else some (.tuple [])).bind fun v81 =>
       ((gdv v81 true).bind fun g82 => if g82 = true then (some (r35.2.1 5)) else some (.tuple [])).bind fun v83 =>
       ((gdv v81 true).bind fun g84 => if g84 = true then (aUn .not v83) else some (.tuple [])).bind fun v85 =>
       ((gdv v75 false).bind fun g87 => if g87 = true then ((asB v81).bind fun b86 => if b86 = true then some v85 else some (.bool false)) else some (.tuple [])).bind fun v88 =>
       ((asB v75).bind fun b89 => if b89 = true then some (.bool true) else some v88).bind fun v90 =>
       (asB v90).bind fun b91 => if b91 = true then
        (some ((.tuple [(.int .i64 0), (.int .i64 10)]), r35.2.2))
       else
        ((asB (r35.2.1 5)).bind fun b92 => if b92 = true then
         ((aUn .neg (r35.2.1 6)).bind fun v93 =>
         (cvInt .i64 v93).bind fun v94 =>
         some ((.tuple [v94, (.int .i64 0)]), r35.2.2))
        else
         ((cvInt .i64 (r35.2.1 6)).bind fun v95 =>
         some ((.tuple [v95, (.int .i64 0)]), r35.2.2))))
       else
       (none)
       | .ret => some ((.tuple [(r35.2.1 2), (r35.2.1 3)]), r35.2.2)) fun r => r.2 = H ∧ r.1 = numAV s := by
      intro hc T' b0 b4 b5 b6 b7 b8
      refine Ret.then (parse_loop d hl (by omega) ⟨rfl, b0, b4, b5, b6, b7, b8, ⟨by simp, by simp [dval]⟩⟩) ?_
      rintro ⟨e, T1, H1⟩ ⟨rfl, hH, t5, ⟨hok, t6, t7⟩ | ⟨hno, t7⟩⟩
      · simp only at hH t5 t6 t7
        subst hH
        have hle := hok.2
        have yes : dval l 0 ≤ lim below → numAV s = .tuple [.int .i64 (if below = true then -(dval l 0 : Nat) else (dval l 0 : Nat)), .int .i64 0] := by
          intro h
          subst hld hbel
          unfold numAV parseN
          rw [if_pos ⟨hc.1, hok.1, hc.2, h⟩]
          simp
        cases below
        · by_cases h63 : ((dval l 0 : Nat) : Int) = 9223372036854775808
          · simp -implicitDefEqProofs only [go_sem, Nat.reduceAdd, Nat.reduceMul, Nat.reduceLT, Nat.reduceLeDiff, Nat.reduceEqDiff, Nat.reduceBEq, reduceCtorEq, Int.reduceLT, Int.reduceLE, Int.reduceEq, Int.reduceGT, Int.reduceGE, Int.reduceToNat, Int.reduceNeg, t5, t6, t7, decide_eq_true h63]
            refine .mk ⟨rfl, (no2 hld ?_).symm⟩
            rw [← hbel]
            simp only [lim, Bool.false_eq_true, if_false]
            intro hh
            have := hh.2
            omega
          · have hcv : IntKind.i64.wrap ((dval l 0 : Nat) : Int) = (dval l 0 : Nat) := wrap_id (by unfold InI; omega)
            simp -implicitDefEqProofs only [go_sem, Nat.reduceAdd, Nat.reduceMul, Nat.reduceLT, Nat.reduceLeDiff, Nat.reduceEqDiff, Nat.reduceBEq, reduceCtorEq, Int.reduceLT, Int.reduceLE, Int.reduceEq, Int.reduceGT, Int.reduceGE, Int.reduceToNat, Int.reduceNeg, t5, t6, t7, decide_eq_false h63, hcv]
            refine .mk ⟨rfl, ?_⟩
            rw [yes (by simp only [lim, Bool.false_eq_true, if_false]; omega)]
            simp
        · have hcv : IntKind.i64.wrap (IntKind.u64.wrap (0 - ((dval l 0 : Nat) : Int))) = -((dval l 0 : Nat) : Int) := by
            simp only [IntKind.wrap, IntKind.bits, IntKind.signed]
            simp
            omega
          by_cases h63 : ((dval l 0 : Nat) : Int) = 9223372036854775808
          · simp -implicitDefEqProofs only [go_sem, Nat.reduceAdd, Nat.reduceMul, Nat.reduceLT, Nat.reduceLeDiff, Nat.reduceEqDiff, Nat.reduceBEq, reduceCtorEq, Int.reduceLT, Int.reduceLE, Int.reduceEq, Int.reduceGT, Int.reduceGE, Int.reduceToNat, Int.reduceNeg, t5, t6, t7, decide_eq_true h63, hcv]
            refine .mk ⟨rfl, ?_⟩
            rw [yes (by simp only [lim, if_true]; omega)]
            simp
          · simp -implicitDefEqProofs only [go_sem, Nat.reduceAdd, Nat.reduceMul, Nat.reduceLT, Nat.reduceLeDiff, Nat.reduceEqDiff, Nat.reduceBEq, reduceCtorEq, Int.reduceLT, Int.reduceLE, Int.reduceEq, Int.reduceGT, Int.reduceGE, Int.reduceToNat, Int.reduceNeg, t5, t6, t7, decide_eq_false h63, hcv]
            refine .mk ⟨rfl, ?_⟩
            rw [yes (by simp only [lim, if_true]; omega)]
            simp
      · simp only at hH t7
        subst hH
        simp -implicitDefEqProofs only [go_sem, Nat.reduceAdd, Nat.reduceMul, Nat.reduceLT, Nat.reduceLeDiff, Nat.reduceEqDiff, Nat.reduceBEq, reduceCtorEq, Int.reduceLT, Int.reduceLE, Int.reduceEq, Int.reduceGT, Int.reduceGE, Int.reduceToNat, Int.reduceNeg, t7]
        refine .mk ⟨rfl, (no2 hld fun hh => hno hh.1).symm⟩
    by_cases hl0 : l = []
    · simp -implicitDefEqProofs only [go_sem, Nat.reduceAdd, Nat.reduceMul, Nat.reduceLT, Nat.reduceLeDiff, Nat.reduceEqDiff, Nat.reduceBEq, reduceCtorEq, Int.reduceLT, Int.reduceLE, Int.reduceEq, Int.reduceGT, Int.reduceGE, Int.reduceToNat, Int.reduceNeg, a4, hne2, decide_eq_true hl0]
      refine skip (fun h => h.1 hl0) _ ?_
      simp -implicitDefEqProofs only [go_sem, Nat.reduceAdd, Nat.reduceMul, Nat.reduceLT, Nat.reduceLeDiff, Nat.reduceEqDiff, Nat.reduceBEq, reduceCtorEq, Int.reduceLT, Int.reduceLE, Int.reduceEq, Int.reduceGT, Int.reduceGE, Int.reduceToNat, Int.reduceNeg]
    · have h1 : 0 < l.length := by cases l with | nil => exact absurd rfl hl0 | cons a l => simp
      have hg := str_get hl h1 .i64
      rw [Int.natCast_zero] at hg
      have hhd : l.head? = some l[0] := by cases l with | nil => exact absurd rfl hl0 | cons a l => rfl
      by_cases h48 : l[0] = 48
      · by_cases hs1 : ((s.length : Nat) : Int) = 1
        · simp -implicitDefEqProofs only [go_sem, Nat.reduceAdd, Nat.reduceMul, Nat.reduceLT, Nat.reduceLeDiff, Nat.reduceEqDiff, Nat.reduceBEq, reduceCtorEq, Int.reduceLT, Int.reduceLE, Int.reduceEq, Int.reduceGT, Int.reduceGE, Int.reduceToNat, Int.reduceNeg, a0, a4, hne2, decide_eq_false hl0, hg, decide_eq_true h48, str_len, decide_eq_true hs1]
          refine run ⟨hl0, fun _ => by omega⟩ _ ?_ ?_ ?_ ?_ ?_ ?_ <;> simp -implicitDefEqProofs only [go_sem, Nat.reduceAdd, Nat.reduceMul, Nat.reduceLT, Nat.reduceLeDiff, Nat.reduceEqDiff, Nat.reduceBEq, reduceCtorEq, Int.reduceLT, Int.reduceLE, Int.reduceEq, Int.reduceGT, Int.reduceGE, Int.reduceToNat, Int.reduceNeg, a0, a4, a5]
        · simp -implicitDefEqProofs only [go_sem, Nat.reduceAdd, Nat.reduceMul, Nat.reduceLT, Nat.reduceLeDiff, Nat.reduceEqDiff, Nat.reduceBEq, reduceCtorEq, Int.reduceLT, Int.reduceLE, Int.reduceEq, Int.reduceGT, Int.reduceGE, Int.reduceToNat, Int.reduceNeg, a0, a4, hne2, decide_eq_false hl0, hg, decide_eq_true h48, str_len, decide_eq_false hs1]
          refine skip (fun h => hs1 ?_) _ ?_
          · have := h.2 (by rw [hhd, h48])
            omega
          · simp -implicitDefEqProofs only [go_sem, Nat.reduceAdd, Nat.reduceMul, Nat.reduceLT, Nat.reduceLeDiff, Nat.reduceEqDiff, Nat.reduceBEq, reduceCtorEq, Int.reduceLT, Int.reduceLE, Int.reduceEq, Int.reduceGT, Int.reduceGE, Int.reduceToNat, Int.reduceNeg]
      · simp -implicitDefEqProofs only [go_sem, Nat.reduceAdd, Nat.reduceMul, Nat.reduceLT, Nat.reduceLeDiff, Nat.reduceEqDiff, Nat.reduceBEq, reduceCtorEq, Int.reduceLT, Int.reduceLE, Int.reduceEq, Int.reduceGT, Int.reduceGE, Int.reduceToNat, Int.reduceNeg, a0, a4, hne2, decide_eq_false hl0, hg, decide_eq_false h48, str_len]
        refine run ⟨hl0, fun h => ?_⟩ _ ?_ ?_ ?_ ?_ ?_ ?_
        · rw [hhd] at h
          exact absurd (Option.some.inj h) h48
        all_goals simp -implicitDefEqProofs only [go_sem, Nat.reduceAdd, Nat.reduceMul, Nat.reduceLT, Nat.reduceLeDiff, Nat.reduceEqDiff, Nat.reduceBEq, reduceCtorEq, Int.reduceLT, Int.reduceLE, Int.reduceEq, Int.reduceGT, Int.reduceGE, Int.reduceToNat, Int.reduceNeg, a0, a4, a5]
  by_cases h0 : s = []
  · simp -implicitDefEqProofs only [go_sem, Nat.reduceAdd, Nat.reduceMul, Nat.reduceLT, Nat.reduceLeDiff, Nat.reduceEqDiff, Nat.reduceBEq, reduceCtorEq, Int.reduceLT, Int.reduceLE, Int.reduceEq, Int.reduceGT, Int.reduceGE, Int.reduceToNat, Int.reduceNeg, hne, decide_eq_true h0]
    refine main _ false s (by subst h0; rfl) (by subst h0; rfl) hs (Nat.le_refl _) ?_ ?_ ?_ <;> simp -implicitDefEqProofs only [go_sem, Nat.reduceAdd, Nat.reduceMul, Nat.reduceLT, Nat.reduceLeDiff, Nat.reduceEqDiff, Nat.reduceBEq, reduceCtorEq, Int.reduceLT, Int.reduceLE, Int.reduceEq, Int.reduceGT, Int.reduceGE, Int.reduceToNat, Int.reduceNeg]
  · have h1 : 0 < s.length := by cases s with | nil => exact absurd rfl h0 | cons a l => simp
    have hg := str_get hs h1 .i64
    rw [Int.natCast_zero] at hg
    have hhd : s.head? = some s[0] := by cases s with | nil => exact absurd rfl h0 | cons a l => rfl
    by_cases h45 : s[0] = 45
    · have hf := str_from hs (a := 1) (by omega) .i64
      rw [Int.natCast_one] at hf
      simp -implicitDefEqProofs only [go_sem, Nat.reduceAdd, Nat.reduceMul, Nat.reduceLT, Nat.reduceLeDiff, Nat.reduceEqDiff, Nat.reduceBEq, reduceCtorEq, Int.reduceLT, Int.reduceLE, Int.reduceEq, Int.reduceGT, Int.reduceGE, Int.reduceToNat, Int.reduceNeg, hne, decide_eq_false h0, hg, decide_eq_true h45, hf]
      refine main _ true (s.drop 1) (by unfold digitsOf; rw [hhd, h45]; simp) (by rw [hhd, h45]; rfl) (hs.drop 1) (by simp) ?_ ?_ ?_ <;> simp -implicitDefEqProofs only [go_sem, Nat.reduceAdd, Nat.reduceMul, Nat.reduceLT, Nat.reduceLeDiff, Nat.reduceEqDiff, Nat.reduceBEq, reduceCtorEq, Int.reduceLT, Int.reduceLE, Int.reduceEq, Int.reduceGT, Int.reduceGE, Int.reduceToNat, Int.reduceNeg]
    · simp -implicitDefEqProofs only [go_sem, Nat.reduceAdd, Nat.reduceMul, Nat.reduceLT, Nat.reduceLeDiff, Nat.reduceEqDiff, Nat.reduceBEq, reduceCtorEq, Int.reduceLT, Int.reduceLE, Int.reduceEq, Int.reduceGT, Int.reduceGE, Int.reduceToNat, Int.reduceNeg, hne, decide_eq_false h0, hg, decide_eq_false h45]
      refine main _ false s (by unfold digitsOf; rw [hhd]; simp [h45]) (by rw [hhd]; simp [h45]) hs (Nat.le_refl _) ?_ ?_ ?_ <;> simp -implicitDefEqProofs only [go_sem, Nat.reduceAdd, Nat.reduceMul, Nat.reduceLT, Nat.reduceLeDiff, Nat.reduceEqDiff, Nat.reduceBEq, reduceCtorEq, Int.reduceLT, Int.reduceLE, Int.reduceEq, Int.reduceGT, Int.reduceGE, Int.reduceToNat, Int.reduceNeg]
end Go.Proofs.YthiflgncldmkjaaDoor
/- An instruction's line, read by the program. -/
set_option linter.unusedVariables false
set_option linter.unusedSimpArgs false
set_option maxRecDepth 100000
namespace Go.Proofs.YthiflgncldmkjaaDoor
open Go.Ri

/-- The instruction that is made lies in a block of its own. -/
structure Out3 (H Hm : AH) (t : AH) (op n m : Int) : Prop where
  ext : Ext H.next H t
  low : H.next < Hm.next
  blk : t.m Hm.next = some ⟨[.int .i64 op, .int .i64 n, .int .i64 m], 29, true⟩
  old : ∀ b, b < Hm.next → t.m b = Hm.m b
  next : t.next = Hm.next + 1
def opQ (k : Nat) (ws : List (List Int)) : Int := match ws with
  | [] => 0
  | w :: _ => opP k w
structure IQ (H Hm : AH) (lv : AV) (ws : List (List Int)) (i : Nat) (t : St) : Prop where
  t2 : t.1 2 = .ptr (some (H.next, 0))
  t3 : t.1 3 = .int .i64 0
  t4 : t.1 4 = lv
  t5 : t.1 5 = .ptr (some (Hm.next, 0))
  t14 : t.1 14 = .agg wordsA
  t15 : t.1 15 = .int .i64 (i : Nat)
  out : Out3 H Hm t.2 (opQ i ws) 0 0
theorem wordsA_at {i : Nat} (h : i < 26) : wordsA[i]? = some (.str (strOfNums (byteL (wordOf (i : Nat))))) := by
  rw [wordsA_eq, List.getElem?_map, str_byteL]
  have hl : wordsL.length = 26 := by decide
  unfold wordOf
  rw [List.getD_eq_getElem?_getD, Int.toNat_natCast, List.getElem?_eq_getElem (by omega)]
  rfl
theorem set0 (a b c x : AV) : [a, b, c].set 0 x = [x, b, c] := rfl
theorem op_loop (d : Nat) {H Hm : AH} {lv : AV} {ws : List (List Int)} (hb : ∀ w ∈ ws, Bs w) (hmw : Hm.wf) (hs : Strs Hm lv ws) {T : Tm} {H1 : AH} (h0 : IQ H Hm lv ws 0 (T, H1)) :
    Ret (Ri.iter big (F24_L3 (RT d) (Ri.iter big)) (T, H1)) fun r => r.1 = .exit 0 ∧ IQ H Hm lv ws 26 r.2 := by
  refine Ret.upTo (n := 26) (IQ H Hm lv ws) (by unfold big; omega) h0 ?_ ?_
  · rintro i ⟨T1, H2⟩ hi ⟨t2, t3, t4, t5, t14, t15, out⟩
    simp only at t2 t3 t4 t5 t14 t15 out
    have hcmp : decide (((i : Nat) : Int) < 26) = true := decide_eq_true (by omega)
    have hs2 : Strs H2 lv ws := Row.mono hs fun b B hB => by rw [out.old b (hmw b B hB)]; exact hB
    have hal := hs2.alen
    unfold F24_L3
    by_cases hi0 : ((i : Nat) : Int) > 0
    · cases ws with
      | nil =>
        have hc0 : decide (((0 : Nat) : Int) > 0) = false := by decide
        simp -implicitDefEqProofs only [go_sem, Nat.reduceAdd, Nat.reduceMul, Nat.reduceLT, Nat.reduceLeDiff, Nat.reduceEqDiff, Nat.reduceBEq, reduceCtorEq, Int.reduceLT, Int.reduceLE, Int.reduceEq, Int.reduceGT, Int.reduceGE, Int.reduceToNat, Int.reduceNeg, t4, t14, t15, hcmp, words_at hi, wordsA_at hi, decide_eq_true hi0, hal, hc0, F24_J0, wrapS (i := i) (by omega)]
        refine .mk (.inl ⟨rfl, ?_, ?_, ?_, ?_, ?_, ?_, out⟩)
        · simp -implicitDefEqProofs only [go_sem, Nat.reduceAdd, Nat.reduceMul, Nat.reduceLT, Nat.reduceLeDiff, Nat.reduceEqDiff, Nat.reduceBEq, reduceCtorEq, Int.reduceLT, Int.reduceLE, Int.reduceEq, Int.reduceGT, Int.reduceGE, Int.reduceToNat, Int.reduceNeg, t2]
        · simp -implicitDefEqProofs only [go_sem, Nat.reduceAdd, Nat.reduceMul, Nat.reduceLT, Nat.reduceLeDiff, Nat.reduceEqDiff, Nat.reduceBEq, reduceCtorEq, Int.reduceLT, Int.reduceLE, Int.reduceEq, Int.reduceGT, Int.reduceGE, Int.reduceToNat, Int.reduceNeg, t3]
        · simp -implicitDefEqProofs only [go_sem, Nat.reduceAdd, Nat.reduceMul, Nat.reduceLT, Nat.reduceLeDiff, Nat.reduceEqDiff, Nat.reduceBEq, reduceCtorEq, Int.reduceLT, Int.reduceLE, Int.reduceEq, Int.reduceGT, Int.reduceGE, Int.reduceToNat, Int.reduceNeg, t4]
        · simp -implicitDefEqProofs only [go_sem, Nat.reduceAdd, Nat.reduceMul, Nat.reduceLT, Nat.reduceLeDiff, Nat.reduceEqDiff, Nat.reduceBEq, reduceCtorEq, Int.reduceLT, Int.reduceLE, Int.reduceEq, Int.reduceGT, Int.reduceGE, Int.reduceToNat, Int.reduceNeg, t5]
        · simp -implicitDefEqProofs only [go_sem, Nat.reduceAdd, Nat.reduceMul, Nat.reduceLT, Nat.reduceLeDiff, Nat.reduceEqDiff, Nat.reduceBEq, reduceCtorEq, Int.reduceLT, Int.reduceLE, Int.reduceEq, Int.reduceGT, Int.reduceGE, Int.reduceToNat, Int.reduceNeg, t14]
        · simp -implicitDefEqProofs only [go_sem, Nat.reduceAdd, Nat.reduceMul, Nat.reduceLT, Nat.reduceLeDiff, Nat.reduceEqDiff, Nat.reduceBEq, reduceCtorEq, Int.reduceLT, Int.reduceLE, Int.reduceEq, Int.reduceGT, Int.reduceGE, Int.reduceToNat, Int.reduceNeg]
      | cons w ws =>
        have hc0 : decide (((ws.length + 1 : Nat) : Int) > 0) = true := decide_eq_true (by omega)
        obtain ⟨p, e1, e2⟩ := hs2.at (i := 0) (by simp)
        have e1 := e1 .i64
        rw [Int.natCast_zero] at e1
        simp only [List.getElem_cons_zero] at e2
        have heq := str_eql (hb w (by simp)) (Bs.byteL (wordOf (i : Nat))) 9
        by_cases he : w = byteL (wordOf (i : Nat))
        · have hset : opQ (i + 1) (w :: ws) = (i : Nat) := by
            simp only [opQ, opP]
            rw [if_pos ⟨by omega, he.symm⟩]
          simp -implicitDefEqProofs only [go_sem, Nat.reduceAdd, Nat.reduceMul, Nat.reduceLT, Nat.reduceLeDiff, Nat.reduceEqDiff, Nat.reduceBEq, reduceCtorEq, Int.reduceLT, Int.reduceLE, Int.reduceEq, Int.reduceGT, Int.reduceGE, Int.reduceToNat, Int.reduceNeg, t4, t5, t14, t15, hcmp, words_at hi, wordsA_at hi, decide_eq_true hi0, hal, hc0, e1, e2, heq, decide_eq_true he, out.blk, F24_J0, wrapS (i := i) (by omega)]
          refine .mk (.inl ⟨rfl, ?_, ?_, ?_, ?_, ?_, ?_, out.ext.put (Nat.le_of_lt out.low) (by rw [out.next]; omega) _, out.low, ?_, fun b hb => ?_, out.next⟩)
          · simp -implicitDefEqProofs only [go_sem, Nat.reduceAdd, Nat.reduceMul, Nat.reduceLT, Nat.reduceLeDiff, Nat.reduceEqDiff, Nat.reduceBEq, reduceCtorEq, Int.reduceLT, Int.reduceLE, Int.reduceEq, Int.reduceGT, Int.reduceGE, Int.reduceToNat, Int.reduceNeg, t2]
          · simp -implicitDefEqProofs only [go_sem, Nat.reduceAdd, Nat.reduceMul, Nat.reduceLT, Nat.reduceLeDiff, Nat.reduceEqDiff, Nat.reduceBEq, reduceCtorEq, Int.reduceLT, Int.reduceLE, Int.reduceEq, Int.reduceGT, Int.reduceGE, Int.reduceToNat, Int.reduceNeg, t3]
          · simp -implicitDefEqProofs only [go_sem, Nat.reduceAdd, Nat.reduceMul, Nat.reduceLT, Nat.reduceLeDiff, Nat.reduceEqDiff, Nat.reduceBEq, reduceCtorEq, Int.reduceLT, Int.reduceLE, Int.reduceEq, Int.reduceGT, Int.reduceGE, Int.reduceToNat, Int.reduceNeg, t4]
          · simp -implicitDefEqProofs only [go_sem, Nat.reduceAdd, Nat.reduceMul, Nat.reduceLT, Nat.reduceLeDiff, Nat.reduceEqDiff, Nat.reduceBEq, reduceCtorEq, Int.reduceLT, Int.reduceLE, Int.reduceEq, Int.reduceGT, Int.reduceGE, Int.reduceToNat, Int.reduceNeg, t5]
          · simp -implicitDefEqProofs only [go_sem, Nat.reduceAdd, Nat.reduceMul, Nat.reduceLT, Nat.reduceLeDiff, Nat.reduceEqDiff, Nat.reduceBEq, reduceCtorEq, Int.reduceLT, Int.reduceLE, Int.reduceEq, Int.reduceGT, Int.reduceGE, Int.reduceToNat, Int.reduceNeg, t14]
          · simp -implicitDefEqProofs only [go_sem, Nat.reduceAdd, Nat.reduceMul, Nat.reduceLT, Nat.reduceLeDiff, Nat.reduceEqDiff, Nat.reduceBEq, reduceCtorEq, Int.reduceLT, Int.reduceLE, Int.reduceEq, Int.reduceGT, Int.reduceGE, Int.reduceToNat, Int.reduceNeg]
          · simp [hset]
          · simp only [put_m]
            rw [if_neg (by omega)]
            exact out.old b hb
        · have hset : opQ (i + 1) (w :: ws) = opQ i (w :: ws) := by
            simp only [opQ, opP]
            rw [if_neg fun h => he h.2.symm]
          simp -implicitDefEqProofs only [go_sem, Nat.reduceAdd, Nat.reduceMul, Nat.reduceLT, Nat.reduceLeDiff, Nat.reduceEqDiff, Nat.reduceBEq, reduceCtorEq, Int.reduceLT, Int.reduceLE, Int.reduceEq, Int.reduceGT, Int.reduceGE, Int.reduceToNat, Int.reduceNeg, t4, t14, t15, hcmp, words_at hi, wordsA_at hi, decide_eq_true hi0, hal, hc0, e1, e2, heq, decide_eq_false he, F24_J0, wrapS (i := i) (by omega)]
          refine .mk (.inl ⟨rfl, ?_, ?_, ?_, ?_, ?_, ?_, ?_⟩)
          · simp -implicitDefEqProofs only [go_sem, Nat.reduceAdd, Nat.reduceMul, Nat.reduceLT, Nat.reduceLeDiff, Nat.reduceEqDiff, Nat.reduceBEq, reduceCtorEq, Int.reduceLT, Int.reduceLE, Int.reduceEq, Int.reduceGT, Int.reduceGE, Int.reduceToNat, Int.reduceNeg, t2]
          · simp -implicitDefEqProofs only [go_sem, Nat.reduceAdd, Nat.reduceMul, Nat.reduceLT, Nat.reduceLeDiff, Nat.reduceEqDiff, Nat.reduceBEq, reduceCtorEq, Int.reduceLT, Int.reduceLE, Int.reduceEq, Int.reduceGT, Int.reduceGE, Int.reduceToNat, Int.reduceNeg, t3]
          · simp -implicitDefEqProofs only [go_sem, Nat.reduceAdd, Nat.reduceMul, Nat.reduceLT, Nat.reduceLeDiff, Nat.reduceEqDiff, Nat.reduceBEq, reduceCtorEq, Int.reduceLT, Int.reduceLE, Int.reduceEq, Int.reduceGT, Int.reduceGE, Int.reduceToNat, Int.reduceNeg, t4]
          · simp -implicitDefEqProofs only [go_sem, Nat.reduceAdd, Nat.reduceMul, Nat.reduceLT, Nat.reduceLeDiff, Nat.reduceEqDiff, Nat.reduceBEq, reduceCtorEq, Int.reduceLT, Int.reduceLE, Int.reduceEq, Int.reduceGT, Int.reduceGE, Int.reduceToNat, Int.reduceNeg, t5]
          · simp -implicitDefEqProofs only [go_sem, Nat.reduceAdd, Nat.reduceMul, Nat.reduceLT, Nat.reduceLeDiff, Nat.reduceEqDiff, Nat.reduceBEq, reduceCtorEq, Int.reduceLT, Int.reduceLE, Int.reduceEq, Int.reduceGT, Int.reduceGE, Int.reduceToNat, Int.reduceNeg, t14]
          · simp -implicitDefEqProofs only [go_sem, Nat.reduceAdd, Nat.reduceMul, Nat.reduceLT, Nat.reduceLeDiff, Nat.reduceEqDiff, Nat.reduceBEq, reduceCtorEq, Int.reduceLT, Int.reduceLE, Int.reduceEq, Int.reduceGT, Int.reduceGE, Int.reduceToNat, Int.reduceNeg]
          · rw [hset]; exact out
    · have hset : opQ (i + 1) ws = opQ i ws := by
        have : i = 0 := by omega
        subst this
        cases ws <;> simp [opQ, opP]
      simp -implicitDefEqProofs only [go_sem, Nat.reduceAdd, Nat.reduceMul, Nat.reduceLT, Nat.reduceLeDiff, Nat.reduceEqDiff, Nat.reduceBEq, reduceCtorEq, Int.reduceLT, Int.reduceLE, Int.reduceEq, Int.reduceGT, Int.reduceGE, Int.reduceToNat, Int.reduceNeg, t4, t14, t15, hcmp, words_at hi, wordsA_at hi, decide_eq_false hi0, F24_J0, wrapS (i := i) (by omega)]
      refine .mk (.inl ⟨rfl, ?_, ?_, ?_, ?_, ?_, ?_, ?_⟩)
      · simp -implicitDefEqProofs only [go_sem, Nat.reduceAdd, Nat.reduceMul, Nat.reduceLT, Nat.reduceLeDiff, Nat.reduceEqDiff, Nat.reduceBEq, reduceCtorEq, Int.reduceLT, Int.reduceLE, Int.reduceEq, Int.reduceGT, Int.reduceGE, Int.reduceToNat, Int.reduceNeg, t2]
      · simp -implicitDefEqProofs only [go_sem, Nat.reduceAdd, Nat.reduceMul, Nat.reduceLT, Nat.reduceLeDiff, Nat.reduceEqDiff, Nat.reduceBEq, reduceCtorEq, Int.reduceLT, Int.reduceLE, Int.reduceEq, Int.reduceGT, Int.reduceGE, Int.reduceToNat, Int.reduceNeg, t3]
      · simp -implicitDefEqProofs only [go_sem, Nat.reduceAdd, Nat.reduceMul, Nat.reduceLT, Nat.reduceLeDiff, Nat.reduceEqDiff, Nat.reduceBEq, reduceCtorEq, Int.reduceLT, Int.reduceLE, Int.reduceEq, Int.reduceGT, Int.reduceGE, Int.reduceToNat, Int.reduceNeg, t4]
      · simp -implicitDefEqProofs only [go_sem, Nat.reduceAdd, Nat.reduceMul, Nat.reduceLT, Nat.reduceLeDiff, Nat.reduceEqDiff, Nat.reduceBEq, reduceCtorEq, Int.reduceLT, Int.reduceLE, Int.reduceEq, Int.reduceGT, Int.reduceGE, Int.reduceToNat, Int.reduceNeg, t5]
      · simp -implicitDefEqProofs only [go_sem, Nat.reduceAdd, Nat.reduceMul, Nat.reduceLT, Nat.reduceLeDiff, Nat.reduceEqDiff, Nat.reduceBEq, reduceCtorEq, Int.reduceLT, Int.reduceLE, Int.reduceEq, Int.reduceGT, Int.reduceGE, Int.reduceToNat, Int.reduceNeg, t14]
      · simp -implicitDefEqProofs only [go_sem, Nat.reduceAdd, Nat.reduceMul, Nat.reduceLT, Nat.reduceLeDiff, Nat.reduceEqDiff, Nat.reduceBEq, reduceCtorEq, Int.reduceLT, Int.reduceLE, Int.reduceEq, Int.reduceGT, Int.reduceGE, Int.reduceToNat, Int.reduceNeg]
      · rw [hset]; exact out
  · rintro ⟨T1, H2⟩ ⟨t2, t3, t4, t5, t14, t15, out⟩
    simp only at t2 t3 t4 t5 t14 t15 out
    have hcmp : decide (((26 : Nat) : Int) < 26) = false := by decide
    unfold F24_L3
    simp -implicitDefEqProofs only [go_sem, Nat.reduceAdd, Nat.reduceMul, Nat.reduceLT, Nat.reduceLeDiff, Nat.reduceEqDiff, Nat.reduceBEq, reduceCtorEq, Int.reduceLT, Int.reduceLE, Int.reduceEq, Int.reduceGT, Int.reduceGE, Int.reduceToNat, Int.reduceNeg, t15, hcmp]
    refine .mk ⟨by simp, rfl, ?_, ?_, ?_, ?_, ?_, ?_, out⟩
    · simp -implicitDefEqProofs only [go_sem, Nat.reduceAdd, Nat.reduceMul, Nat.reduceLT, Nat.reduceLeDiff, Nat.reduceEqDiff, Nat.reduceBEq, reduceCtorEq, Int.reduceLT, Int.reduceLE, Int.reduceEq, Int.reduceGT, Int.reduceGE, Int.reduceToNat, Int.reduceNeg, t2]
    · simp -implicitDefEqProofs only [go_sem, Nat.reduceAdd, Nat.reduceMul, Nat.reduceLT, Nat.reduceLeDiff, Nat.reduceEqDiff, Nat.reduceBEq, reduceCtorEq, Int.reduceLT, Int.reduceLE, Int.reduceEq, Int.reduceGT, Int.reduceGE, Int.reduceToNat, Int.reduceNeg, t3]
    · simp -implicitDefEqProofs only [go_sem, Nat.reduceAdd, Nat.reduceMul, Nat.reduceLT, Nat.reduceLeDiff, Nat.reduceEqDiff, Nat.reduceBEq, reduceCtorEq, Int.reduceLT, Int.reduceLE, Int.reduceEq, Int.reduceGT, Int.reduceGE, Int.reduceToNat, Int.reduceNeg, t4]
    · simp -implicitDefEqProofs only [go_sem, Nat.reduceAdd, Nat.reduceMul, Nat.reduceLT, Nat.reduceLeDiff, Nat.reduceEqDiff, Nat.reduceBEq, reduceCtorEq, Int.reduceLT, Int.reduceLE, Int.reduceEq, Int.reduceGT, Int.reduceGE, Int.reduceToNat, Int.reduceNeg, t5]
    · simp -implicitDefEqProofs only [go_sem, Nat.reduceAdd, Nat.reduceMul, Nat.reduceLT, Nat.reduceLeDiff, Nat.reduceEqDiff, Nat.reduceBEq, reduceCtorEq, Int.reduceLT, Int.reduceLE, Int.reduceEq, Int.reduceGT, Int.reduceGE, Int.reduceToNat, Int.reduceNeg, t14]
    · simp -implicitDefEqProofs only [go_sem, Nat.reduceAdd, Nat.reduceMul, Nat.reduceLT, Nat.reduceLeDiff, Nat.reduceEqDiff, Nat.reduceBEq, reduceCtorEq, Int.reduceLT, Int.reduceLE, Int.reduceEq, Int.reduceGT, Int.reduceGE, Int.reduceToNat, Int.reduceNeg, t15]

/-! ### The numbers -/
theorem build95 (p q : Option (Nat × Nat)) : aBuild Tryd.prog 95 [(0, .ptr p), (1, .ptr q)] = some (.agg [.ptr p, .ptr q]) := by kernel_rfl

def sameErr (s : List (List Int)) : Prop := numsP s = none
structure IN (H Hm : AH) (lv : AV) (op : Int) (r : List (List Int)) (i : Nat) (t : St) : Prop where
  t2 : t.1 2 = .ptr (some (H.next, 0))
  t4 : t.1 4 = lv
  t5 : t.1 5 = .ptr (some (Hm.next, 0))
  t51 : t.1 51 = .agg [.ptr (some (Hm.next, 1)), .ptr (some (Hm.next, 2))]
  t52 : t.1 52 = .int .i64 (i : Nat)
  out : ∃ n m, numsP (r.take i) = some (n, m) ∧ Out3 H Hm t.2 op n m
theorem ptrs_at0 (p q : AV) : idxAgg Tryd.prog 94 2 1 (.agg [p, q]) (.int .i64 0) = some p := by
  have e : ∀ (cs : List AV) (o : Nat), aPart Tryd.prog 94 cs o = cs[o]? := fun cs o => by kernel_rfl
  simp only [idxAgg]
  rw [if_pos (by omega), e]
  simp
theorem ptrs_at1 (p q : AV) : idxAgg Tryd.prog 94 2 1 (.agg [p, q]) (.int .i64 1) = some q := by
  have e : ∀ (cs : List AV) (o : Nat), aPart Tryd.prog 94 cs o = cs[o]? := fun cs o => by kernel_rfl
  simp only [idxAgg]
  rw [if_pos (by omega), e]
  simp
/-- How the loop ends. -/
def EN (H Hm : AH) (lv : AV) (op : Int) (r : List (List Int)) (x : Ex × St) : Prop :=
  (x.1 = .exit 2 ∧ IN H Hm lv op r 2 x.2) ∨ (x.1 = .ret ∧ numsP r = none ∧ x.2.1 2 = .ptr (some (H.next, 0)) ∧ x.2.1 3 = .int .i64 61 ∧ Ext H.next H x.2.2 ∧ x.2.2.m H.next = some ⟨[.int .i64 0, .int .i64 0, .int .i64 0], 29, true⟩)
set_option maxHeartbeats 1000000 in
theorem nums_loop (d : Nat) {H Hm : AH} {lv : AV} {op : Int} {w : List Int} {r : List (List Int)} (hb : ∀ x ∈ r, Bs x ∧ x.length ≤ 1000) (hr2 : r.length ≤ 2) (hmw : Hm.wf) (hz : Hm.m H.next = some ⟨[.int .i64 0, .int .i64 0, .int .i64 0], 29, true⟩) (hs : Strs Hm lv (w :: r)) {T : Tm} {H1 : AH} (h0 : IN H Hm lv op r 0 (T, H1)) :
    Ret (Ri.iter big (F24_L2 (RT (d + 1)) (Ri.iter big)) (T, H1)) (EN H Hm lv op r) := by
  refine Ret.upTo (n := 2) (IN H Hm lv op r) (by unfold big; omega) h0 ?_ ?_
  · rintro i ⟨T1, H2⟩ hi ⟨t2, t4, t5, t51, t52, n, m, hnm, out⟩
    simp only at t2 t4 t5 t51 t52 out
    have hcmp : decide (((i : Nat) : Int) < 2) = true := decide_eq_true (by omega)
    have hs2 : Strs H2 lv (w :: r) := Row.mono hs fun b B hB => by rw [out.old b (hmw b B hB)]; exact hB
    have hal := hs2.alen
    unfold F24_L2
    by_cases hir : i < r.length
    · have hc2 : decide (((i + 1 : Nat) : Int) < (((w :: r).length : Nat) : Int)) = true := decide_eq_true (by simp; omega)
      obtain ⟨p, e1, e2⟩ := hs2.at (i := i + 1) (by simp; omega)
      have e1 := e1 .i64
      simp only [List.getElem_cons_succ] at e2
      obtain ⟨⟨v, H3⟩, h68, hH3, hv⟩ := parseN_spec d H2 (hb r[i] (List.getElem_mem _)).1 (hb r[i] (List.getElem_mem _)).2
      simp only at hH3 hv
      subst hH3
      have htk : r.take (i + 1) = r.take i ++ [r[i]] := List.take_succ_eq_append_getElem hir
      have hzz : H3.m H.next = some ⟨[.int .i64 0, .int .i64 0, .int .i64 0], 29, true⟩ := by rw [out.old _ out.low]; exact hz
      rw [List.length_cons] at hc2 hal
      cases hp : parseN r[i] with
      | none =>
        have hvv : v = .tuple [.int .i64 0, .int .i64 10] := by rw [hv]; unfold numAV; rw [hp]
        subst hvv
        have hno : numsP r = none := by
          match r, i, hir, hr2, hp with
          | [a], 0, _, _, hp => simpa [numsP] using hp
          | [a, b], 0, _, _, hp => simp at hp; simp [numsP, hp]
          | [a, b], 1, _, _, hp => simp at hp; simp [numsP, hp]
        have hx := out.ext.put (b := H.next) (Nat.le_refl _) (by rw [out.next]; have := out.low; omega) ⟨[.int .i64 0, .int .i64 0, .int .i64 0], 29, true⟩
        have hidx : ∃ q, idxAgg Tryd.prog 94 2 1 (.agg [.ptr (some (Hm.next, 1)), .ptr (some (Hm.next, 2))]) (.int .i64 (i : Nat)) = some q := by
          have : i = 0 ∨ i = 1 := by omega
          rcases this with rfl | rfl
          · exact ⟨_, ptrs_at0 _ _⟩
          · exact ⟨_, ptrs_at1 _ _⟩
        obtain ⟨q, hidx⟩ := hidx
        simp -implicitDefEqProofs only [go_sem, Nat.reduceAdd, Nat.reduceMul, Nat.reduceLT, Nat.reduceLeDiff, Nat.reduceEqDiff, Nat.reduceBEq, reduceCtorEq, Int.reduceLT, Int.reduceLE, Int.reduceEq, Int.reduceGT, Int.reduceGE, Int.reduceToNat, Int.reduceNeg, t2, t4, t51, t52, hcmp, hidx, wrapS (i := i) (by omega), hal, hc2, e1, e2, h68, hzz]
        refine .mk (.inr ⟨by simp, .inr ⟨rfl, hno, ?_, ?_, hx, ?_⟩⟩)
        · simp -implicitDefEqProofs only [go_sem, Nat.reduceAdd, Nat.reduceMul, Nat.reduceLT, Nat.reduceLeDiff, Nat.reduceEqDiff, Nat.reduceBEq, reduceCtorEq, Int.reduceLT, Int.reduceLE, Int.reduceEq, Int.reduceGT, Int.reduceGE, Int.reduceToNat, Int.reduceNeg, t2]
        · simp -implicitDefEqProofs only [go_sem, Nat.reduceAdd, Nat.reduceMul, Nat.reduceLT, Nat.reduceLeDiff, Nat.reduceEqDiff, Nat.reduceBEq, reduceCtorEq, Int.reduceLT, Int.reduceLE, Int.reduceEq, Int.reduceGT, Int.reduceGE, Int.reduceToNat, Int.reduceNeg]
        · simp
      | some x =>
        have hvv : v = .tuple [.int .i64 x, .int .i64 0] := by rw [hv]; unfold numAV; rw [hp]
        subst hvv
        have put : ∀ j : Nat, j < 3 → Ext H.next H (H3.put Hm.next ⟨[AV.int .i64 op, .int .i64 n, .int .i64 m].set j (.int .i64 x), 29, true⟩) := fun j _ => out.ext.put (Nat.le_of_lt out.low) (by rw [out.next]; omega) _
        have old : ∀ B b, b < Hm.next → (H3.put Hm.next B).m b = Hm.m b := fun B b hb => by
          simp only [put_m]
          rw [if_neg (by omega)]
          exact out.old b hb
        have : i = 0 ∨ i = 1 := by omega
        rcases this with rfl | rfl
        · rw [Int.natCast_zero] at t52 hcmp
          have hw01 : IntKind.i64.wrap (0 + 1) = ((0 + 1 : Nat) : Int) := wrapS (i := 0) (by omega)
          simp -implicitDefEqProofs only [go_sem, Nat.reduceAdd, Nat.reduceMul, Nat.reduceLT, Nat.reduceLeDiff, Nat.reduceEqDiff, Nat.reduceBEq, reduceCtorEq, Int.reduceLT, Int.reduceLE, Int.reduceEq, Int.reduceGT, Int.reduceGE, Int.reduceToNat, Int.reduceNeg, t2, t4, t51, t52, hcmp, ptrs_at0, hw01, hal, hc2, e1, e2, h68, out.blk, F24_J1]
          rw [ret_some]
          refine (Or.inl ⟨rfl, ?_, ?_, ?_, ?_, ?_, x, 0, ?_, put 1 (by omega), out.low, ?_, fun b hb => old _ b hb, out.next⟩)
          · simp -implicitDefEqProofs only [go_sem, Nat.reduceAdd, Nat.reduceMul, Nat.reduceLT, Nat.reduceLeDiff, Nat.reduceEqDiff, Nat.reduceBEq, reduceCtorEq, Int.reduceLT, Int.reduceLE, Int.reduceEq, Int.reduceGT, Int.reduceGE, Int.reduceToNat, Int.reduceNeg, t2]
          · simp -implicitDefEqProofs only [go_sem, Nat.reduceAdd, Nat.reduceMul, Nat.reduceLT, Nat.reduceLeDiff, Nat.reduceEqDiff, Nat.reduceBEq, reduceCtorEq, Int.reduceLT, Int.reduceLE, Int.reduceEq, Int.reduceGT, Int.reduceGE, Int.reduceToNat, Int.reduceNeg, t4]
          · simp -implicitDefEqProofs only [go_sem, Nat.reduceAdd, Nat.reduceMul, Nat.reduceLT, Nat.reduceLeDiff, Nat.reduceEqDiff, Nat.reduceBEq, reduceCtorEq, Int.reduceLT, Int.reduceLE, Int.reduceEq, Int.reduceGT, Int.reduceGE, Int.reduceToNat, Int.reduceNeg, t5]
          · simp -implicitDefEqProofs only [go_sem, Nat.reduceAdd, Nat.reduceMul, Nat.reduceLT, Nat.reduceLeDiff, Nat.reduceEqDiff, Nat.reduceBEq, reduceCtorEq, Int.reduceLT, Int.reduceLE, Int.reduceEq, Int.reduceGT, Int.reduceGE, Int.reduceToNat, Int.reduceNeg, t51]
          · simp -implicitDefEqProofs only [go_sem, Nat.reduceAdd, Nat.reduceMul, Nat.reduceLT, Nat.reduceLeDiff, Nat.reduceEqDiff, Nat.reduceBEq, reduceCtorEq, Int.reduceLT, Int.reduceLE, Int.reduceEq, Int.reduceGT, Int.reduceGE, Int.reduceToNat, Int.reduceNeg]
          · rw [htk]
            simp [numsP, hp]
          · have : m = 0 := by simp [numsP] at hnm; exact hnm.2.symm
            subst this
            simp
        · rw [Int.natCast_one] at t52 hcmp
          have hw01 : IntKind.i64.wrap (1 + 1) = ((1 + 1 : Nat) : Int) := wrapS (i := 1) (by omega)
          have hc2' : decide ((2 : Int) < ((r.length + 1 : Nat) : Int)) = true := hc2
          have e1' : idxSl lv (.int .i64 2) 1 = some (.ptr (some p)) := e1
          simp -implicitDefEqProofs only [go_sem, Nat.reduceAdd, Nat.reduceMul, Nat.reduceLT, Nat.reduceLeDiff, Nat.reduceEqDiff, Nat.reduceBEq, reduceCtorEq, Int.reduceLT, Int.reduceLE, Int.reduceEq, Int.reduceGT, Int.reduceGE, Int.reduceToNat, Int.reduceNeg, t2, t4, t51, t52, hcmp, ptrs_at1, hw01, hal, hc2', e1', e2, h68, out.blk, F24_J1]
          refine .mk (Or.inl ⟨rfl, ?_, ?_, ?_, ?_, ?_, n, x, ?_, put 2 (by omega), out.low, ?_, fun b hb => old _ b hb, out.next⟩)
          · simp -implicitDefEqProofs only [go_sem, Nat.reduceAdd, Nat.reduceMul, Nat.reduceLT, Nat.reduceLeDiff, Nat.reduceEqDiff, Nat.reduceBEq, reduceCtorEq, Int.reduceLT, Int.reduceLE, Int.reduceEq, Int.reduceGT, Int.reduceGE, Int.reduceToNat, Int.reduceNeg, t2]
          · simp -implicitDefEqProofs only [go_sem, Nat.reduceAdd, Nat.reduceMul, Nat.reduceLT, Nat.reduceLeDiff, Nat.reduceEqDiff, Nat.reduceBEq, reduceCtorEq, Int.reduceLT, Int.reduceLE, Int.reduceEq, Int.reduceGT, Int.reduceGE, Int.reduceToNat, Int.reduceNeg, t4]
          · simp -implicitDefEqProofs only [go_sem, Nat.reduceAdd, Nat.reduceMul, Nat.reduceLT, Nat.reduceLeDiff, Nat.reduceEqDiff, Nat.reduceBEq, reduceCtorEq, Int.reduceLT, Int.reduceLE, Int.reduceEq, Int.reduceGT, Int.reduceGE, Int.reduceToNat, Int.reduceNeg, t5]
          · simp -implicitDefEqProofs only [go_sem, Nat.reduceAdd, Nat.reduceMul, Nat.reduceLT, Nat.reduceLeDiff, Nat.reduceEqDiff, Nat.reduceBEq, reduceCtorEq, Int.reduceLT, Int.reduceLE, Int.reduceEq, Int.reduceGT, Int.reduceGE, Int.reduceToNat, Int.reduceNeg, t51]
          · simp -implicitDefEqProofs only [go_sem, Nat.reduceAdd, Nat.reduceMul, Nat.reduceLT, Nat.reduceLeDiff, Nat.reduceEqDiff, Nat.reduceBEq, reduceCtorEq, Int.reduceLT, Int.reduceLE, Int.reduceEq, Int.reduceGT, Int.reduceGE, Int.reduceToNat, Int.reduceNeg]
          · match r, hir, hr2, hp, hnm with
            | [a, b], _, _, hp, hnm =>
              simp [numsP] at hp hnm ⊢
              obtain ⟨y, h1, h2, _⟩ := hnm
              subst h2
              rw [h1, hp]
              rfl
          · simp
    · have hc2 : decide (((i + 1 : Nat) : Int) < (((w :: r).length : Nat) : Int)) = false := decide_eq_false (by simp; omega)
      have hidx : ∃ q, idxAgg Tryd.prog 94 2 1 (.agg [.ptr (some (Hm.next, 1)), .ptr (some (Hm.next, 2))]) (.int .i64 (i : Nat)) = some q := by
        have : i = 0 ∨ i = 1 := by omega
        rcases this with rfl | rfl
        · exact ⟨_, ptrs_at0 _ _⟩
        · exact ⟨_, ptrs_at1 _ _⟩
      obtain ⟨q, hidx⟩ := hidx
      rw [List.length_cons] at hc2 hal
      simp -implicitDefEqProofs only [go_sem, Nat.reduceAdd, Nat.reduceMul, Nat.reduceLT, Nat.reduceLeDiff, Nat.reduceEqDiff, Nat.reduceBEq, reduceCtorEq, Int.reduceLT, Int.reduceLE, Int.reduceEq, Int.reduceGT, Int.reduceGE, Int.reduceToNat, Int.reduceNeg, t2, t4, t51, t52, hcmp, hidx, wrapS (i := i) (by omega), hal, hc2, F24_J1]
      refine .mk (.inl ⟨rfl, ?_, ?_, ?_, ?_, ?_, n, m, ?_, out⟩)
      · simp -implicitDefEqProofs only [go_sem, Nat.reduceAdd, Nat.reduceMul, Nat.reduceLT, Nat.reduceLeDiff, Nat.reduceEqDiff, Nat.reduceBEq, reduceCtorEq, Int.reduceLT, Int.reduceLE, Int.reduceEq, Int.reduceGT, Int.reduceGE, Int.reduceToNat, Int.reduceNeg, t2]
      · simp -implicitDefEqProofs only [go_sem, Nat.reduceAdd, Nat.reduceMul, Nat.reduceLT, Nat.reduceLeDiff, Nat.reduceEqDiff, Nat.reduceBEq, reduceCtorEq, Int.reduceLT, Int.reduceLE, Int.reduceEq, Int.reduceGT, Int.reduceGE, Int.reduceToNat, Int.reduceNeg, t4]
      · simp -implicitDefEqProofs only [go_sem, Nat.reduceAdd, Nat.reduceMul, Nat.reduceLT, Nat.reduceLeDiff, Nat.reduceEqDiff, Nat.reduceBEq, reduceCtorEq, Int.reduceLT, Int.reduceLE, Int.reduceEq, Int.reduceGT, Int.reduceGE, Int.reduceToNat, Int.reduceNeg, t5]
      · simp -implicitDefEqProofs only [go_sem, Nat.reduceAdd, Nat.reduceMul, Nat.reduceLT, Nat.reduceLeDiff, Nat.reduceEqDiff, Nat.reduceBEq, reduceCtorEq, Int.reduceLT, Int.reduceLE, Int.reduceEq, Int.reduceGT, Int.reduceGE, Int.reduceToNat, Int.reduceNeg, t51]
      · simp -implicitDefEqProofs only [go_sem, Nat.reduceAdd, Nat.reduceMul, Nat.reduceLT, Nat.reduceLeDiff, Nat.reduceEqDiff, Nat.reduceBEq, reduceCtorEq, Int.reduceLT, Int.reduceLE, Int.reduceEq, Int.reduceGT, Int.reduceGE, Int.reduceToNat, Int.reduceNeg]
      · rw [List.take_of_length_le (by omega)] at hnm ⊢
        exact hnm
  · rintro ⟨T1, H2⟩ ⟨t2, t4, t5, t51, t52, n, m, hnm, out⟩
    simp only at t2 t4 t5 t51 t52 out
    have hcmp : decide (((2 : Nat) : Int) < 2) = false := by decide
    unfold F24_L2
    simp -implicitDefEqProofs only [go_sem, Nat.reduceAdd, Nat.reduceMul, Nat.reduceLT, Nat.reduceLeDiff, Nat.reduceEqDiff, Nat.reduceBEq, reduceCtorEq, Int.reduceLT, Int.reduceLE, Int.reduceEq, Int.reduceGT, Int.reduceGE, Int.reduceToNat, Int.reduceNeg, t52, hcmp]
    refine .mk ⟨by simp, .inl ⟨rfl, ?_, ?_, ?_, ?_, ?_, n, m, hnm, out⟩⟩
    · simp -implicitDefEqProofs only [go_sem, Nat.reduceAdd, Nat.reduceMul, Nat.reduceLT, Nat.reduceLeDiff, Nat.reduceEqDiff, Nat.reduceBEq, reduceCtorEq, Int.reduceLT, Int.reduceLE, Int.reduceEq, Int.reduceGT, Int.reduceGE, Int.reduceToNat, Int.reduceNeg, t2]
    · simp -implicitDefEqProofs only [go_sem, Nat.reduceAdd, Nat.reduceMul, Nat.reduceLT, Nat.reduceLeDiff, Nat.reduceEqDiff, Nat.reduceBEq, reduceCtorEq, Int.reduceLT, Int.reduceLE, Int.reduceEq, Int.reduceGT, Int.reduceGE, Int.reduceToNat, Int.reduceNeg, t4]
    · simp -implicitDefEqProofs only [go_sem, Nat.reduceAdd, Nat.reduceMul, Nat.reduceLT, Nat.reduceLeDiff, Nat.reduceEqDiff, Nat.reduceBEq, reduceCtorEq, Int.reduceLT, Int.reduceLE, Int.reduceEq, Int.reduceGT, Int.reduceGE, Int.reduceToNat, Int.reduceNeg, t5]
    · simp -implicitDefEqProofs only [go_sem, Nat.reduceAdd, Nat.reduceMul, Nat.reduceLT, Nat.reduceLeDiff, Nat.reduceEqDiff, Nat.reduceBEq, reduceCtorEq, Int.reduceLT, Int.reduceLE, Int.reduceEq, Int.reduceGT, Int.reduceGE, Int.reduceToNat, Int.reduceNeg, t51]
    · simp -implicitDefEqProofs only [go_sem, Nat.reduceAdd, Nat.reduceMul, Nat.reduceLT, Nat.reduceLeDiff, Nat.reduceEqDiff, Nat.reduceBEq, reduceCtorEq, Int.reduceLT, Int.reduceLE, Int.reduceEq, Int.reduceGT, Int.reduceGE, Int.reduceToNat, Int.reduceNeg, t52]

def lineBack (s : List Int) : AV := match parseI s with
  | some i => .tuple [.agg (insC i), .int .i64 0]
  | none => .tuple [.agg [.int .i64 0, .int .i64 0, .int .i64 0], .int .i64 61]
theorem wordsGo_sub : ∀ (s cur : List Int), ∀ w ∈ wordsGo cur s, ∀ c ∈ w, c ∈ cur ∨ c ∈ s
  | [], cur, w, hw, c, hc => by
    simp [wordsGo] at hw
    subst hw
    exact .inl hc
  | x :: s, cur, w, hw, c, hc => by
    unfold wordsGo at hw
    split at hw
    · simp only [List.mem_cons] at hw
      rcases hw with rfl | hw
      · exact .inl hc
      · rcases wordsGo_sub s [] w hw c hc with h | h
        · simp at h
        · exact .inr (by simp [h])
    · rcases wordsGo_sub s _ w hw c hc with h | h
      · simp only [List.mem_append, List.mem_cons, List.not_mem_nil, or_false] at h
        rcases h with h | rfl
        · exact .inl h
        · exact .inr (by simp)
      · exact .inr (by simp [h])
theorem wordsGo_len : ∀ (s cur : List Int), ∀ w ∈ wordsGo cur s, w.length ≤ cur.length + s.length
  | [], cur, w, hw => by
    simp [wordsGo] at hw
    subst hw
    omega
  | x :: s, cur, w, hw => by
    unfold wordsGo at hw
    split at hw
    · simp only [List.mem_cons] at hw
      rcases hw with rfl | hw
      · simp
      · have := wordsGo_len s [] w hw
        simp at this ⊢
        omega
    · have := wordsGo_len s _ w hw
      simp at this ⊢
      omega
theorem wordsP_ok {s : List Int} (h : Bs s) : ∀ w ∈ wordsP s, Bs w ∧ w.length ≤ s.length := by
  intro w hw
  unfold wordsP at hw
  split at hw
  · simp at hw
  · refine ⟨fun c hc => ?_, by simpa using wordsGo_len s [] w hw⟩
    rcases wordsGo_sub s [] w hw c hc with hh | hh
    · simp at hh
    · exact h c hh
set_option maxHeartbeats 1000000 in
theorem parse_spec (d : Nat) {H : AH} (hw : H.wf) (hT : Tabs H) {s : List Int} (hs : Bs s) (hlen : s.length ≤ 500) :
    Ret (RT (d + 2) 24 [.str (strOfNums s)] H) fun r => Ext H.next H r.2 ∧ r.1 = lineBack s := by
  rw [R24]
  unfold F24
  have hx1 : Ext H.next H (H.new [.int .i64 0, .int .i64 0, .int .i64 0] 29) := (Ext.refl hw).new _ _
  obtain ⟨⟨lv, Hm⟩, h67, hxm, hrow⟩ := words_spec d hx1.wf hs hlen
  simp only at hxm hrow
  simp only [new_next] at hxm
  have hlow : H.next < Hm.next := hxm.next
  have hz : Hm.m H.next = some ⟨[.int .i64 0, .int .i64 0, .int .i64 0], 29, true⟩ := by
    rw [hxm.low _ (Nat.lt_succ_self _)]
    simp
  have hxm' : Ext H.next H Hm := hx1.trans hxm (Nat.le_succ _)
  have hx3 : Ext H.next H (Hm.new [.int .i64 0, .int .i64 0, .int .i64 0] 29) := hxm'.new _ _
  obtain ⟨ew, hwords⟩ := (hT.ext hx3 hT.two).words
  have hwl : wordsA.length = 26 := by decide
  have h0n : (0 = Hm.next) = False := by
    have := hT.two
    simp; omega
  have hwm : Hm.m 0 = some ⟨wordsA, ew, false⟩ := by
    have := hwords
    simp only [new_m, h0n, if_false] at this
    exact this
  have hok := wordsP_ok hs
  have hld : (if 0 + 26 ≤ wordsA.length then some (List.take 26 (List.drop 0 wordsA)) else none) = some wordsA := by
    rw [if_pos (by rw [hwl]; omega), List.drop_zero, List.take_of_length_le (by rw [hwl]; omega)]
  rw [Nat.zero_add, List.drop_zero] at hld
  simp -implicitDefEqProofs only [go_sem, Nat.reduceAdd, Nat.reduceMul, Nat.reduceLT, Nat.reduceLeDiff, Nat.reduceEqDiff, Nat.reduceBEq, reduceCtorEq, Int.reduceLT, Int.reduceLE, Int.reduceEq, Int.reduceGT, Int.reduceGE, Int.reduceToNat, Int.reduceNeg, h67, h0n, hwm, hld]
  refine Ret.then (op_loop (d + 1) (fun w hw => (hok w hw).1) hxm.wf hrow (H := H) ⟨?_, ?_, ?_, ?_, ?_, ?_, ⟨hx3, hlow, ?_, fun b hb => ?_, rfl⟩⟩) ?_
  · simp -implicitDefEqProofs only [go_sem, Nat.reduceAdd, Nat.reduceMul, Nat.reduceLT, Nat.reduceLeDiff, Nat.reduceEqDiff, Nat.reduceBEq, reduceCtorEq, Int.reduceLT, Int.reduceLE, Int.reduceEq, Int.reduceGT, Int.reduceGE, Int.reduceToNat, Int.reduceNeg]
  · simp -implicitDefEqProofs only [go_sem, Nat.reduceAdd, Nat.reduceMul, Nat.reduceLT, Nat.reduceLeDiff, Nat.reduceEqDiff, Nat.reduceBEq, reduceCtorEq, Int.reduceLT, Int.reduceLE, Int.reduceEq, Int.reduceGT, Int.reduceGE, Int.reduceToNat, Int.reduceNeg]
  · simp -implicitDefEqProofs only [go_sem, Nat.reduceAdd, Nat.reduceMul, Nat.reduceLT, Nat.reduceLeDiff, Nat.reduceEqDiff, Nat.reduceBEq, reduceCtorEq, Int.reduceLT, Int.reduceLE, Int.reduceEq, Int.reduceGT, Int.reduceGE, Int.reduceToNat, Int.reduceNeg]
  · simp -implicitDefEqProofs only [go_sem, Nat.reduceAdd, Nat.reduceMul, Nat.reduceLT, Nat.reduceLeDiff, Nat.reduceEqDiff, Nat.reduceBEq, reduceCtorEq, Int.reduceLT, Int.reduceLE, Int.reduceEq, Int.reduceGT, Int.reduceGE, Int.reduceToNat, Int.reduceNeg]
  · simp -implicitDefEqProofs only [go_sem, Nat.reduceAdd, Nat.reduceMul, Nat.reduceLT, Nat.reduceLeDiff, Nat.reduceEqDiff, Nat.reduceBEq, reduceCtorEq, Int.reduceLT, Int.reduceLE, Int.reduceEq, Int.reduceGT, Int.reduceGE, Int.reduceToNat, Int.reduceNeg]
  · simp -implicitDefEqProofs only [go_sem, Nat.reduceAdd, Nat.reduceMul, Nat.reduceLT, Nat.reduceLeDiff, Nat.reduceEqDiff, Nat.reduceBEq, reduceCtorEq, Int.reduceLT, Int.reduceLE, Int.reduceEq, Int.reduceGT, Int.reduceGE, Int.reduceToNat, Int.reduceNeg]
    rfl
  · simp only [new_m, if_true]
    congr 3
    unfold opQ
    split <;> rfl
  · simp only [new_m]
    rw [if_neg (by omega)]
  rintro ⟨e, T, H4⟩ ⟨rfl, t2, t3, t4, t5, t14, t15, out⟩
  simp only at t2 t3 t4 t5 t14 t15 out
  have hzz : H4.m H.next = some ⟨[.int .i64 0, .int .i64 0, .int .i64 0], 29, true⟩ := by rw [out.old _ out.low]; exact hz
  have hs4 : Strs H4 lv (wordsP s) := Row.mono hrow fun b B hB => by rw [out.old b (hxm.wf b B hB)]; exact hB
  have hal := hs4.alen
  have hxz := out.ext.put (b := H.next) (Nat.le_refl _) (by rw [out.next]; have := out.low; omega) ⟨[.int .i64 0, .int .i64 0, .int .i64 0], 29, true⟩
  by_cases hop : opQ 26 (wordsP s) = 0
  · have hno : parseI s = none := by
      unfold parseI
      split
      · rfl
      · rename_i w r hw'
        rw [hw'] at hop
        rw [if_pos (.inl hop)]
    simp -implicitDefEqProofs only [go_sem, Nat.reduceAdd, Nat.reduceMul, Nat.reduceLT, Nat.reduceLeDiff, Nat.reduceEqDiff, Nat.reduceBEq, reduceCtorEq, Int.reduceLT, Int.reduceLE, Int.reduceEq, Int.reduceGT, Int.reduceGE, Int.reduceToNat, Int.reduceNeg, t2, t3, t4, t5, t14, t15, out.blk, decide_eq_true hop, hzz]
    refine .mk ⟨hxz, ?_⟩
    unfold lineBack
    rw [hno]
    rfl
  · cases hws : wordsP s with
    | nil => rw [hws] at hop; exact absurd rfl hop
    | cons w r =>
      rw [hws] at hop hs4 hal out hok
      have hopr : 1 ≤ opQ 26 (w :: r) ∧ opQ 26 (w :: r) ≤ 25 := by
        rcases opP_is 26 w with h | ⟨h1, h2, _⟩
        · exact absurd h hop
        · simp only [opQ]
          omega
      have h65 := fun G : AH => RT_65 (d + 1) hopr G
      have hn3 := nums_three (opQ 26 (w :: r))
      have hwr1 : IntKind.i64.wrap (1 + nums (opQ 26 (w :: r))) = 1 + nums (opQ 26 (w :: r)) := wrap_id (by unfold InI; omega)
      rw [List.length_cons] at hal
      have hop' : ¬ opP 26 w = 0 := hop
      by_cases hlr : ((r.length + 1 : Nat) : Int) = 1 + nums (opQ 26 (w :: r))
      · have hlr' : ((r.length : Nat) : Int) = nums (opP 26 w) := by
          have : nums (opQ 26 (w :: r)) = nums (opP 26 w) := rfl
          omega
        simp -implicitDefEqProofs only [go_sem, Nat.reduceAdd, Nat.reduceMul, Nat.reduceLT, Nat.reduceLeDiff, Nat.reduceEqDiff, Nat.reduceBEq, reduceCtorEq, Int.reduceLT, Int.reduceLE, Int.reduceEq, Int.reduceGT, Int.reduceGE, Int.reduceToNat, Int.reduceNeg, t2, t3, t4, t5, t14, t15, out.blk, decide_eq_false hop, hal, h65, hwr1, decide_eq_true hlr, build95]
        refine Ret.then (nums_loop d (H := H) (Hm := Hm) (lv := lv) (op := opQ 26 (w :: r)) (w := w) (r := r) (fun x hx => ?_) (by omega) hxm.wf hz (hws ▸ hrow) ⟨?_, ?_, ?_, ?_, ?_, 0, 0, rfl, out⟩) ?_
        · have := hok x (by simp [hx])
          exact ⟨this.1, by omega⟩
        · simp -implicitDefEqProofs only [go_sem, Nat.reduceAdd, Nat.reduceMul, Nat.reduceLT, Nat.reduceLeDiff, Nat.reduceEqDiff, Nat.reduceBEq, reduceCtorEq, Int.reduceLT, Int.reduceLE, Int.reduceEq, Int.reduceGT, Int.reduceGE, Int.reduceToNat, Int.reduceNeg, t2]
        · simp -implicitDefEqProofs only [go_sem, Nat.reduceAdd, Nat.reduceMul, Nat.reduceLT, Nat.reduceLeDiff, Nat.reduceEqDiff, Nat.reduceBEq, reduceCtorEq, Int.reduceLT, Int.reduceLE, Int.reduceEq, Int.reduceGT, Int.reduceGE, Int.reduceToNat, Int.reduceNeg, t4]
        · simp -implicitDefEqProofs only [go_sem, Nat.reduceAdd, Nat.reduceMul, Nat.reduceLT, Nat.reduceLeDiff, Nat.reduceEqDiff, Nat.reduceBEq, reduceCtorEq, Int.reduceLT, Int.reduceLE, Int.reduceEq, Int.reduceGT, Int.reduceGE, Int.reduceToNat, Int.reduceNeg, t5]
        · simp -implicitDefEqProofs only [go_sem, Nat.reduceAdd, Nat.reduceMul, Nat.reduceLT, Nat.reduceLeDiff, Nat.reduceEqDiff, Nat.reduceBEq, reduceCtorEq, Int.reduceLT, Int.reduceLE, Int.reduceEq, Int.reduceGT, Int.reduceGE, Int.reduceToNat, Int.reduceNeg]
        · simp -implicitDefEqProofs only [go_sem, Nat.reduceAdd, Nat.reduceMul, Nat.reduceLT, Nat.reduceLeDiff, Nat.reduceEqDiff, Nat.reduceBEq, reduceCtorEq, Int.reduceLT, Int.reduceLE, Int.reduceEq, Int.reduceGT, Int.reduceGE, Int.reduceToNat, Int.reduceNeg]
          rfl
        rintro ⟨e, T5, H5⟩ (⟨rfl, u2, u4, u5, u51, u52, n, m, hnm, out5⟩ | ⟨rfl, hno, u2, u3, hx5, hz5⟩)
        · simp only at u2 u4 u5 u51 u52 out5
          rw [List.take_of_length_le (by omega)] at hnm
          have hz5 : H5.m H.next = some ⟨[.int .i64 0, .int .i64 0, .int .i64 0], 29, true⟩ := by rw [out5.old _ out5.low]; exact hz
          have hx5 := out5.ext.put (b := H.next) (Nat.le_refl _) (by rw [out5.next]; have := out5.low; omega) ⟨[.int .i64 (opQ 26 (w :: r)), .int .i64 n, .int .i64 m], 29, true⟩
          simp -implicitDefEqProofs only [go_sem, Nat.reduceAdd, Nat.reduceMul, Nat.reduceLT, Nat.reduceLeDiff, Nat.reduceEqDiff, Nat.reduceBEq, reduceCtorEq, Int.reduceLT, Int.reduceLE, Int.reduceEq, Int.reduceGT, Int.reduceGE, Int.reduceToNat, Int.reduceNeg, u2, u5, out5.blk, hz5]
          refine .mk ⟨hx5, ?_⟩
          unfold lineBack parseI
          rw [hws]
          simp only
          rw [if_neg (by simp only [not_or, Decidable.not_not]; exact ⟨hop', hlr'⟩), hnm]
          rfl
        · simp only at u2 u3 hx5 hz5
          simp -implicitDefEqProofs only [go_sem, Nat.reduceAdd, Nat.reduceMul, Nat.reduceLT, Nat.reduceLeDiff, Nat.reduceEqDiff, Nat.reduceBEq, reduceCtorEq, Int.reduceLT, Int.reduceLE, Int.reduceEq, Int.reduceGT, Int.reduceGE, Int.reduceToNat, Int.reduceNeg, u2, u3, hz5]
          refine .mk ⟨hx5, ?_⟩
          unfold lineBack parseI
          rw [hws]
          simp only
          rw [if_neg (by simp only [not_or, Decidable.not_not]; exact ⟨hop', hlr'⟩), hno]
          rfl
      · have hlr' : ¬ ((r.length : Nat) : Int) = nums (opP 26 w) := by
          have : nums (opQ 26 (w :: r)) = nums (opP 26 w) := rfl
          omega
        simp -implicitDefEqProofs only [go_sem, Nat.reduceAdd, Nat.reduceMul, Nat.reduceLT, Nat.reduceLeDiff, Nat.reduceEqDiff, Nat.reduceBEq, reduceCtorEq, Int.reduceLT, Int.reduceLE, Int.reduceEq, Int.reduceGT, Int.reduceGE, Int.reduceToNat, Int.reduceNeg, t2, t3, t4, t5, t14, t15, out.blk, decide_eq_false hop, hal, h65, hwr1, decide_eq_false hlr, hzz]
        refine .mk ⟨hxz, ?_⟩
        unfold lineBack parseI
        rw [hws]
        simp only
        rw [if_pos (.inr hlr')]
        rfl
end Go.Proofs.YthiflgncldmkjaaDoor
/- Lines there and back: the law. -/
set_option linter.unusedVariables false
set_option linter.unusedSimpArgs false
set_option maxRecDepth 100000
namespace Go.Proofs.YthiflgncldmkjaaDoor
open Go.Ri

theorem lineOf_ok {op n m : Int} {t : List Int} (h : lineOf op n m = some t) : Bs t ∧ t.length ≤ 100 := by
  unfold lineOf at h
  split at h
  · cases h
  · split at h
    · cases h
    · cases h
      exact ⟨joinL_small 0 _, joinL_size⟩
theorem beq_ins (a b c : Int) : (a == a && (b == b && (c == c && true))) = true := by simp
theorem law_back (d : Nat) {H : AH} (hw : H.wf) (hT : Tabs H) {i : Ins} (hi : i.Ok) (x : ByteArray) : Ret (RT (d + 3) 4 [.agg (insC i), .str x] H) fun r => r.1 = .bool true := by
  obtain ⟨s, hs, rfl⟩ : ∃ s, Bs s ∧ x = strOfNums s := ⟨byteL x, Bs.byteL x, (str_byteL x).symm⟩
  rw [R4]
  unfold F4
  have hin : insC i = [.int .i64 i.op, .int .i64 i.n, .int .i64 i.m] := rfl
  have hx : Ext H.next H (H.new (insC i) 29) := (Ext.refl hw).new _ _
  have hT1 := hT.ext hx hT.two
  rw [hin] at hx hT1 ⊢
  by_cases h500 : ((s.length : Nat) : Int) > 500
  · simp -implicitDefEqProofs only [go_sem, Nat.reduceAdd, Nat.reduceMul, Nat.reduceLT, Nat.reduceLeDiff, Nat.reduceEqDiff, Nat.reduceBEq, reduceCtorEq, Int.reduceLT, Int.reduceLE, Int.reduceEq, Int.reduceGT, Int.reduceGE, Int.reduceToNat, Int.reduceNeg, str_len, decide_eq_true h500, RT_22 (d + 2) hT1]
    exact .mk rfl
  · have h23 := RT_23 (d + 2) (op := i.op) hi.n hi.m hT1
    -- the second half, whatever the heap
    have back : ∀ H2 : AH, H2.wf → Tabs H2 → Ret ((RT (d + 2) 24 [.str (strOfNums s)] H2).bind fun r34 =>
   (aExtract r34.1 0).bind fun v35 =>
   (aExtract r34.1 1).bind fun v36 =>
   (nAlloc Tryd.prog 29).bind fun nb37 =>
   ((aStore Tryd.prog 29 (nb37.val r34.2.next) v35 (r34.2.new nb37.cells nb37.elem)).map fun H' => ((.tuple [] : AV), H')).bind fun r38 =>
   (aBin Tryd.prog .neq 30 v36 (.int .i64 0)).bind fun v39 =>
   (asB v39).bind fun b40 => if b40 = true then
    ((ldAgg (nb37.val r34.2.next) 3 r38.2).bind fun v41 =>
    (aBuild Tryd.prog 29 []).bind fun v42 =>
    (aBin Tryd.prog .eql 29 v41 v42).bind fun v43 =>
    ((gdv v43 true).bind fun g44 => if g44 = true then (RT (d + 2) 22 [] r38.2) else some (.tuple [], r38.2)).bind fun r45 =>
    ((asB v43).bind fun b46 => if b46 = true then some r45.1 else some (.bool false)).bind fun v47 =>
    some (v47, r45.2))
   else
    ((ldAgg (nb37.val r34.2.next) 3 r38.2).bind fun v48 =>
    (RT (d + 2) 23 [v48] r38.2).bind fun r49 =>
    (aExtract r49.1 0).bind fun v50 =>
    (aExtract r49.1 1).bind fun v51 =>
    (aBin Tryd.prog .eql 30 v51 (.int .i64 0)).bind fun v52 =>
    ((gdv v52 true).bind fun g53 => if g53 = true then (some v50) else some (.tuple [])).bind fun v54 =>
    ((gdv v52 true).bind fun g55 => if g55 = true then (some (.str (strOfNums s))) else some (.tuple [])).bind fun v56 =>
    ((gdv v52 true).bind fun g57 => if g57 = true then (aBin Tryd.prog .eql 9 v54 v56) else some (.tuple [])).bind fun v58 =>
    ((asB v52).bind fun b59 => if b59 = true then some v58 else some (.bool false)).bind fun v60 =>
    ((gdv v60 true).bind fun g61 => if g61 = true then (RT (d + 2) 22 [] r49.2) else some (.tuple [], r49.2)).bind fun r62 =>
    ((asB v60).bind fun b63 => if b63 = true then some r62.1 else some (.bool false)).bind fun v64 =>
    some (v64, r62.2))) fun r => r.1 = .bool true := by
      intro H2 hw2 hT2
      obtain ⟨⟨v, H3⟩, h24, hx3, hv⟩ := parse_spec d hw2 hT2 hs (by omega)
      simp only at hx3 hv
      subst hv
      have hx4 := (hx3.new [.int .i64 0, .int .i64 0, .int .i64 0] 29)
      have hput := fun B => hx4.put (b := H3.next) hx3.next (by simp) B
      have hTp := fun B => hT2.ext (hput B) hT2.two
      unfold lineBack at h24
      cases hp : parseI s with
      | none =>
        simp only [hp] at h24
        have hk := fun B => RT_22 (d + 2) (hTp B)
        simp -implicitDefEqProofs only [go_sem, Nat.reduceAdd, Nat.reduceMul, Nat.reduceLT, Nat.reduceLeDiff, Nat.reduceEqDiff, Nat.reduceBEq, reduceCtorEq, Int.reduceLT, Int.reduceLE, Int.reduceEq, Int.reduceGT, Int.reduceGE, Int.reduceToNat, Int.reduceNeg, h24, ins_eql, hk]
        exact .mk rfl
      | some b =>
        simp only [hp] at h24
        obtain ⟨hl, hb⟩ := line_parse hp
        have hk := fun B => RT_22 (d + 2) (hTp B)
        have hbi : insC b = [.int .i64 b.op, .int .i64 b.n, .int .i64 b.m] := rfl
        rw [hbi] at h24
        have h23b := fun B => RT_23 (d + 2) (op := b.op) hb.n hb.m (hTp B)
        have hlv : lineAV b.op b.n b.m = .tuple [.str (strOfNums s), .int .i64 0] := by unfold lineAV; rw [hl]
        simp only [hlv] at h23b
        simp -implicitDefEqProofs only [go_sem, Nat.reduceAdd, Nat.reduceMul, Nat.reduceLT, Nat.reduceLeDiff, Nat.reduceEqDiff, Nat.reduceBEq, reduceCtorEq, Int.reduceLT, Int.reduceLE, Int.reduceEq, Int.reduceGT, Int.reduceGE, Int.reduceToNat, Int.reduceNeg, h24, h23b, str_eql hs hs, hk]
        exact .mk rfl
    rcases lineAV_of (i := i) with ⟨hl, hlv⟩ | ⟨t, hl, hlv⟩
    · rw [hlv, str_nil] at h23
      obtain ⟨⟨v, H3⟩, h24, hx3, hv⟩ := parse_spec d hx.wf hT1 Bs.nil (by simp)
      simp only at hx3 hv
      simp only [new_next] at hx3
      have hno : parseI [] = none := by unfold parseI; rw [show wordsP [] = [] from rfl]
      have hv2 : v = .tuple [.agg [.int .i64 0, .int .i64 0, .int .i64 0], .int .i64 61] := by rw [hv]; unfold lineBack; rw [hno]
      subst hv2
      have hx3' : Ext H.next H H3 := hx.trans hx3 (Nat.le_succ _)
      have hput := fun B => (hx3'.new [.int .i64 0, .int .i64 0, .int .i64 0] 29).put (b := H3.next) hx3'.next (by simp) B
      simp -implicitDefEqProofs only [go_sem, Nat.reduceAdd, Nat.reduceMul, Nat.reduceLT, Nat.reduceLeDiff, Nat.reduceEqDiff, Nat.reduceBEq, reduceCtorEq, Int.reduceLT, Int.reduceLE, Int.reduceEq, Int.reduceGT, Int.reduceGE, Int.reduceToNat, Int.reduceNeg, str_len, decide_eq_false h500, h23, h24]
      exact back _ (hput _).wf (hT.ext (hput _) hT.two)
    · rw [hlv] at h23
      obtain ⟨hbt, htl⟩ := lineOf_ok hl
      obtain ⟨⟨v, H3⟩, h24, hx3, hv⟩ := parse_spec d hx.wf hT1 hbt (by omega)
      simp only at hx3 hv
      simp only [new_next] at hx3
      have hv2 : v = .tuple [.agg [.int .i64 i.op, .int .i64 i.n, .int .i64 i.m], .int .i64 0] := by rw [hv]; unfold lineBack; rw [parse_line hi hl]; rfl
      subst hv2
      have hx3' : Ext H.next H H3 := hx.trans hx3 (Nat.le_succ _)
      have hput := fun B => (hx3'.new [.int .i64 0, .int .i64 0, .int .i64 0] 29).put (b := H3.next) hx3'.next (by simp) B
      have hlow : H.next < H3.next := hx3.next
      have hne : ¬ H.next = H3.next := by omega
      have hb : H3.m H.next = some ⟨[.int .i64 i.op, .int .i64 i.n, .int .i64 i.m], 29, true⟩ := by
        rw [hx3.low _ (Nat.lt_succ_self _)]
        simp
      simp -implicitDefEqProofs only [go_sem, Nat.reduceAdd, Nat.reduceMul, Nat.reduceLT, Nat.reduceLeDiff, Nat.reduceEqDiff, Nat.reduceBEq, reduceCtorEq, Int.reduceLT, Int.reduceLE, Int.reduceEq, Int.reduceGT, Int.reduceGE, Int.reduceToNat, Int.reduceNeg, str_len, decide_eq_false h500, h23, h24, hne, hb, ins_neq, beq_ins]
      exact back _ (hput _).wf (hT.ext (hput _) hT.two)
end Go.Proofs.YthiflgncldmkjaaDoor
/- Lines go there and back (CodeBack): for every instruction and text the law returns true, and the input reads as it did. Condition: the two tables of package code start as the program's text lays them (the row's own). -/
set_option linter.unusedVariables false
set_option linter.unusedSimpArgs false
set_option maxRecDepth 100000
namespace Go.Proofs.YthiflgncldmkjaaDoor
open Go.Ri Go.ChangeShapes Go.WideShapes Go.ChangeAt Go.RowKit
namespace N4
theorem res : Tryd.f4.resultTypes = #[4] := by kernel_rfl
theorem readable : (Tryd.f4.params.toList.all fun t => Tryd.prog.readableRec t && decide (t < Tryd.prog.types.size)) = true := by kernel_rfl
theorem psize : Tryd.f4.params.size = 2 := by kernel_rfl
theorem contract (H : Type) (enc : TypeId × Value → H) (W : World) (base : Nat) (args : Array Value) (ds gs : List (DataW H)) (before : List MemPlace)
    (hval : ∀ (j : Nat) t v, Tryd.f4.params[j]? = some t → args[j]? = some v → Value.okWide Tryd.prog W .any base t v)
    (hW : DataW.Whole enc Tryd.prog Tryd.f4.params.toList Rows.codeBackSpec.vars false W args.toList ds gs before) (hL : laidMetH Tryd.prog Rows.codeBackRow.laid W)
    (hwt : (DataW.weightsEach Tryd.prog (Tryd.f4.params.toList ++ (OpenSpec.ofChange Rows.codeBackSpec).bare.plain.varTypes Tryd.prog) (ds ++ gs)).all (· ≤ reachBytes) = true) :
    Calls Tryd.prog 4 args W fun e W' => ∃ v, e = .returned v ∧ Rows.codeBackSpec.post enc Tryd.prog Tryd.f4 false true false false W args v W' := by
  refine contract_of res (fun ds hd => ?_) rfl (fun t ht => ?_) hW hL fun ρ0 H0 hS0 hro0 hT0 hA => ?_
  · rw [psize] at hd
    match ds, hd with
    | [d0, d1], _ => rfl
  · have := List.all_eq_true.1 readable t ht
    simpa using this
  · rw [Tryd.params4] at hA hval
    obtain ⟨v0, vs0, d0, ds0, p0, q0, hargs, rfl, rfl, h0, r0⟩ := trodAll_cons hA
    obtain ⟨v1, vs1, d1, ds1, p1, q1, rfl, rfl, rfl, h1, r1⟩ := trodAll_cons r0
    obtain ⟨rfl, rfl, rfl⟩ := trodAll_nil r1
    obtain rfl : args = #[v0, v1] := by cases args; simp_all
    obtain ⟨cs, rfl⟩ := agg_of (by kernel_rfl) (hval 0 29 v0 rfl rfl)
    obtain ⟨x, rfl⟩ := okWide_string (show Tryd.prog.underlying 9 = some .string by kernel_rfl) (hval 1 9 v1 rfl rfl)
    obtain ⟨fuel0, h0⟩ := h0
    obtain ⟨i, hi, hcs⟩ := trod_ins h0
    have hcs' : cs.toList = [.int .i64 i.op, .int .i64 i.n, .int .i64 i.m] := hcs
    have hw0 : H0.wf := fun b B hB => hS0.dom hB
    refine ⟨ρ0, H0, [.agg (insC i), .str x], 3, .refl hS0 hro0, relL_cons ⟨rfl, cs.toList, ?_, by simp⟩ (relL_one rfl), ?_⟩
    · rw [hcs']
      exact relL_cons rfl (relL_cons rfl (relL_one rfl))
    exact law_back 0 hw0 hT0 hi x
theorem reads (os : Os) {H : Type} (enc : TypeId × Value → H) : ∃ places, DataW.whole enc Tryd.prog ((laidWorld os).forCall (fun _ _ => 0) ⟨#[], #[.agg #[.int .i64 0, .int .i64 0, .int .i64 0], .string ⟨#[]⟩], []⟩).memory Tryd.f4.params.toList Rows.codeBackSpec.vars false #[Value.agg #[.int .i64 0, .int .i64 0, .int .i64 0], Value.string ⟨#[]⟩].toList 8 = some ([.agg [.lit (.int .i64 0), .lit (.int .i64 0), .lit (.int .i64 0)], .lit (.string [])], [], places) :=
  ⟨[], by kernel_rfl⟩
theorem lifted (os : Os) (started : os.Started) (H : Type) (enc : TypeId × Value → H) (F : Stop.Interp) :
    ReturnsInHanded {} Tryd.checked os 4 .any ((OpenSpec.ofChange Rows.codeBackSpec).preRow enc Tryd.prog Tryd.f4 Rows.codeBackRow.domain false Rows.codeBackRow.laid) (((OpenSpec.ofChange Rows.codeBackSpec).at F).post enc Tryd.prog Tryd.f4 false true false false) := by
  obtain ⟨places, hx⟩ := reads os enc
  refine returnsInHanded_of_row (C := Tryd.checked) (s := OpenSpec.ofChange Rows.codeBackSpec) own started (by kernel_rfl) Tryd.func4
    (witness_row_at (enc := enc) (C := Tryd.checked) false (laidWorld os) #[Value.agg #[.int .i64 0, .int .i64 0, .int .i64 0], Value.string ⟨#[]⟩] rfl (by kernel_rfl) (by kernel_rfl) (by kernel_rfl)
      (OpenSpec.preRow_of_cond 8 hx (by kernel_rfl) (fun k hk => by cases hk) (by kernel_rfl) (laid_met os _))) ?_
  intro W base args ds gs before hval hW _ _ hwt hL _ _
  exact contract H enc W base args ds gs before hval hW hL hwt
theorem said : Rows.CodeBackSaid :=
  OpenClaim.holds_of_cond 4 Tryd.f4 rfl rfl rfl rfl rfl rfl rfl ⟨rfl, rfl, rfl, rfl, rfl⟩ rfl rfl rfl rfl rfl (by kernel_rfl) Tryd.func4 (by kernel_rfl)
    (of_decide_eq_true (by kernel_rfl)) (by unfold Func.isWrapper; first | (rw [if_pos (by decide +kernel)]; kernel_rfl) | (rw [if_neg (by decide +kernel)]; exact ⟨rfl, rfl⟩))
    (fun os started H enc _ F => by rw [OpenClaim.pre_eq_preRow]; exact lifted os started H enc F)
theorem plain (f : FuncId) (fn : Func) (hf : Tryd.pinned.checked.prog.funcNamed "parallax/parallaxlaw08.CodeBack" = some f) (hfn : Tryd.pinned.checked.prog.funcs[f]? = some fn) :
    false = Tryd.pinned.checked.prog.looks [] ∧ ∀ (j : Nat) t, fn.params[j]? = some t → Tryd.pinned.checked.prog.wantsStandIn t = false := by
  obtain rfl : f = 4 := Option.some.inj ((show Tryd.prog.funcNamed "parallax/parallaxlaw08.CodeBack" = some 4 by kernel_rfl).symm.trans hf) |>.symm
  obtain rfl : fn = Tryd.f4 := (Option.some.inj (Tryd.func4.symm.trans hfn)).symm
  refine ⟨by kernel_rfl, fun j t ht => ?_⟩
  rw [Tryd.params4] at ht
  have hm : t ∈ [29, 9] := by simpa using Array.mem_of_getElem? ht
  have hall : ([29, 9].all fun u => !Tryd.prog.wantsStandIn u) = true := by kernel_rfl
  exact (show Tryd.prog.wantsStandIn t = false by simpa using List.all_eq_true.1 hall t hm)
end N4
theorem codeBack_holds : Rows.CodeBackCardSaid :=
  Claim7.holds_tied_plain_at .later [] _ _ _ _ N4.said (fun _ h => by cases h) (by kernel_rfl) (fun _ h => by cases h) codeBack_row_tie rfl ⟨rfl, rfl⟩ (by kernel_rfl) rfl N4.plain (by kernel_rfl)
#print axioms codeBack_holds
end Go.Proofs.YthiflgncldmkjaaDoor
