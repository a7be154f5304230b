/- Part 2 of the proof that: The lines of any code are told as the document tells them (CodePrints): for every code the law returns true, and the input reads as it did. Condition: the two tables of package code start as the program's text lays them (the row's own). -/
import Derived.Test.YthiflgncldmkjaaDoorBV31
import Derived.Lib.SmallJoins
import Derived.Deep.Strs
import Derived.Carry
/- Tables of calls: functions with flat answers, and all the others run. -/
set_option linter.unusedVariables false
set_option linter.unusedSimpArgs false
set_option maxRecDepth 100000
namespace Go.Proofs.YthiflgncldmkjaaDoor
open Go.Ri

/-- The fixed calls: true, wherever the tables stand. -/
noncomputable def gTrue (vs : List AV) (H : AH) : Option (AV × AH) := chk (vs = [] ∧ Tabs H) (some (.bool true, H))
theorem ok_true {f : FuncId} (h : ∀ e0 e1, saysTrue (aCall Tryd.prog (drawB Tryd.prog) 60 f [] ⟨mTabs e0 e1, 2⟩) = true) (hf : Fn1 Tryd.prog f) : Ok1 Tryd.prog f gTrue := by
  intro vs H v H' hg
  refine ⟨hf, ?_⟩
  obtain ⟨⟨rfl, hT⟩, _⟩ := chk_some hg
  obtain ⟨e0, e1, hsub⟩ := small_sub hT
  obtain ⟨H1, h1⟩ := saysTrue_some (h e0 e1)
  refine (ok1_small rfl (by simp) (by rw [globals2]; omega) (mTabs_ok e0 e1) h1 [] H v H' ?_).2
  exact (chk_pos (⟨rfl, hT.two, hsub⟩ : [] = ([] : List AV) ∧ 2 ≤ H.next ∧ ∀ b B, mTabs e0 e1 b = some B → H.m b = some B) _).trans (chk_some hg).2
theorem run22 (e0 e1 : TypeId) : saysTrue (aCall Tryd.prog (drawB Tryd.prog) 60 22 [] ⟨mTabs e0 e1, 2⟩) = true := by kernel_rfl
theorem ok22 : Ok1 Tryd.prog 22 gTrue := ok_true run22 ⟨_, Tryd.func22, by kernel_rfl, by kernel_rfl⟩

def big : Nat := 4611686018427387904
theorem big_eq : big = 4611686018427387904 := rfl

noncomputable def S0 : CallF := addT (addT (addT (addT (addT (addT (addT (addT (addT (addT (addT noT 131 g131) 115 g115) 93 g93) 62 gText) 64 gText) 65 g65) 66 g66) 92 g92) 23 gLine) 63 gLine) 22 gTrue
theorem S0_ok : CallOk Tryd.prog S0 := addT_ok (addT_ok (addT_ok (addT_ok (addT_ok (addT_ok (addT_ok (addT_ok (addT_ok (addT_ok (addT_ok (noT_ok _) ok131) ok115) ok93) ok62) ok64) ok65) ok66) ok92) ok23) ok63) ok22
def isFlat (f : FuncId) : Bool := f == 131 || f == 115 || f == 93 || f == 62 || f == 64 || f == 65 || f == 66 || f == 92 || f == 23 || f == 63 || f == 22
/-- So deep a run. -/
noncomputable def RT : Nat → CallF
  | 0 => S0
  | d + 1 => fun f vs H => if isFlat f = true then S0 f vs H else aFun Tryd.prog (drawA Tryd.prog) (RT d) (iter big) f vs H
theorem RT_ok : ∀ d, CallOk Tryd.prog (RT d)
  | 0 => S0_ok
  | d + 1 => by
    intro f vs H v H' h
    simp only [RT] at h
    split at h
    · exact S0_ok f vs H v H' h
    · exact aFun_sound (draw := drawA Tryd.prog) (n := big) (RT_ok d) (fun nt => drawA_ok (RT_ok d)) f vs H v H' h
theorem RT_flat {f : FuncId} (h : isFlat f = true) (d : Nat) (vs : List AV) (H : AH) : RT d f vs H = S0 f vs H := by
  cases d with
  | zero => rfl
  | succ d => simp only [RT]; rw [if_pos h]
theorem RT_run {f : FuncId} (h : isFlat f = false) (d : Nat) (vs : List AV) (H : AH) : RT (d + 1) f vs H = aFun Tryd.prog (drawA Tryd.prog) (RT d) (iter big) f vs H := by
  simp only [RT]
  rw [if_neg (by rw [h]; simp)]
theorem RT_62 (d : Nat) {n : Int} (h : InI n) (H : AH) : RT d 62 [.int .i64 n] H = some (.str (strOfNums (txt n)), H) := (RT_flat rfl d _ H).trans (chk_pos h _)
theorem RT_64 (d : Nat) {n : Int} (h : InI n) (H : AH) : RT d 64 [.int .i64 n] H = some (.str (strOfNums (txt n)), H) := (RT_flat rfl d _ H).trans (chk_pos h _)
theorem RT_92 (d : Nat) (op : Int) (H : AH) : RT d 92 [.int .i64 op] H = some (.agg (rowAt op), H) := (RT_flat rfl d _ H).trans rfl
theorem RT_23 (d : Nat) {op n m : Int} {H : AH} (hn : InI n) (hm : InI m) (hT : Tabs H) : RT d 23 [.agg [.int .i64 op, .int .i64 n, .int .i64 m]] H = some (lineAV op n m, H) := (RT_flat rfl d _ H).trans (chk_pos ⟨hn, hm, hT⟩ _)
theorem RT_63 (d : Nat) {op n m : Int} {H : AH} (hn : InI n) (hm : InI m) (hT : Tabs H) : RT d 63 [.agg [.int .i64 op, .int .i64 n, .int .i64 m]] H = some (lineAV op n m, H) := (RT_flat rfl d _ H).trans (chk_pos ⟨hn, hm, hT⟩ _)
theorem RT_65 (d : Nat) {op : Int} (h : 1 ≤ op ∧ op ≤ 25) (H : AH) : RT d 65 [.int .i64 op] H = some (.int .i64 (nums op), H) := (RT_flat rfl d _ H).trans (chk_pos h _)
theorem RT_22 (d : Nat) {H : AH} (hT : Tabs H) : RT d 22 [] H = some (.bool true, H) := (RT_flat rfl d _ H).trans (chk_pos ⟨rfl, hT⟩ _)
theorem Tabs.ext {N : Nat} {H H1 : AH} (h : Tabs H) (hx : Ext N H H1) (hN : 2 ≤ N) : Tabs H1 := by
  obtain ⟨⟨e, he⟩, ⟨e', he'⟩, h2⟩ := h
  exact ⟨⟨e, by rw [hx.low 0 (by omega)]; exact he⟩, ⟨e', by rw [hx.low 1 (by omega)]; exact he'⟩, Nat.le_trans hN hx.next⟩
theorem R3 (d : Nat) (x0 : AV) (H : AH) : RT (d + 1) 3 [x0] H = F3 (RT d) (iter big) x0 H := (RT_run rfl d _ H).trans (F3_eq _ _ x0 H)
theorem R20 (d : Nat) (x0 : AV) (H : AH) : RT (d + 1) 20 [x0] H = F20 (RT d) (iter big) x0 H := (RT_run rfl d _ H).trans (F20_eq _ _ x0 H)
theorem R21 (d : Nat) (x0 : AV) (H : AH) : RT (d + 1) 21 [x0] H = F21 (RT d) (iter big) x0 H := (RT_run rfl d _ H).trans (F21_eq _ _ x0 H)
theorem R137 (d : Nat) (x0 : AV) (H : AH) : RT (d + 1) 137 [x0] H = F137 (RT d) (iter big) x0 H := (RT_run rfl d _ H).trans (F137_eq _ _ x0 H)
theorem R138 (d : Nat) (x0 : AV) (x1 : AV) (x2 : AV) (H : AH) : RT (d + 1) 138 [x0, x1, x2] H = F138 (RT d) (iter big) x0 x1 x2 H := (RT_run rfl d _ H).trans (F138_eq _ _ x0 x1 x2 H)
theorem R139 (d : Nat) (x0 : AV) (H : AH) : RT (d + 1) 139 [x0] H = F139 (RT d) (iter big) x0 H := (RT_run rfl d _ H).trans (F139_eq _ _ x0 H)
theorem R140 (d : Nat) (x0 : AV) (H : AH) : RT (d + 1) 140 [x0] H = F140 (RT d) (iter big) x0 H := (RT_run rfl d _ H).trans (F140_eq _ _ x0 H)
end Go.Proofs.YthiflgncldmkjaaDoor
/- The lines of a code, both ways. -/
set_option linter.unusedVariables false
set_option linter.unusedSimpArgs false
set_option maxRecDepth 100000
namespace Go.Ri
/-- A loop that counts: from 0 to n. -/
theorem Ret.upTo {g : St → Option (Ex × St)} {n m : Nat} {s : St} {Q : Ex × St → Prop} (I : Nat → St → Prop) (hm : n < m) (h0 : I 0 s)
    (hs : ∀ i s, i < n → I i s → Ret (g s) fun r => (r.1 = .normal ∧ I (i + 1) r.2) ∨ (r.1 ≠ .normal ∧ Q r)) (he : ∀ s, I n s → Ret (g s) fun r => r.1 ≠ .normal ∧ Q r) : Ret (Ri.iter m g s) Q := by
  refine Ret.iter (fun f s => ∃ i, i ≤ n ∧ f = n + 1 - i ∧ I i s) Q ?_ (fun s ⟨i, h1, h2, _⟩ => by omega) (n + 1) m s (by omega) ⟨0, by omega, by omega, h0⟩
  rintro j s ⟨i, hi, hj, hI⟩
  by_cases h : i < n
  · refine (hs i s h hI).mono ?_
    rintro r (⟨h1, h2⟩ | h)
    · exact .inl ⟨h1, i + 1, by omega, by omega, h2⟩
    · exact .inr h
  · have : i = n := by omega
    subst this
    exact (he s hI).mono fun r h => .inr h
theorem Own.keep {N sz : Nat} {e : TypeId} {H H' : AH} {s : AV} {cs : List AV} (h : Own N sz e H s cs) (hw : H.wf) (hs : ∀ b, b < H.next → H'.m b = H.m b) : Own N sz e H' s cs := by
  rcases h with h | ⟨b, n, c, B, rfl, h2, h3, h4, h5⟩
  · exact .inl h
  · exact .inr ⟨b, n, c, B, rfl, h2, h3, by rw [hs b (hw _ _ h4)]; exact h4, h5⟩
theorem byteInts_map (l : List Int) : byteInts (l.map (.int .u8)) = some l := by
  induction l with
  | nil => rfl
  | cons x l ih => simp [byteInts, ih]
end Go.Ri
namespace Go.Proofs.YthiflgncldmkjaaDoor
open Go.Ri

structure Ins where
  op : Int
  n : Int
  m : Int
  deriving DecidableEq
structure Ins.Ok (i : Ins) : Prop where
  op : InI i.op
  n : InI i.n
  m : InI i.m
def insC (i : Ins) : List AV := [.int .i64 i.op, .int .i64 i.n, .int .i64 i.m]
theorem insC_len (l : List Ins) : ∀ x ∈ l.map insC, x.length = 3 := by
  intro x hx
  simp only [List.mem_map] at hx
  obtain ⟨i, _, rfl⟩ := hx
  rfl
/-- A row of instructions. -/
def InsRow (H : AH) (s : AV) (l : List Ins) : Prop := Row H s 3 (l.map insC) ∧ ∀ i ∈ l, i.Ok
theorem wrapS {i : Nat} (h : i < 9223372036854775807) : IntKind.i64.wrap ((i : Nat) + 1) = ((i + 1 : Nat) : Int) := by
  rw [wrap_id (by unfold InI; omega)]
  omega
theorem ltN {i n : Nat} : decide (((i : Nat) : Int) < ((n : Nat) : Int)) = decide (i < n) := by
  by_cases h : i < n
  · rw [decide_eq_true h, decide_eq_true (by omega)]
  · rw [decide_eq_false h, decide_eq_false (by omega)]

/-! ### Bytes of one's own -/
def Bytes (N : Nat) (H : AH) (s : AV) (l : List Int) : Prop := Own N 1 5 H s (U8 l)
theorem Bytes.one {N : Nat} {H0 H : AH} {s : AV} {l : List Int} {x : Int} (hs : Bytes N H s l) (he : Ext N H0 H) (hlim : l.length < 1000000000000) :
    Ret (aAppend Tryd.prog 87 87 s (.slice (some (H.next, 0)) 1 (.kn 1)) (H.new [.int .u8 x] 5)) fun r => Bytes N r.2 r.1 (l ++ [x]) ∧ Ext N H0 r.2 := by
  refine (app_el (ds := [.int .u8 x]) ysl87 hs he rfl (by simp [U8]; omega)).mono ?_
  rintro r ⟨h1, h2, _⟩
  exact ⟨by simpa [Bytes, U8] using h1, h2⟩
theorem Bytes.str {N : Nat} {H0 H : AH} {s : AV} {l : List Int} {x : ByteArray} (hs : Bytes N H s l) (he : Ext N H0 H) (hlim : l.length + x.size < 1000000000000) :
    Ret (aAppend Tryd.prog 87 9 s (.str x) H) fun r => Bytes N r.2 r.1 (l ++ byteL x) ∧ Ext N H0 r.2 := by
  have hlen : (strCells x).length = x.size := by rw [strCells_eq, U8, List.length_map, byteL_length]
  refine (app_own (n := x.size) (ds := strCells x) ysl87 seq9 hs he rfl ?_ (by omega) (by rw [hlen]; simp [U8]; omega)).mono ?_
  · unfold srcN
    cases hx : x.size with
    | zero =>
      simp only []
      congr 1
      exact (List.eq_nil_of_length_eq_zero (by rw [hlen, hx])).symm
    | succ n =>
      simp only []
      rw [if_pos ⟨hx.symm, trivial⟩]
  · rintro r ⟨h1, h2, _⟩
    rw [strCells_eq] at h1
    exact ⟨by simpa [Bytes, U8] using h1, h2⟩
theorem Bytes.read {N : Nat} {H : AH} {s : AV} {l : List Int} (hs : Bytes N H s l) : cvBytes s H = some (.str (strOfNums l)) := by
  rcases hs with ⟨rfl, h⟩ | ⟨b, n, c, B, rfl, _, hl, hb, _, _, hbl, ht, _⟩
  · have : l = [] := by simpa [U8] using h
    subst this
    rfl
  · rw [Nat.mul_one] at *
    simp only [cvBytes, AH.ldN, hb, Option.bind_some, Nat.zero_add, if_pos hbl, List.drop_zero, ht, U8, byteInts_map, Option.map_some]

def lineT (i : Ins) : List Int := (lineOf i.op i.n i.m).getD [63]
theorem joinL_size {op n m : Int} : (joinL 0 (lineWords op n m)).length ≤ 100 := by
  have h := lineWords_size (op := op) (n := n) (m := m)
  have h1 := txt_size n
  have h2 := txt_size m
  have h3 := wordOf_size op
  rcases nums_three op with hnm | hnm | hnm <;> simp [lineWords, hnm, joinL, byteL_length] <;> omega
theorem lineT_length (i : Ins) : (lineT i).length ≤ 100 := by
  unfold lineT lineOf
  split
  · decide
  · split
    · decide
    · exact joinL_size
def rowT (k : Nat) (i : Ins) : List Int := txt k ++ [32] ++ lineT i ++ [10]
def printT : Nat → List Ins → List Int
  | _, [] => []
  | k, i :: l => rowT k i ++ printT (k + 1) l
theorem printT_append : ∀ (k : Nat) (l : List Ins) (i : Ins), printT k (l ++ [i]) = printT k l ++ rowT (k + l.length) i
  | k, [], i => by simp [printT]
  | k, x :: l, i => by
    simp only [List.cons_append, printT, printT_append (k + 1) l i, List.length_cons]
    rw [show k + 1 + l.length = k + (l.length + 1) by omega]
    simp
theorem printT_take (l : List Ins) (k : Nat) (h : k < l.length) : printT 0 (l.take (k + 1)) = printT 0 (l.take k) ++ rowT k l[k] := by
  rw [List.take_succ_eq_append_getElem h, printT_append]
  simp [Nat.min_eq_left (Nat.le_of_lt h)]
theorem rowT_length (k : Nat) (i : Ins) : (rowT k i).length ≤ 122 := by
  have h1 := txt_length k
  have h2 := lineT_length i
  simp [rowT]
  omega
theorem printT_length : ∀ (k : Nat) (l : List Ins), (printT k l).length ≤ l.length * 122
  | k, [] => by simp [printT]
  | k, i :: l => by
    have h1 := rowT_length k i
    have h2 := printT_length (k + 1) l
    simp only [printT, List.length_append, List.length_cons]
    omega
theorem byteL_small (l : List Int) (h : ∀ n ∈ l, 0 ≤ n ∧ n < 256) : byteL (strOfNums l) = l := byteL_str l h
theorem joinL_small : ∀ (i : Nat) (l : List ByteArray), ∀ n ∈ joinL i l, 0 ≤ n ∧ n < 256
  | i, [], n, h => by simp [joinL] at h
  | i, s :: l, n, h => by
    simp only [joinL, List.mem_append] at h
    rcases h with (h | h) | h
    · split at h
      · simp at h; omega
      · simp at h
    · simp only [byteL, List.mem_map] at h
      obtain ⟨y, _, rfl⟩ := h
      have := y.toNat_lt
      omega
    · exact joinL_small (i + 1) l n h
theorem lineT_small (i : Ins) : ∀ n ∈ lineT i, 0 ≤ n ∧ n < 256 := by
  unfold lineT lineOf
  split
  · simp
  · split
    · simp
    · exact joinL_small 0 _
theorem lineAV_T (i : Ins) : ∃ x e, lineAV i.op i.n i.m = .tuple [.str x, .int .i64 e] ∧ (if e = 0 then x else ⟨#[63]⟩) = strOfNums (lineT i) := by
  unfold lineAV lineT
  cases lineOf i.op i.n i.m with
  | none => exact ⟨_, _, rfl, rfl⟩
  | some l => exact ⟨_, _, rfl, rfl⟩

/-- What every round of Print asks of the state. -/
def PrintI (H : AH) (s : AV) (l : List Ins) (i : Nat) (t : St) : Prop :=
  t.1 9 = s ∧ t.1 10 = .int .i64 (l.length : Nat) ∧ t.1 11 = .int .i64 (i : Nat) ∧ Bytes H.next t.2 (t.1 3) (printT 0 (l.take i)) ∧ Ext H.next H t.2
theorem print_tail (d : Nat) {H : AH} {s : AV} {l : List Ins} (hlen : l.length ≤ 1000) {i : Nat} (hi : i < l.length) {T : Tm} {H1 : AH} (hI : PrintI H s l i (T, H1)) (t4 : T 4 = .int .i64 (i : Nat)) (t6 : T 6 = .str (strOfNums (lineT l[i]))) :
    Ret (F20_J0 (RT d) (Ri.iter big) T H1) fun r => r.1 = .normal ∧ PrintI H s l (i + 1) r.2 := by
  obtain ⟨t9, t10, t11, hb, hx⟩ := hI
  simp only at t9 t10 t11 hb hx
  have hin : InI ((i : Nat) : Int) := by unfold InI; omega
  have hpl := printT_length 0 (l.take i)
  have hpl' : (printT 0 (l.take i)).length ≤ 122000 := by
    have : (l.take i).length ≤ 1000 := by simp; omega
    omega
  have hll := lineT_length l[i]
  have htl := txt_length ((i : Nat) : Int)
  have hts := txt_size ((i : Nat) : Int)
  have hls : (strOfNums (lineT l[i])).size ≤ 100 := by rw [strOfNums_size]; exact hll
  unfold F20_J0
  simp -implicitDefEqProofs only [chkL_nil, chkL_same, aBin_add, aBin_sub, aBin_mul, aBin_lss, aBin_leq, aBin_gtr, aBin_geq, aBin_eql, aBin_neq, cvInt_int, asB_bool, gdv_bool, jn_inl, jn_inr, Option.bind_some, Option.map_some, Option.bind_none, Option.map_none, ptrTo_at, slTo_at, nilC_at, ptrAdd_at, aUn_not, aUn_neg, aExtract_at, idxSl_at, idxPtr_at, ldOne_ptr, ldAgg_ptr, new_m, new_next, put_m, put_next, kill_m, kill_next, nBox_agg, nBox_int, bft, btf, btt, bff, updL_nil', updL_cons', upd_same, upd_ne, T0_at, if_true, if_false, ite_true, ite_false, Bool.false_eq_true, Bool.true_eq_false, decide_true, decide_false, Bool.not_true, Bool.not_false, beq_self_eq_true, Nat.zero_add, Nat.add_zero, Nat.reduceAdd, Nat.reduceMul, Nat.reduceLT, Nat.reduceLeDiff, Nat.reduceEqDiff, Nat.reduceBEq, Nat.left_eq_add, Nat.add_eq_left, Nat.add_left_cancel_iff, reduceCtorEq, Int.reduceLT, Int.reduceLE, Int.reduceEq, Int.reduceGT, Int.reduceGE, Int.reduceToNat, Int.reduceNeg, List.getElem?_cons_zero, List.getElem?_cons_succ, List.getD_cons_zero, List.getD_cons_succ, List.getD_nil, List.length_cons, List.length_nil, List.drop_zero, List.drop_succ_cons, List.take_succ_cons, List.take_zero, List.set_cons_zero, List.set_cons_succ, List.cons_append, List.nil_append, and_self, and_true, true_and, not_true_eq_false, not_false_eq_true, Nat.le_refl, Nat.lt_irrefl, Nat.zero_lt_succ, Nat.mul_one, Nat.one_mul, Int.toNat_natCast, Int.toNat_zero, Int.toNat_one, Nat.zero_mul, ylen22, ylen36, ylen40, ylen51, ylen61, ylen73, ylen90, ylen112, ylen139, ylen9, yalloc24, yalloc29, yalloc64, yalloc75, yalloc108, yalloc114, yalloc120, yalloc127, yalloc133, yalloc141, ybs22, ybs22_2, ybs36, ybs61, ybs73, ybs40, ybs40_2, ybs51, ybs51_2, ybs112, ystore2, ystore3, ystore5, ystore4, ystore22, ystore36, ystore40, ystore51, ystore61, ystore73, ystore112, ystore29, ystore24, ystore64, ystore75, ystore108, ystore114, ystore120, ystore127, ystore133, ystore141, ybuild29_, ybuild29_0i, ybuild29_0i1i, ybuild29_0i2i, ybuild29_0i1i2i, ybuild24_, ybuild24_0s, ybuild24_1i, ybuild64_, ybuild64_0i, ybuild64_0i1i, ybuild75_, ybuild75_0i1i2i3i, ybuild108_, ybuild108_0i1i2s, ybuild118_0i2i, ybuild114_2s4i, ybuild100, ybuild120, ybuild127, ybuild141, ybuild141_0, ybuild148, ybuild91, yfld108_0, yfld133_2, t4, t6, RT_62 d hin]
  refine ret_bind ((Bytes.str hb hx (by omega)).mono ?_)
  rintro ⟨s1, H2⟩ ⟨hb1, hx1⟩
  simp only at hb1 hx1
  simp -implicitDefEqProofs only [chkL_nil, chkL_same, aBin_add, aBin_sub, aBin_mul, aBin_lss, aBin_leq, aBin_gtr, aBin_geq, aBin_eql, aBin_neq, cvInt_int, asB_bool, gdv_bool, jn_inl, jn_inr, Option.bind_some, Option.map_some, Option.bind_none, Option.map_none, ptrTo_at, slTo_at, nilC_at, ptrAdd_at, aUn_not, aUn_neg, aExtract_at, idxSl_at, idxPtr_at, ldOne_ptr, ldAgg_ptr, new_m, new_next, put_m, put_next, kill_m, kill_next, nBox_agg, nBox_int, bft, btf, btt, bff, updL_nil', updL_cons', upd_same, upd_ne, T0_at, if_true, if_false, ite_true, ite_false, Bool.false_eq_true, Bool.true_eq_false, decide_true, decide_false, Bool.not_true, Bool.not_false, beq_self_eq_true, Nat.zero_add, Nat.add_zero, Nat.reduceAdd, Nat.reduceMul, Nat.reduceLT, Nat.reduceLeDiff, Nat.reduceEqDiff, Nat.reduceBEq, Nat.left_eq_add, Nat.add_eq_left, Nat.add_left_cancel_iff, reduceCtorEq, Int.reduceLT, Int.reduceLE, Int.reduceEq, Int.reduceGT, Int.reduceGE, Int.reduceToNat, Int.reduceNeg, List.getElem?_cons_zero, List.getElem?_cons_succ, List.getD_cons_zero, List.getD_cons_succ, List.getD_nil, List.length_cons, List.length_nil, List.drop_zero, List.drop_succ_cons, List.take_succ_cons, List.take_zero, List.set_cons_zero, List.set_cons_succ, List.cons_append, List.nil_append, and_self, and_true, true_and, not_true_eq_false, not_false_eq_true, Nat.le_refl, Nat.lt_irrefl, Nat.zero_lt_succ, Nat.mul_one, Nat.one_mul, Int.toNat_natCast, Int.toNat_zero, Int.toNat_one, Nat.zero_mul, ylen22, ylen36, ylen40, ylen51, ylen61, ylen73, ylen90, ylen112, ylen139, ylen9, yalloc24, yalloc29, yalloc64, yalloc75, yalloc108, yalloc114, yalloc120, yalloc127, yalloc133, yalloc141, ybs22, ybs22_2, ybs36, ybs61, ybs73, ybs40, ybs40_2, ybs51, ybs51_2, ybs112, ystore2, ystore3, ystore5, ystore4, ystore22, ystore36, ystore40, ystore51, ystore61, ystore73, ystore112, ystore29, ystore24, ystore64, ystore75, ystore108, ystore114, ystore120, ystore127, ystore133, ystore141, ybuild29_, ybuild29_0i, ybuild29_0i1i, ybuild29_0i2i, ybuild29_0i1i2i, ybuild24_, ybuild24_0s, ybuild24_1i, ybuild64_, ybuild64_0i, ybuild64_0i1i, ybuild75_, ybuild75_0i1i2i3i, ybuild108_, ybuild108_0i1i2s, ybuild118_0i2i, ybuild114_2s4i, ybuild100, ybuild120, ybuild127, ybuild141, ybuild141_0, ybuild148, ybuild91, yfld108_0, yfld133_2, bs87]
  refine ret_bind ((Bytes.one (x := 32) hb1 hx1 (by simp [byteL_length]; omega)).mono ?_)
  rintro ⟨s2, H3⟩ ⟨hb2, hx2⟩
  simp only at hb2 hx2
  simp -implicitDefEqProofs only [chkL_nil, chkL_same, aBin_add, aBin_sub, aBin_mul, aBin_lss, aBin_leq, aBin_gtr, aBin_geq, aBin_eql, aBin_neq, cvInt_int, asB_bool, gdv_bool, jn_inl, jn_inr, Option.bind_some, Option.map_some, Option.bind_none, Option.map_none, ptrTo_at, slTo_at, nilC_at, ptrAdd_at, aUn_not, aUn_neg, aExtract_at, idxSl_at, idxPtr_at, ldOne_ptr, ldAgg_ptr, new_m, new_next, put_m, put_next, kill_m, kill_next, nBox_agg, nBox_int, bft, btf, btt, bff, updL_nil', updL_cons', upd_same, upd_ne, T0_at, if_true, if_false, ite_true, ite_false, Bool.false_eq_true, Bool.true_eq_false, decide_true, decide_false, Bool.not_true, Bool.not_false, beq_self_eq_true, Nat.zero_add, Nat.add_zero, Nat.reduceAdd, Nat.reduceMul, Nat.reduceLT, Nat.reduceLeDiff, Nat.reduceEqDiff, Nat.reduceBEq, Nat.left_eq_add, Nat.add_eq_left, Nat.add_left_cancel_iff, reduceCtorEq, Int.reduceLT, Int.reduceLE, Int.reduceEq, Int.reduceGT, Int.reduceGE, Int.reduceToNat, Int.reduceNeg, List.getElem?_cons_zero, List.getElem?_cons_succ, List.getD_cons_zero, List.getD_cons_succ, List.getD_nil, List.length_cons, List.length_nil, List.drop_zero, List.drop_succ_cons, List.take_succ_cons, List.take_zero, List.set_cons_zero, List.set_cons_succ, List.cons_append, List.nil_append, and_self, and_true, true_and, not_true_eq_false, not_false_eq_true, Nat.le_refl, Nat.lt_irrefl, Nat.zero_lt_succ, Nat.mul_one, Nat.one_mul, Int.toNat_natCast, Int.toNat_zero, Int.toNat_one, Nat.zero_mul, ylen22, ylen36, ylen40, ylen51, ylen61, ylen73, ylen90, ylen112, ylen139, ylen9, yalloc24, yalloc29, yalloc64, yalloc75, yalloc108, yalloc114, yalloc120, yalloc127, yalloc133, yalloc141, ybs22, ybs22_2, ybs36, ybs61, ybs73, ybs40, ybs40_2, ybs51, ybs51_2, ybs112, ystore2, ystore3, ystore5, ystore4, ystore22, ystore36, ystore40, ystore51, ystore61, ystore73, ystore112, ystore29, ystore24, ystore64, ystore75, ystore108, ystore114, ystore120, ystore127, ystore133, ystore141, ybuild29_, ybuild29_0i, ybuild29_0i1i, ybuild29_0i2i, ybuild29_0i1i2i, ybuild24_, ybuild24_0s, ybuild24_1i, ybuild64_, ybuild64_0i, ybuild64_0i1i, ybuild75_, ybuild75_0i1i2i3i, ybuild108_, ybuild108_0i1i2s, ybuild118_0i2i, ybuild114_2s4i, ybuild100, ybuild120, ybuild127, ybuild141, ybuild141_0, ybuild148, ybuild91, yfld108_0, yfld133_2]
  refine ret_bind ((Bytes.str hb2 hx2 (by simp [byteL_length]; omega)).mono ?_)
  rintro ⟨s3, H4⟩ ⟨hb3, hx3⟩
  simp only at hb3 hx3
  simp -implicitDefEqProofs only [chkL_nil, chkL_same, aBin_add, aBin_sub, aBin_mul, aBin_lss, aBin_leq, aBin_gtr, aBin_geq, aBin_eql, aBin_neq, cvInt_int, asB_bool, gdv_bool, jn_inl, jn_inr, Option.bind_some, Option.map_some, Option.bind_none, Option.map_none, ptrTo_at, slTo_at, nilC_at, ptrAdd_at, aUn_not, aUn_neg, aExtract_at, idxSl_at, idxPtr_at, ldOne_ptr, ldAgg_ptr, new_m, new_next, put_m, put_next, kill_m, kill_next, nBox_agg, nBox_int, bft, btf, btt, bff, updL_nil', updL_cons', upd_same, upd_ne, T0_at, if_true, if_false, ite_true, ite_false, Bool.false_eq_true, Bool.true_eq_false, decide_true, decide_false, Bool.not_true, Bool.not_false, beq_self_eq_true, Nat.zero_add, Nat.add_zero, Nat.reduceAdd, Nat.reduceMul, Nat.reduceLT, Nat.reduceLeDiff, Nat.reduceEqDiff, Nat.reduceBEq, Nat.left_eq_add, Nat.add_eq_left, Nat.add_left_cancel_iff, reduceCtorEq, Int.reduceLT, Int.reduceLE, Int.reduceEq, Int.reduceGT, Int.reduceGE, Int.reduceToNat, Int.reduceNeg, List.getElem?_cons_zero, List.getElem?_cons_succ, List.getD_cons_zero, List.getD_cons_succ, List.getD_nil, List.length_cons, List.length_nil, List.drop_zero, List.drop_succ_cons, List.take_succ_cons, List.take_zero, List.set_cons_zero, List.set_cons_succ, List.cons_append, List.nil_append, and_self, and_true, true_and, not_true_eq_false, not_false_eq_true, Nat.le_refl, Nat.lt_irrefl, Nat.zero_lt_succ, Nat.mul_one, Nat.one_mul, Int.toNat_natCast, Int.toNat_zero, Int.toNat_one, Nat.zero_mul, ylen22, ylen36, ylen40, ylen51, ylen61, ylen73, ylen90, ylen112, ylen139, ylen9, yalloc24, yalloc29, yalloc64, yalloc75, yalloc108, yalloc114, yalloc120, yalloc127, yalloc133, yalloc141, ybs22, ybs22_2, ybs36, ybs61, ybs73, ybs40, ybs40_2, ybs51, ybs51_2, ybs112, ystore2, ystore3, ystore5, ystore4, ystore22, ystore36, ystore40, ystore51, ystore61, ystore73, ystore112, ystore29, ystore24, ystore64, ystore75, ystore108, ystore114, ystore120, ystore127, ystore133, ystore141, ybuild29_, ybuild29_0i, ybuild29_0i1i, ybuild29_0i2i, ybuild29_0i1i2i, ybuild24_, ybuild24_0s, ybuild24_1i, ybuild64_, ybuild64_0i, ybuild64_0i1i, ybuild75_, ybuild75_0i1i2i3i, ybuild108_, ybuild108_0i1i2s, ybuild118_0i2i, ybuild114_2s4i, ybuild100, ybuild120, ybuild127, ybuild141, ybuild141_0, ybuild148, ybuild91, yfld108_0, yfld133_2, bs87]
  refine ret_bind ((Bytes.one (x := 10) hb3 hx3 (by simp [byteL_length]; omega)).mono ?_)
  rintro ⟨s4, H5⟩ ⟨hb4, hx4⟩
  simp only at hb4 hx4
  simp -implicitDefEqProofs only [chkL_nil, chkL_same, aBin_add, aBin_sub, aBin_mul, aBin_lss, aBin_leq, aBin_gtr, aBin_geq, aBin_eql, aBin_neq, cvInt_int, asB_bool, gdv_bool, jn_inl, jn_inr, Option.bind_some, Option.map_some, Option.bind_none, Option.map_none, ptrTo_at, slTo_at, nilC_at, ptrAdd_at, aUn_not, aUn_neg, aExtract_at, idxSl_at, idxPtr_at, ldOne_ptr, ldAgg_ptr, new_m, new_next, put_m, put_next, kill_m, kill_next, nBox_agg, nBox_int, bft, btf, btt, bff, updL_nil', updL_cons', upd_same, upd_ne, T0_at, if_true, if_false, ite_true, ite_false, Bool.false_eq_true, Bool.true_eq_false, decide_true, decide_false, Bool.not_true, Bool.not_false, beq_self_eq_true, Nat.zero_add, Nat.add_zero, Nat.reduceAdd, Nat.reduceMul, Nat.reduceLT, Nat.reduceLeDiff, Nat.reduceEqDiff, Nat.reduceBEq, Nat.left_eq_add, Nat.add_eq_left, Nat.add_left_cancel_iff, reduceCtorEq, Int.reduceLT, Int.reduceLE, Int.reduceEq, Int.reduceGT, Int.reduceGE, Int.reduceToNat, Int.reduceNeg, List.getElem?_cons_zero, List.getElem?_cons_succ, List.getD_cons_zero, List.getD_cons_succ, List.getD_nil, List.length_cons, List.length_nil, List.drop_zero, List.drop_succ_cons, List.take_succ_cons, List.take_zero, List.set_cons_zero, List.set_cons_succ, List.cons_append, List.nil_append, and_self, and_true, true_and, not_true_eq_false, not_false_eq_true, Nat.le_refl, Nat.lt_irrefl, Nat.zero_lt_succ, Nat.mul_one, Nat.one_mul, Int.toNat_natCast, Int.toNat_zero, Int.toNat_one, Nat.zero_mul, ylen22, ylen36, ylen40, ylen51, ylen61, ylen73, ylen90, ylen112, ylen139, ylen9, yalloc24, yalloc29, yalloc64, yalloc75, yalloc108, yalloc114, yalloc120, yalloc127, yalloc133, yalloc141, ybs22, ybs22_2, ybs36, ybs61, ybs73, ybs40, ybs40_2, ybs51, ybs51_2, ybs112, ystore2, ystore3, ystore5, ystore4, ystore22, ystore36, ystore40, ystore51, ystore61, ystore73, ystore112, ystore29, ystore24, ystore64, ystore75, ystore108, ystore114, ystore120, ystore127, ystore133, ystore141, ybuild29_, ybuild29_0i, ybuild29_0i1i, ybuild29_0i2i, ybuild29_0i1i2i, ybuild24_, ybuild24_0s, ybuild24_1i, ybuild64_, ybuild64_0i, ybuild64_0i1i, ybuild75_, ybuild75_0i1i2i3i, ybuild108_, ybuild108_0i1i2s, ybuild118_0i2i, ybuild114_2s4i, ybuild100, ybuild120, ybuild127, ybuild141, ybuild141_0, ybuild148, ybuild91, yfld108_0, yfld133_2, t11, wrapS (i := i) (by omega)]
  refine .mk ⟨rfl, ?_, ?_, ?_, ?_, hx4⟩
  · simp -implicitDefEqProofs only [chkL_nil, chkL_same, aBin_add, aBin_sub, aBin_mul, aBin_lss, aBin_leq, aBin_gtr, aBin_geq, aBin_eql, aBin_neq, cvInt_int, asB_bool, gdv_bool, jn_inl, jn_inr, Option.bind_some, Option.map_some, Option.bind_none, Option.map_none, ptrTo_at, slTo_at, nilC_at, ptrAdd_at, aUn_not, aUn_neg, aExtract_at, idxSl_at, idxPtr_at, ldOne_ptr, ldAgg_ptr, new_m, new_next, put_m, put_next, kill_m, kill_next, nBox_agg, nBox_int, bft, btf, btt, bff, updL_nil', updL_cons', upd_same, upd_ne, T0_at, if_true, if_false, ite_true, ite_false, Bool.false_eq_true, Bool.true_eq_false, decide_true, decide_false, Bool.not_true, Bool.not_false, beq_self_eq_true, Nat.zero_add, Nat.add_zero, Nat.reduceAdd, Nat.reduceMul, Nat.reduceLT, Nat.reduceLeDiff, Nat.reduceEqDiff, Nat.reduceBEq, Nat.left_eq_add, Nat.add_eq_left, Nat.add_left_cancel_iff, reduceCtorEq, Int.reduceLT, Int.reduceLE, Int.reduceEq, Int.reduceGT, Int.reduceGE, Int.reduceToNat, Int.reduceNeg, List.getElem?_cons_zero, List.getElem?_cons_succ, List.getD_cons_zero, List.getD_cons_succ, List.getD_nil, List.length_cons, List.length_nil, List.drop_zero, List.drop_succ_cons, List.take_succ_cons, List.take_zero, List.set_cons_zero, List.set_cons_succ, List.cons_append, List.nil_append, and_self, and_true, true_and, not_true_eq_false, not_false_eq_true, Nat.le_refl, Nat.lt_irrefl, Nat.zero_lt_succ, Nat.mul_one, Nat.one_mul, Int.toNat_natCast, Int.toNat_zero, Int.toNat_one, Nat.zero_mul, ylen22, ylen36, ylen40, ylen51, ylen61, ylen73, ylen90, ylen112, ylen139, ylen9, yalloc24, yalloc29, yalloc64, yalloc75, yalloc108, yalloc114, yalloc120, yalloc127, yalloc133, yalloc141, ybs22, ybs22_2, ybs36, ybs61, ybs73, ybs40, ybs40_2, ybs51, ybs51_2, ybs112, ystore2, ystore3, ystore5, ystore4, ystore22, ystore36, ystore40, ystore51, ystore61, ystore73, ystore112, ystore29, ystore24, ystore64, ystore75, ystore108, ystore114, ystore120, ystore127, ystore133, ystore141, ybuild29_, ybuild29_0i, ybuild29_0i1i, ybuild29_0i2i, ybuild29_0i1i2i, ybuild24_, ybuild24_0s, ybuild24_1i, ybuild64_, ybuild64_0i, ybuild64_0i1i, ybuild75_, ybuild75_0i1i2i3i, ybuild108_, ybuild108_0i1i2s, ybuild118_0i2i, ybuild114_2s4i, ybuild100, ybuild120, ybuild127, ybuild141, ybuild141_0, ybuild148, ybuild91, yfld108_0, yfld133_2, t9]
  · simp -implicitDefEqProofs only [chkL_nil, chkL_same, aBin_add, aBin_sub, aBin_mul, aBin_lss, aBin_leq, aBin_gtr, aBin_geq, aBin_eql, aBin_neq, cvInt_int, asB_bool, gdv_bool, jn_inl, jn_inr, Option.bind_some, Option.map_some, Option.bind_none, Option.map_none, ptrTo_at, slTo_at, nilC_at, ptrAdd_at, aUn_not, aUn_neg, aExtract_at, idxSl_at, idxPtr_at, ldOne_ptr, ldAgg_ptr, new_m, new_next, put_m, put_next, kill_m, kill_next, nBox_agg, nBox_int, bft, btf, btt, bff, updL_nil', updL_cons', upd_same, upd_ne, T0_at, if_true, if_false, ite_true, ite_false, Bool.false_eq_true, Bool.true_eq_false, decide_true, decide_false, Bool.not_true, Bool.not_false, beq_self_eq_true, Nat.zero_add, Nat.add_zero, Nat.reduceAdd, Nat.reduceMul, Nat.reduceLT, Nat.reduceLeDiff, Nat.reduceEqDiff, Nat.reduceBEq, Nat.left_eq_add, Nat.add_eq_left, Nat.add_left_cancel_iff, reduceCtorEq, Int.reduceLT, Int.reduceLE, Int.reduceEq, Int.reduceGT, Int.reduceGE, Int.reduceToNat, Int.reduceNeg, List.getElem?_cons_zero, List.getElem?_cons_succ, List.getD_cons_zero, List.getD_cons_succ, List.getD_nil, List.length_cons, List.length_nil, List.drop_zero, List.drop_succ_cons, List.take_succ_cons, List.take_zero, List.set_cons_zero, List.set_cons_succ, List.cons_append, List.nil_append, and_self, and_true, true_and, not_true_eq_false, not_false_eq_true, Nat.le_refl, Nat.lt_irrefl, Nat.zero_lt_succ, Nat.mul_one, Nat.one_mul, Int.toNat_natCast, Int.toNat_zero, Int.toNat_one, Nat.zero_mul, ylen22, ylen36, ylen40, ylen51, ylen61, ylen73, ylen90, ylen112, ylen139, ylen9, yalloc24, yalloc29, yalloc64, yalloc75, yalloc108, yalloc114, yalloc120, yalloc127, yalloc133, yalloc141, ybs22, ybs22_2, ybs36, ybs61, ybs73, ybs40, ybs40_2, ybs51, ybs51_2, ybs112, ystore2, ystore3, ystore5, ystore4, ystore22, ystore36, ystore40, ystore51, ystore61, ystore73, ystore112, ystore29, ystore24, ystore64, ystore75, ystore108, ystore114, ystore120, ystore127, ystore133, ystore141, ybuild29_, ybuild29_0i, ybuild29_0i1i, ybuild29_0i2i, ybuild29_0i1i2i, ybuild24_, ybuild24_0s, ybuild24_1i, ybuild64_, ybuild64_0i, ybuild64_0i1i, ybuild75_, ybuild75_0i1i2i3i, ybuild108_, ybuild108_0i1i2s, ybuild118_0i2i, ybuild114_2s4i, ybuild100, ybuild120, ybuild127, ybuild141, ybuild141_0, ybuild148, ybuild91, yfld108_0, yfld133_2, t10]
  · simp -implicitDefEqProofs only [chkL_nil, chkL_same, aBin_add, aBin_sub, aBin_mul, aBin_lss, aBin_leq, aBin_gtr, aBin_geq, aBin_eql, aBin_neq, cvInt_int, asB_bool, gdv_bool, jn_inl, jn_inr, Option.bind_some, Option.map_some, Option.bind_none, Option.map_none, ptrTo_at, slTo_at, nilC_at, ptrAdd_at, aUn_not, aUn_neg, aExtract_at, idxSl_at, idxPtr_at, ldOne_ptr, ldAgg_ptr, new_m, new_next, put_m, put_next, kill_m, kill_next, nBox_agg, nBox_int, bft, btf, btt, bff, updL_nil', updL_cons', upd_same, upd_ne, T0_at, if_true, if_false, ite_true, ite_false, Bool.false_eq_true, Bool.true_eq_false, decide_true, decide_false, Bool.not_true, Bool.not_false, beq_self_eq_true, Nat.zero_add, Nat.add_zero, Nat.reduceAdd, Nat.reduceMul, Nat.reduceLT, Nat.reduceLeDiff, Nat.reduceEqDiff, Nat.reduceBEq, Nat.left_eq_add, Nat.add_eq_left, Nat.add_left_cancel_iff, reduceCtorEq, Int.reduceLT, Int.reduceLE, Int.reduceEq, Int.reduceGT, Int.reduceGE, Int.reduceToNat, Int.reduceNeg, List.getElem?_cons_zero, List.getElem?_cons_succ, List.getD_cons_zero, List.getD_cons_succ, List.getD_nil, List.length_cons, List.length_nil, List.drop_zero, List.drop_succ_cons, List.take_succ_cons, List.take_zero, List.set_cons_zero, List.set_cons_succ, List.cons_append, List.nil_append, and_self, and_true, true_and, not_true_eq_false, not_false_eq_true, Nat.le_refl, Nat.lt_irrefl, Nat.zero_lt_succ, Nat.mul_one, Nat.one_mul, Int.toNat_natCast, Int.toNat_zero, Int.toNat_one, Nat.zero_mul, ylen22, ylen36, ylen40, ylen51, ylen61, ylen73, ylen90, ylen112, ylen139, ylen9, yalloc24, yalloc29, yalloc64, yalloc75, yalloc108, yalloc114, yalloc120, yalloc127, yalloc133, yalloc141, ybs22, ybs22_2, ybs36, ybs61, ybs73, ybs40, ybs40_2, ybs51, ybs51_2, ybs112, ystore2, ystore3, ystore5, ystore4, ystore22, ystore36, ystore40, ystore51, ystore61, ystore73, ystore112, ystore29, ystore24, ystore64, ystore75, ystore108, ystore114, ystore120, ystore127, ystore133, ystore141, ybuild29_, ybuild29_0i, ybuild29_0i1i, ybuild29_0i2i, ybuild29_0i1i2i, ybuild24_, ybuild24_0s, ybuild24_1i, ybuild64_, ybuild64_0i, ybuild64_0i1i, ybuild75_, ybuild75_0i1i2i3i, ybuild108_, ybuild108_0i1i2s, ybuild118_0i2i, ybuild114_2s4i, ybuild100, ybuild120, ybuild127, ybuild141, ybuild141_0, ybuild148, ybuild91, yfld108_0, yfld133_2]
  · simp -implicitDefEqProofs only [chkL_nil, chkL_same, aBin_add, aBin_sub, aBin_mul, aBin_lss, aBin_leq, aBin_gtr, aBin_geq, aBin_eql, aBin_neq, cvInt_int, asB_bool, gdv_bool, jn_inl, jn_inr, Option.bind_some, Option.map_some, Option.bind_none, Option.map_none, ptrTo_at, slTo_at, nilC_at, ptrAdd_at, aUn_not, aUn_neg, aExtract_at, idxSl_at, idxPtr_at, ldOne_ptr, ldAgg_ptr, new_m, new_next, put_m, put_next, kill_m, kill_next, nBox_agg, nBox_int, bft, btf, btt, bff, updL_nil', updL_cons', upd_same, upd_ne, T0_at, if_true, if_false, ite_true, ite_false, Bool.false_eq_true, Bool.true_eq_false, decide_true, decide_false, Bool.not_true, Bool.not_false, beq_self_eq_true, Nat.zero_add, Nat.add_zero, Nat.reduceAdd, Nat.reduceMul, Nat.reduceLT, Nat.reduceLeDiff, Nat.reduceEqDiff, Nat.reduceBEq, Nat.left_eq_add, Nat.add_eq_left, Nat.add_left_cancel_iff, reduceCtorEq, Int.reduceLT, Int.reduceLE, Int.reduceEq, Int.reduceGT, Int.reduceGE, Int.reduceToNat, Int.reduceNeg, List.getElem?_cons_zero, List.getElem?_cons_succ, List.getD_cons_zero, List.getD_cons_succ, List.getD_nil, List.length_cons, List.length_nil, List.drop_zero, List.drop_succ_cons, List.take_succ_cons, List.take_zero, List.set_cons_zero, List.set_cons_succ, List.cons_append, List.nil_append, and_self, and_true, true_and, not_true_eq_false, not_false_eq_true, Nat.le_refl, Nat.lt_irrefl, Nat.zero_lt_succ, Nat.mul_one, Nat.one_mul, Int.toNat_natCast, Int.toNat_zero, Int.toNat_one, Nat.zero_mul, ylen22, ylen36, ylen40, ylen51, ylen61, ylen73, ylen90, ylen112, ylen139, ylen9, yalloc24, yalloc29, yalloc64, yalloc75, yalloc108, yalloc114, yalloc120, yalloc127, yalloc133, yalloc141, ybs22, ybs22_2, ybs36, ybs61, ybs73, ybs40, ybs40_2, ybs51, ybs51_2, ybs112, ystore2, ystore3, ystore5, ystore4, ystore22, ystore36, ystore40, ystore51, ystore61, ystore73, ystore112, ystore29, ystore24, ystore64, ystore75, ystore108, ystore114, ystore120, ystore127, ystore133, ystore141, ybuild29_, ybuild29_0i, ybuild29_0i1i, ybuild29_0i2i, ybuild29_0i1i2i, ybuild24_, ybuild24_0s, ybuild24_1i, ybuild64_, ybuild64_0i, ybuild64_0i1i, ybuild75_, ybuild75_0i1i2i3i, ybuild108_, ybuild108_0i1i2s, ybuild118_0i2i, ybuild114_2s4i, ybuild100, ybuild120, ybuild127, ybuild141, ybuild141_0, ybuild148, ybuild91, yfld108_0, yfld133_2]
    rw [printT_take l i hi]
    rw [byteL_str _ (txt_small _), byteL_str _ (lineT_small _)] at hb4
    simpa [rowT] using hb4

theorem print_code (d : Nat) {H : AH} (hw : H.wf) (hT : Tabs H) {s : AV} {l : List Ins} (hl : InsRow H s l) (hlen : l.length ≤ 1000) (a b c : AV) :
    Ret (RT (d + 1) 20 [.agg [s, a, b, c]] H) fun r => r.1 = .str (strOfNums (printT 0 l)) ∧ Ext H.next H r.2 := by
  rw [R20]
  unfold F20
  obtain ⟨hrow, hok⟩ := hl
  have hs : aLen Tryd.prog 22 s = some (.int .i64 (l.length : Nat)) := by rw [hrow.alen ysl22.under, List.length_map]
  simp -implicitDefEqProofs only [chkL_nil, chkL_same, aBin_add, aBin_sub, aBin_mul, aBin_lss, aBin_leq, aBin_gtr, aBin_geq, aBin_eql, aBin_neq, cvInt_int, asB_bool, gdv_bool, jn_inl, jn_inr, Option.bind_some, Option.map_some, Option.bind_none, Option.map_none, ptrTo_at, slTo_at, nilC_at, ptrAdd_at, aUn_not, aUn_neg, aExtract_at, idxSl_at, idxPtr_at, ldOne_ptr, ldAgg_ptr, new_m, new_next, put_m, put_next, kill_m, kill_next, nBox_agg, nBox_int, bft, btf, btt, bff, updL_nil', updL_cons', upd_same, upd_ne, T0_at, if_true, if_false, ite_true, ite_false, Bool.false_eq_true, Bool.true_eq_false, decide_true, decide_false, Bool.not_true, Bool.not_false, beq_self_eq_true, Nat.zero_add, Nat.add_zero, Nat.reduceAdd, Nat.reduceMul, Nat.reduceLT, Nat.reduceLeDiff, Nat.reduceEqDiff, Nat.reduceBEq, Nat.left_eq_add, Nat.add_eq_left, Nat.add_left_cancel_iff, reduceCtorEq, Int.reduceLT, Int.reduceLE, Int.reduceEq, Int.reduceGT, Int.reduceGE, Int.reduceToNat, Int.reduceNeg, List.getElem?_cons_zero, List.getElem?_cons_succ, List.getD_cons_zero, List.getD_cons_succ, List.getD_nil, List.length_cons, List.length_nil, List.drop_zero, List.drop_succ_cons, List.take_succ_cons, List.take_zero, List.set_cons_zero, List.set_cons_succ, List.cons_append, List.nil_append, and_self, and_true, true_and, not_true_eq_false, not_false_eq_true, Nat.le_refl, Nat.lt_irrefl, Nat.zero_lt_succ, Nat.mul_one, Nat.one_mul, Int.toNat_natCast, Int.toNat_zero, Int.toNat_one, Nat.zero_mul, ylen22, ylen36, ylen40, ylen51, ylen61, ylen73, ylen90, ylen112, ylen139, ylen9, yalloc24, yalloc29, yalloc64, yalloc75, yalloc108, yalloc114, yalloc120, yalloc127, yalloc133, yalloc141, ybs22, ybs22_2, ybs36, ybs61, ybs73, ybs40, ybs40_2, ybs51, ybs51_2, ybs112, ystore2, ystore3, ystore5, ystore4, ystore22, ystore36, ystore40, ystore51, ystore61, ystore73, ystore112, ystore29, ystore24, ystore64, ystore75, ystore108, ystore114, ystore120, ystore127, ystore133, ystore141, ybuild29_, ybuild29_0i, ybuild29_0i1i, ybuild29_0i2i, ybuild29_0i1i2i, ybuild24_, ybuild24_0s, ybuild24_1i, ybuild64_, ybuild64_0i, ybuild64_0i1i, ybuild75_, ybuild75_0i1i2i3i, ybuild108_, ybuild108_0i1i2s, ybuild118_0i2i, ybuild114_2s4i, ybuild100, ybuild120, ybuild127, ybuild141, ybuild141_0, ybuild148, ybuild91, yfld108_0, yfld133_2, hs]
  have hx0 : Ext H.next H (H.new [s, a, b, c] 24) := (Ext.refl hw).new _ _
  refine Ret.then (Q' := fun r => r.1 = .exit 0 ∧ Bytes H.next r.2.2 (r.2.1 3) (printT 0 l) ∧ Ext H.next H r.2.2) ?_ ?_
  · refine Ret.upTo (n := l.length) (PrintI H s l) (by unfold big; omega) ?_ ?_ ?_
    · refine ⟨?_, ?_, ?_, ?_, hx0⟩
      · simp -implicitDefEqProofs only [chkL_nil, chkL_same, aBin_add, aBin_sub, aBin_mul, aBin_lss, aBin_leq, aBin_gtr, aBin_geq, aBin_eql, aBin_neq, cvInt_int, asB_bool, gdv_bool, jn_inl, jn_inr, Option.bind_some, Option.map_some, Option.bind_none, Option.map_none, ptrTo_at, slTo_at, nilC_at, ptrAdd_at, aUn_not, aUn_neg, aExtract_at, idxSl_at, idxPtr_at, ldOne_ptr, ldAgg_ptr, new_m, new_next, put_m, put_next, kill_m, kill_next, nBox_agg, nBox_int, bft, btf, btt, bff, updL_nil', updL_cons', upd_same, upd_ne, T0_at, if_true, if_false, ite_true, ite_false, Bool.false_eq_true, Bool.true_eq_false, decide_true, decide_false, Bool.not_true, Bool.not_false, beq_self_eq_true, Nat.zero_add, Nat.add_zero, Nat.reduceAdd, Nat.reduceMul, Nat.reduceLT, Nat.reduceLeDiff, Nat.reduceEqDiff, Nat.reduceBEq, Nat.left_eq_add, Nat.add_eq_left, Nat.add_left_cancel_iff, reduceCtorEq, Int.reduceLT, Int.reduceLE, Int.reduceEq, Int.reduceGT, Int.reduceGE, Int.reduceToNat, Int.reduceNeg, List.getElem?_cons_zero, List.getElem?_cons_succ, List.getD_cons_zero, List.getD_cons_succ, List.getD_nil, List.length_cons, List.length_nil, List.drop_zero, List.drop_succ_cons, List.take_succ_cons, List.take_zero, List.set_cons_zero, List.set_cons_succ, List.cons_append, List.nil_append, and_self, and_true, true_and, not_true_eq_false, not_false_eq_true, Nat.le_refl, Nat.lt_irrefl, Nat.zero_lt_succ, Nat.mul_one, Nat.one_mul, Int.toNat_natCast, Int.toNat_zero, Int.toNat_one, Nat.zero_mul, ylen22, ylen36, ylen40, ylen51, ylen61, ylen73, ylen90, ylen112, ylen139, ylen9, yalloc24, yalloc29, yalloc64, yalloc75, yalloc108, yalloc114, yalloc120, yalloc127, yalloc133, yalloc141, ybs22, ybs22_2, ybs36, ybs61, ybs73, ybs40, ybs40_2, ybs51, ybs51_2, ybs112, ystore2, ystore3, ystore5, ystore4, ystore22, ystore36, ystore40, ystore51, ystore61, ystore73, ystore112, ystore29, ystore24, ystore64, ystore75, ystore108, ystore114, ystore120, ystore127, ystore133, ystore141, ybuild29_, ybuild29_0i, ybuild29_0i1i, ybuild29_0i2i, ybuild29_0i1i2i, ybuild24_, ybuild24_0s, ybuild24_1i, ybuild64_, ybuild64_0i, ybuild64_0i1i, ybuild75_, ybuild75_0i1i2i3i, ybuild108_, ybuild108_0i1i2s, ybuild118_0i2i, ybuild114_2s4i, ybuild100, ybuild120, ybuild127, ybuild141, ybuild141_0, ybuild148, ybuild91, yfld108_0, yfld133_2, hs]
      · simp -implicitDefEqProofs only [chkL_nil, chkL_same, aBin_add, aBin_sub, aBin_mul, aBin_lss, aBin_leq, aBin_gtr, aBin_geq, aBin_eql, aBin_neq, cvInt_int, asB_bool, gdv_bool, jn_inl, jn_inr, Option.bind_some, Option.map_some, Option.bind_none, Option.map_none, ptrTo_at, slTo_at, nilC_at, ptrAdd_at, aUn_not, aUn_neg, aExtract_at, idxSl_at, idxPtr_at, ldOne_ptr, ldAgg_ptr, new_m, new_next, put_m, put_next, kill_m, kill_next, nBox_agg, nBox_int, bft, btf, btt, bff, updL_nil', updL_cons', upd_same, upd_ne, T0_at, if_true, if_false, ite_true, ite_false, Bool.false_eq_true, Bool.true_eq_false, decide_true, decide_false, Bool.not_true, Bool.not_false, beq_self_eq_true, Nat.zero_add, Nat.add_zero, Nat.reduceAdd, Nat.reduceMul, Nat.reduceLT, Nat.reduceLeDiff, Nat.reduceEqDiff, Nat.reduceBEq, Nat.left_eq_add, Nat.add_eq_left, Nat.add_left_cancel_iff, reduceCtorEq, Int.reduceLT, Int.reduceLE, Int.reduceEq, Int.reduceGT, Int.reduceGE, Int.reduceToNat, Int.reduceNeg, List.getElem?_cons_zero, List.getElem?_cons_succ, List.getD_cons_zero, List.getD_cons_succ, List.getD_nil, List.length_cons, List.length_nil, List.drop_zero, List.drop_succ_cons, List.take_succ_cons, List.take_zero, List.set_cons_zero, List.set_cons_succ, List.cons_append, List.nil_append, and_self, and_true, true_and, not_true_eq_false, not_false_eq_true, Nat.le_refl, Nat.lt_irrefl, Nat.zero_lt_succ, Nat.mul_one, Nat.one_mul, Int.toNat_natCast, Int.toNat_zero, Int.toNat_one, Nat.zero_mul, ylen22, ylen36, ylen40, ylen51, ylen61, ylen73, ylen90, ylen112, ylen139, ylen9, yalloc24, yalloc29, yalloc64, yalloc75, yalloc108, yalloc114, yalloc120, yalloc127, yalloc133, yalloc141, ybs22, ybs22_2, ybs36, ybs61, ybs73, ybs40, ybs40_2, ybs51, ybs51_2, ybs112, ystore2, ystore3, ystore5, ystore4, ystore22, ystore36, ystore40, ystore51, ystore61, ystore73, ystore112, ystore29, ystore24, ystore64, ystore75, ystore108, ystore114, ystore120, ystore127, ystore133, ystore141, ybuild29_, ybuild29_0i, ybuild29_0i1i, ybuild29_0i2i, ybuild29_0i1i2i, ybuild24_, ybuild24_0s, ybuild24_1i, ybuild64_, ybuild64_0i, ybuild64_0i1i, ybuild75_, ybuild75_0i1i2i3i, ybuild108_, ybuild108_0i1i2s, ybuild118_0i2i, ybuild114_2s4i, ybuild100, ybuild120, ybuild127, ybuild141, ybuild141_0, ybuild148, ybuild91, yfld108_0, yfld133_2]
      · simp -implicitDefEqProofs only [chkL_nil, chkL_same, aBin_add, aBin_sub, aBin_mul, aBin_lss, aBin_leq, aBin_gtr, aBin_geq, aBin_eql, aBin_neq, cvInt_int, asB_bool, gdv_bool, jn_inl, jn_inr, Option.bind_some, Option.map_some, Option.bind_none, Option.map_none, ptrTo_at, slTo_at, nilC_at, ptrAdd_at, aUn_not, aUn_neg, aExtract_at, idxSl_at, idxPtr_at, ldOne_ptr, ldAgg_ptr, new_m, new_next, put_m, put_next, kill_m, kill_next, nBox_agg, nBox_int, bft, btf, btt, bff, updL_nil', updL_cons', upd_same, upd_ne, T0_at, if_true, if_false, ite_true, ite_false, Bool.false_eq_true, Bool.true_eq_false, decide_true, decide_false, Bool.not_true, Bool.not_false, beq_self_eq_true, Nat.zero_add, Nat.add_zero, Nat.reduceAdd, Nat.reduceMul, Nat.reduceLT, Nat.reduceLeDiff, Nat.reduceEqDiff, Nat.reduceBEq, Nat.left_eq_add, Nat.add_eq_left, Nat.add_left_cancel_iff, reduceCtorEq, Int.reduceLT, Int.reduceLE, Int.reduceEq, Int.reduceGT, Int.reduceGE, Int.reduceToNat, Int.reduceNeg, List.getElem?_cons_zero, List.getElem?_cons_succ, List.getD_cons_zero, List.getD_cons_succ, List.getD_nil, List.length_cons, List.length_nil, List.drop_zero, List.drop_succ_cons, List.take_succ_cons, List.take_zero, List.set_cons_zero, List.set_cons_succ, List.cons_append, List.nil_append, and_self, and_true, true_and, not_true_eq_false, not_false_eq_true, Nat.le_refl, Nat.lt_irrefl, Nat.zero_lt_succ, Nat.mul_one, Nat.one_mul, Int.toNat_natCast, Int.toNat_zero, Int.toNat_one, Nat.zero_mul, ylen22, ylen36, ylen40, ylen51, ylen61, ylen73, ylen90, ylen112, ylen139, ylen9, yalloc24, yalloc29, yalloc64, yalloc75, yalloc108, yalloc114, yalloc120, yalloc127, yalloc133, yalloc141, ybs22, ybs22_2, ybs36, ybs61, ybs73, ybs40, ybs40_2, ybs51, ybs51_2, ybs112, ystore2, ystore3, ystore5, ystore4, ystore22, ystore36, ystore40, ystore51, ystore61, ystore73, ystore112, ystore29, ystore24, ystore64, ystore75, ystore108, ystore114, ystore120, ystore127, ystore133, ystore141, ybuild29_, ybuild29_0i, ybuild29_0i1i, ybuild29_0i2i, ybuild29_0i1i2i, ybuild24_, ybuild24_0s, ybuild24_1i, ybuild64_, ybuild64_0i, ybuild64_0i1i, ybuild75_, ybuild75_0i1i2i3i, ybuild108_, ybuild108_0i1i2s, ybuild118_0i2i, ybuild114_2s4i, ybuild100, ybuild120, ybuild127, ybuild141, ybuild141_0, ybuild148, ybuild91, yfld108_0, yfld133_2]
        rfl
      · simp -implicitDefEqProofs only [chkL_nil, chkL_same, aBin_add, aBin_sub, aBin_mul, aBin_lss, aBin_leq, aBin_gtr, aBin_geq, aBin_eql, aBin_neq, cvInt_int, asB_bool, gdv_bool, jn_inl, jn_inr, Option.bind_some, Option.map_some, Option.bind_none, Option.map_none, ptrTo_at, slTo_at, nilC_at, ptrAdd_at, aUn_not, aUn_neg, aExtract_at, idxSl_at, idxPtr_at, ldOne_ptr, ldAgg_ptr, new_m, new_next, put_m, put_next, kill_m, kill_next, nBox_agg, nBox_int, bft, btf, btt, bff, updL_nil', updL_cons', upd_same, upd_ne, T0_at, if_true, if_false, ite_true, ite_false, Bool.false_eq_true, Bool.true_eq_false, decide_true, decide_false, Bool.not_true, Bool.not_false, beq_self_eq_true, Nat.zero_add, Nat.add_zero, Nat.reduceAdd, Nat.reduceMul, Nat.reduceLT, Nat.reduceLeDiff, Nat.reduceEqDiff, Nat.reduceBEq, Nat.left_eq_add, Nat.add_eq_left, Nat.add_left_cancel_iff, reduceCtorEq, Int.reduceLT, Int.reduceLE, Int.reduceEq, Int.reduceGT, Int.reduceGE, Int.reduceToNat, Int.reduceNeg, List.getElem?_cons_zero, List.getElem?_cons_succ, List.getD_cons_zero, List.getD_cons_succ, List.getD_nil, List.length_cons, List.length_nil, List.drop_zero, List.drop_succ_cons, List.take_succ_cons, List.take_zero, List.set_cons_zero, List.set_cons_succ, List.cons_append, List.nil_append, and_self, and_true, true_and, not_true_eq_false, not_false_eq_true, Nat.le_refl, Nat.lt_irrefl, Nat.zero_lt_succ, Nat.mul_one, Nat.one_mul, Int.toNat_natCast, Int.toNat_zero, Int.toNat_one, Nat.zero_mul, ylen22, ylen36, ylen40, ylen51, ylen61, ylen73, ylen90, ylen112, ylen139, ylen9, yalloc24, yalloc29, yalloc64, yalloc75, yalloc108, yalloc114, yalloc120, yalloc127, yalloc133, yalloc141, ybs22, ybs22_2, ybs36, ybs61, ybs73, ybs40, ybs40_2, ybs51, ybs51_2, ybs112, ystore2, ystore3, ystore5, ystore4, ystore22, ystore36, ystore40, ystore51, ystore61, ystore73, ystore112, ystore29, ystore24, ystore64, ystore75, ystore108, ystore114, ystore120, ystore127, ystore133, ystore141, ybuild29_, ybuild29_0i, ybuild29_0i1i, ybuild29_0i2i, ybuild29_0i1i2i, ybuild24_, ybuild24_0s, ybuild24_1i, ybuild64_, ybuild64_0i, ybuild64_0i1i, ybuild75_, ybuild75_0i1i2i3i, ybuild108_, ybuild108_0i1i2s, ybuild118_0i2i, ybuild114_2s4i, ybuild100, ybuild120, ybuild127, ybuild141, ybuild141_0, ybuild148, ybuild91, yfld108_0, yfld133_2]
        exact Own.nil _ _ _ _
    · rintro i ⟨T, H1⟩ hi ⟨t9, t10, t11, hb, hx⟩
      simp only at t9 t10 t11 hb hx
      have hsub := hx.sub hw
      obtain ⟨p, o, e1, e2, _⟩ := (hrow.mono hsub).at (i := i) (by simpa using hi)
      have hT1 := hT.ext hx hT.two
      have hii := hok l[i] (List.getElem_mem _)
      unfold F20_L1
      have hin : insC l[i] = [.int .i64 l[i].op, .int .i64 l[i].n, .int .i64 l[i].m] := rfl
      simp only [List.getElem_map] at e2
      rw [hin] at e2
      obtain ⟨x, e, hx1, hx2⟩ := lineAV_T l[i]
      have hx1' := hx.new [.int .i64 0, .int .i64 0, .int .i64 0] 29
      have hput := fun B => Ext.put hx1' (b := H1.next) hx.next (by simp only [new_next]; omega) B
      have hTp := fun B => hT.ext (hput B) hT.two
      have h23 := fun B => RT_23 d (op := l[i].op) hii.n hii.m (hTp B)
      have hcmp : decide (((i : Nat) : Int) < ((l.length : Nat) : Int)) = true := decide_eq_true (by omega)
      have hbp : ∀ B, Bytes H.next ((H1.new [.int .i64 0, .int .i64 0, .int .i64 0] 29).put H1.next B) (T 3) (printT 0 (l.take i)) := fun B => Own.keep hb hx.wf fun b hbb => by
        have : b ≠ H1.next := by omega
        simp [this]
      simp -implicitDefEqProofs only [chkL_nil, chkL_same, aBin_add, aBin_sub, aBin_mul, aBin_lss, aBin_leq, aBin_gtr, aBin_geq, aBin_eql, aBin_neq, cvInt_int, asB_bool, gdv_bool, jn_inl, jn_inr, Option.bind_some, Option.map_some, Option.bind_none, Option.map_none, ptrTo_at, slTo_at, nilC_at, ptrAdd_at, aUn_not, aUn_neg, aExtract_at, idxSl_at, idxPtr_at, ldOne_ptr, ldAgg_ptr, new_m, new_next, put_m, put_next, kill_m, kill_next, nBox_agg, nBox_int, bft, btf, btt, bff, updL_nil', updL_cons', upd_same, upd_ne, T0_at, if_true, if_false, ite_true, ite_false, Bool.false_eq_true, Bool.true_eq_false, decide_true, decide_false, Bool.not_true, Bool.not_false, beq_self_eq_true, Nat.zero_add, Nat.add_zero, Nat.reduceAdd, Nat.reduceMul, Nat.reduceLT, Nat.reduceLeDiff, Nat.reduceEqDiff, Nat.reduceBEq, Nat.left_eq_add, Nat.add_eq_left, Nat.add_left_cancel_iff, reduceCtorEq, Int.reduceLT, Int.reduceLE, Int.reduceEq, Int.reduceGT, Int.reduceGE, Int.reduceToNat, Int.reduceNeg, List.getElem?_cons_zero, List.getElem?_cons_succ, List.getD_cons_zero, List.getD_cons_succ, List.getD_nil, List.length_cons, List.length_nil, List.drop_zero, List.drop_succ_cons, List.take_succ_cons, List.take_zero, List.set_cons_zero, List.set_cons_succ, List.cons_append, List.nil_append, and_self, and_true, true_and, not_true_eq_false, not_false_eq_true, Nat.le_refl, Nat.lt_irrefl, Nat.zero_lt_succ, Nat.mul_one, Nat.one_mul, Int.toNat_natCast, Int.toNat_zero, Int.toNat_one, Nat.zero_mul, ylen22, ylen36, ylen40, ylen51, ylen61, ylen73, ylen90, ylen112, ylen139, ylen9, yalloc24, yalloc29, yalloc64, yalloc75, yalloc108, yalloc114, yalloc120, yalloc127, yalloc133, yalloc141, ybs22, ybs22_2, ybs36, ybs61, ybs73, ybs40, ybs40_2, ybs51, ybs51_2, ybs112, ystore2, ystore3, ystore5, ystore4, ystore22, ystore36, ystore40, ystore51, ystore61, ystore73, ystore112, ystore29, ystore24, ystore64, ystore75, ystore108, ystore114, ystore120, ystore127, ystore133, ystore141, ybuild29_, ybuild29_0i, ybuild29_0i1i, ybuild29_0i2i, ybuild29_0i1i2i, ybuild24_, ybuild24_0s, ybuild24_1i, ybuild64_, ybuild64_0i, ybuild64_0i1i, ybuild75_, ybuild75_0i1i2i3i, ybuild108_, ybuild108_0i1i2s, ybuild118_0i2i, ybuild114_2s4i, ybuild100, ybuild120, ybuild127, ybuild141, ybuild141_0, ybuild148, ybuild91, yfld108_0, yfld133_2, t9, t10, t11, e1, e2, hcmp, h23, hx1]
      by_cases he : e = 0
      · simp -implicitDefEqProofs only [chkL_nil, chkL_same, aBin_add, aBin_sub, aBin_mul, aBin_lss, aBin_leq, aBin_gtr, aBin_geq, aBin_eql, aBin_neq, cvInt_int, asB_bool, gdv_bool, jn_inl, jn_inr, Option.bind_some, Option.map_some, Option.bind_none, Option.map_none, ptrTo_at, slTo_at, nilC_at, ptrAdd_at, aUn_not, aUn_neg, aExtract_at, idxSl_at, idxPtr_at, ldOne_ptr, ldAgg_ptr, new_m, new_next, put_m, put_next, kill_m, kill_next, nBox_agg, nBox_int, bft, btf, btt, bff, updL_nil', updL_cons', upd_same, upd_ne, T0_at, if_true, if_false, ite_true, ite_false, Bool.false_eq_true, Bool.true_eq_false, decide_true, decide_false, Bool.not_true, Bool.not_false, beq_self_eq_true, Nat.zero_add, Nat.add_zero, Nat.reduceAdd, Nat.reduceMul, Nat.reduceLT, Nat.reduceLeDiff, Nat.reduceEqDiff, Nat.reduceBEq, Nat.left_eq_add, Nat.add_eq_left, Nat.add_left_cancel_iff, reduceCtorEq, Int.reduceLT, Int.reduceLE, Int.reduceEq, Int.reduceGT, Int.reduceGE, Int.reduceToNat, Int.reduceNeg, List.getElem?_cons_zero, List.getElem?_cons_succ, List.getD_cons_zero, List.getD_cons_succ, List.getD_nil, List.length_cons, List.length_nil, List.drop_zero, List.drop_succ_cons, List.take_succ_cons, List.take_zero, List.set_cons_zero, List.set_cons_succ, List.cons_append, List.nil_append, and_self, and_true, true_and, not_true_eq_false, not_false_eq_true, Nat.le_refl, Nat.lt_irrefl, Nat.zero_lt_succ, Nat.mul_one, Nat.one_mul, Int.toNat_natCast, Int.toNat_zero, Int.toNat_one, Nat.zero_mul, ylen22, ylen36, ylen40, ylen51, ylen61, ylen73, ylen90, ylen112, ylen139, ylen9, yalloc24, yalloc29, yalloc64, yalloc75, yalloc108, yalloc114, yalloc120, yalloc127, yalloc133, yalloc141, ybs22, ybs22_2, ybs36, ybs61, ybs73, ybs40, ybs40_2, ybs51, ybs51_2, ybs112, ystore2, ystore3, ystore5, ystore4, ystore22, ystore36, ystore40, ystore51, ystore61, ystore73, ystore112, ystore29, ystore24, ystore64, ystore75, ystore108, ystore114, ystore120, ystore127, ystore133, ystore141, ybuild29_, ybuild29_0i, ybuild29_0i1i, ybuild29_0i2i, ybuild29_0i1i2i, ybuild24_, ybuild24_0s, ybuild24_1i, ybuild64_, ybuild64_0i, ybuild64_0i1i, ybuild75_, ybuild75_0i1i2i3i, ybuild108_, ybuild108_0i1i2s, ybuild118_0i2i, ybuild114_2s4i, ybuild100, ybuild120, ybuild127, ybuild141, ybuild141_0, ybuild148, ybuild91, yfld108_0, yfld133_2, decide_eq_true he]
        rw [if_pos he] at hx2
        refine (print_tail d hlen hi ⟨?_, ?_, ?_, ?_, hput _⟩ ?_ ?_).mono fun r h => .inl h
        · simp -implicitDefEqProofs only [chkL_nil, chkL_same, aBin_add, aBin_sub, aBin_mul, aBin_lss, aBin_leq, aBin_gtr, aBin_geq, aBin_eql, aBin_neq, cvInt_int, asB_bool, gdv_bool, jn_inl, jn_inr, Option.bind_some, Option.map_some, Option.bind_none, Option.map_none, ptrTo_at, slTo_at, nilC_at, ptrAdd_at, aUn_not, aUn_neg, aExtract_at, idxSl_at, idxPtr_at, ldOne_ptr, ldAgg_ptr, new_m, new_next, put_m, put_next, kill_m, kill_next, nBox_agg, nBox_int, bft, btf, btt, bff, updL_nil', updL_cons', upd_same, upd_ne, T0_at, if_true, if_false, ite_true, ite_false, Bool.false_eq_true, Bool.true_eq_false, decide_true, decide_false, Bool.not_true, Bool.not_false, beq_self_eq_true, Nat.zero_add, Nat.add_zero, Nat.reduceAdd, Nat.reduceMul, Nat.reduceLT, Nat.reduceLeDiff, Nat.reduceEqDiff, Nat.reduceBEq, Nat.left_eq_add, Nat.add_eq_left, Nat.add_left_cancel_iff, reduceCtorEq, Int.reduceLT, Int.reduceLE, Int.reduceEq, Int.reduceGT, Int.reduceGE, Int.reduceToNat, Int.reduceNeg, List.getElem?_cons_zero, List.getElem?_cons_succ, List.getD_cons_zero, List.getD_cons_succ, List.getD_nil, List.length_cons, List.length_nil, List.drop_zero, List.drop_succ_cons, List.take_succ_cons, List.take_zero, List.set_cons_zero, List.set_cons_succ, List.cons_append, List.nil_append, and_self, and_true, true_and, not_true_eq_false, not_false_eq_true, Nat.le_refl, Nat.lt_irrefl, Nat.zero_lt_succ, Nat.mul_one, Nat.one_mul, Int.toNat_natCast, Int.toNat_zero, Int.toNat_one, Nat.zero_mul, ylen22, ylen36, ylen40, ylen51, ylen61, ylen73, ylen90, ylen112, ylen139, ylen9, yalloc24, yalloc29, yalloc64, yalloc75, yalloc108, yalloc114, yalloc120, yalloc127, yalloc133, yalloc141, ybs22, ybs22_2, ybs36, ybs61, ybs73, ybs40, ybs40_2, ybs51, ybs51_2, ybs112, ystore2, ystore3, ystore5, ystore4, ystore22, ystore36, ystore40, ystore51, ystore61, ystore73, ystore112, ystore29, ystore24, ystore64, ystore75, ystore108, ystore114, ystore120, ystore127, ystore133, ystore141, ybuild29_, ybuild29_0i, ybuild29_0i1i, ybuild29_0i2i, ybuild29_0i1i2i, ybuild24_, ybuild24_0s, ybuild24_1i, ybuild64_, ybuild64_0i, ybuild64_0i1i, ybuild75_, ybuild75_0i1i2i3i, ybuild108_, ybuild108_0i1i2s, ybuild118_0i2i, ybuild114_2s4i, ybuild100, ybuild120, ybuild127, ybuild141, ybuild141_0, ybuild148, ybuild91, yfld108_0, yfld133_2, t9]
        · simp -implicitDefEqProofs only [chkL_nil, chkL_same, aBin_add, aBin_sub, aBin_mul, aBin_lss, aBin_leq, aBin_gtr, aBin_geq, aBin_eql, aBin_neq, cvInt_int, asB_bool, gdv_bool, jn_inl, jn_inr, Option.bind_some, Option.map_some, Option.bind_none, Option.map_none, ptrTo_at, slTo_at, nilC_at, ptrAdd_at, aUn_not, aUn_neg, aExtract_at, idxSl_at, idxPtr_at, ldOne_ptr, ldAgg_ptr, new_m, new_next, put_m, put_next, kill_m, kill_next, nBox_agg, nBox_int, bft, btf, btt, bff, updL_nil', updL_cons', upd_same, upd_ne, T0_at, if_true, if_false, ite_true, ite_false, Bool.false_eq_true, Bool.true_eq_false, decide_true, decide_false, Bool.not_true, Bool.not_false, beq_self_eq_true, Nat.zero_add, Nat.add_zero, Nat.reduceAdd, Nat.reduceMul, Nat.reduceLT, Nat.reduceLeDiff, Nat.reduceEqDiff, Nat.reduceBEq, Nat.left_eq_add, Nat.add_eq_left, Nat.add_left_cancel_iff, reduceCtorEq, Int.reduceLT, Int.reduceLE, Int.reduceEq, Int.reduceGT, Int.reduceGE, Int.reduceToNat, Int.reduceNeg, List.getElem?_cons_zero, List.getElem?_cons_succ, List.getD_cons_zero, List.getD_cons_succ, List.getD_nil, List.length_cons, List.length_nil, List.drop_zero, List.drop_succ_cons, List.take_succ_cons, List.take_zero, List.set_cons_zero, List.set_cons_succ, List.cons_append, List.nil_append, and_self, and_true, true_and, not_true_eq_false, not_false_eq_true, Nat.le_refl, Nat.lt_irrefl, Nat.zero_lt_succ, Nat.mul_one, Nat.one_mul, Int.toNat_natCast, Int.toNat_zero, Int.toNat_one, Nat.zero_mul, ylen22, ylen36, ylen40, ylen51, ylen61, ylen73, ylen90, ylen112, ylen139, ylen9, yalloc24, yalloc29, yalloc64, yalloc75, yalloc108, yalloc114, yalloc120, yalloc127, yalloc133, yalloc141, ybs22, ybs22_2, ybs36, ybs61, ybs73, ybs40, ybs40_2, ybs51, ybs51_2, ybs112, ystore2, ystore3, ystore5, ystore4, ystore22, ystore36, ystore40, ystore51, ystore61, ystore73, ystore112, ystore29, ystore24, ystore64, ystore75, ystore108, ystore114, ystore120, ystore127, ystore133, ystore141, ybuild29_, ybuild29_0i, ybuild29_0i1i, ybuild29_0i2i, ybuild29_0i1i2i, ybuild24_, ybuild24_0s, ybuild24_1i, ybuild64_, ybuild64_0i, ybuild64_0i1i, ybuild75_, ybuild75_0i1i2i3i, ybuild108_, ybuild108_0i1i2s, ybuild118_0i2i, ybuild114_2s4i, ybuild100, ybuild120, ybuild127, ybuild141, ybuild141_0, ybuild148, ybuild91, yfld108_0, yfld133_2, t10]
        · simp -implicitDefEqProofs only [chkL_nil, chkL_same, aBin_add, aBin_sub, aBin_mul, aBin_lss, aBin_leq, aBin_gtr, aBin_geq, aBin_eql, aBin_neq, cvInt_int, asB_bool, gdv_bool, jn_inl, jn_inr, Option.bind_some, Option.map_some, Option.bind_none, Option.map_none, ptrTo_at, slTo_at, nilC_at, ptrAdd_at, aUn_not, aUn_neg, aExtract_at, idxSl_at, idxPtr_at, ldOne_ptr, ldAgg_ptr, new_m, new_next, put_m, put_next, kill_m, kill_next, nBox_agg, nBox_int, bft, btf, btt, bff, updL_nil', updL_cons', upd_same, upd_ne, T0_at, if_true, if_false, ite_true, ite_false, Bool.false_eq_true, Bool.true_eq_false, decide_true, decide_false, Bool.not_true, Bool.not_false, beq_self_eq_true, Nat.zero_add, Nat.add_zero, Nat.reduceAdd, Nat.reduceMul, Nat.reduceLT, Nat.reduceLeDiff, Nat.reduceEqDiff, Nat.reduceBEq, Nat.left_eq_add, Nat.add_eq_left, Nat.add_left_cancel_iff, reduceCtorEq, Int.reduceLT, Int.reduceLE, Int.reduceEq, Int.reduceGT, Int.reduceGE, Int.reduceToNat, Int.reduceNeg, List.getElem?_cons_zero, List.getElem?_cons_succ, List.getD_cons_zero, List.getD_cons_succ, List.getD_nil, List.length_cons, List.length_nil, List.drop_zero, List.drop_succ_cons, List.take_succ_cons, List.take_zero, List.set_cons_zero, List.set_cons_succ, List.cons_append, List.nil_append, and_self, and_true, true_and, not_true_eq_false, not_false_eq_true, Nat.le_refl, Nat.lt_irrefl, Nat.zero_lt_succ, Nat.mul_one, Nat.one_mul, Int.toNat_natCast, Int.toNat_zero, Int.toNat_one, Nat.zero_mul, ylen22, ylen36, ylen40, ylen51, ylen61, ylen73, ylen90, ylen112, ylen139, ylen9, yalloc24, yalloc29, yalloc64, yalloc75, yalloc108, yalloc114, yalloc120, yalloc127, yalloc133, yalloc141, ybs22, ybs22_2, ybs36, ybs61, ybs73, ybs40, ybs40_2, ybs51, ybs51_2, ybs112, ystore2, ystore3, ystore5, ystore4, ystore22, ystore36, ystore40, ystore51, ystore61, ystore73, ystore112, ystore29, ystore24, ystore64, ystore75, ystore108, ystore114, ystore120, ystore127, ystore133, ystore141, ybuild29_, ybuild29_0i, ybuild29_0i1i, ybuild29_0i2i, ybuild29_0i1i2i, ybuild24_, ybuild24_0s, ybuild24_1i, ybuild64_, ybuild64_0i, ybuild64_0i1i, ybuild75_, ybuild75_0i1i2i3i, ybuild108_, ybuild108_0i1i2s, ybuild118_0i2i, ybuild114_2s4i, ybuild100, ybuild120, ybuild127, ybuild141, ybuild141_0, ybuild148, ybuild91, yfld108_0, yfld133_2, t11]
        · simp -implicitDefEqProofs only [chkL_nil, chkL_same, aBin_add, aBin_sub, aBin_mul, aBin_lss, aBin_leq, aBin_gtr, aBin_geq, aBin_eql, aBin_neq, cvInt_int, asB_bool, gdv_bool, jn_inl, jn_inr, Option.bind_some, Option.map_some, Option.bind_none, Option.map_none, ptrTo_at, slTo_at, nilC_at, ptrAdd_at, aUn_not, aUn_neg, aExtract_at, idxSl_at, idxPtr_at, ldOne_ptr, ldAgg_ptr, new_m, new_next, put_m, put_next, kill_m, kill_next, nBox_agg, nBox_int, bft, btf, btt, bff, updL_nil', updL_cons', upd_same, upd_ne, T0_at, if_true, if_false, ite_true, ite_false, Bool.false_eq_true, Bool.true_eq_false, decide_true, decide_false, Bool.not_true, Bool.not_false, beq_self_eq_true, Nat.zero_add, Nat.add_zero, Nat.reduceAdd, Nat.reduceMul, Nat.reduceLT, Nat.reduceLeDiff, Nat.reduceEqDiff, Nat.reduceBEq, Nat.left_eq_add, Nat.add_eq_left, Nat.add_left_cancel_iff, reduceCtorEq, Int.reduceLT, Int.reduceLE, Int.reduceEq, Int.reduceGT, Int.reduceGE, Int.reduceToNat, Int.reduceNeg, List.getElem?_cons_zero, List.getElem?_cons_succ, List.getD_cons_zero, List.getD_cons_succ, List.getD_nil, List.length_cons, List.length_nil, List.drop_zero, List.drop_succ_cons, List.take_succ_cons, List.take_zero, List.set_cons_zero, List.set_cons_succ, List.cons_append, List.nil_append, and_self, and_true, true_and, not_true_eq_false, not_false_eq_true, Nat.le_refl, Nat.lt_irrefl, Nat.zero_lt_succ, Nat.mul_one, Nat.one_mul, Int.toNat_natCast, Int.toNat_zero, Int.toNat_one, Nat.zero_mul, ylen22, ylen36, ylen40, ylen51, ylen61, ylen73, ylen90, ylen112, ylen139, ylen9, yalloc24, yalloc29, yalloc64, yalloc75, yalloc108, yalloc114, yalloc120, yalloc127, yalloc133, yalloc141, ybs22, ybs22_2, ybs36, ybs61, ybs73, ybs40, ybs40_2, ybs51, ybs51_2, ybs112, ystore2, ystore3, ystore5, ystore4, ystore22, ystore36, ystore40, ystore51, ystore61, ystore73, ystore112, ystore29, ystore24, ystore64, ystore75, ystore108, ystore114, ystore120, ystore127, ystore133, ystore141, ybuild29_, ybuild29_0i, ybuild29_0i1i, ybuild29_0i2i, ybuild29_0i1i2i, ybuild24_, ybuild24_0s, ybuild24_1i, ybuild64_, ybuild64_0i, ybuild64_0i1i, ybuild75_, ybuild75_0i1i2i3i, ybuild108_, ybuild108_0i1i2s, ybuild118_0i2i, ybuild114_2s4i, ybuild100, ybuild120, ybuild127, ybuild141, ybuild141_0, ybuild148, ybuild91, yfld108_0, yfld133_2]
          exact hbp _
        · simp -implicitDefEqProofs only [chkL_nil, chkL_same, aBin_add, aBin_sub, aBin_mul, aBin_lss, aBin_leq, aBin_gtr, aBin_geq, aBin_eql, aBin_neq, cvInt_int, asB_bool, gdv_bool, jn_inl, jn_inr, Option.bind_some, Option.map_some, Option.bind_none, Option.map_none, ptrTo_at, slTo_at, nilC_at, ptrAdd_at, aUn_not, aUn_neg, aExtract_at, idxSl_at, idxPtr_at, ldOne_ptr, ldAgg_ptr, new_m, new_next, put_m, put_next, kill_m, kill_next, nBox_agg, nBox_int, bft, btf, btt, bff, updL_nil', updL_cons', upd_same, upd_ne, T0_at, if_true, if_false, ite_true, ite_false, Bool.false_eq_true, Bool.true_eq_false, decide_true, decide_false, Bool.not_true, Bool.not_false, beq_self_eq_true, Nat.zero_add, Nat.add_zero, Nat.reduceAdd, Nat.reduceMul, Nat.reduceLT, Nat.reduceLeDiff, Nat.reduceEqDiff, Nat.reduceBEq, Nat.left_eq_add, Nat.add_eq_left, Nat.add_left_cancel_iff, reduceCtorEq, Int.reduceLT, Int.reduceLE, Int.reduceEq, Int.reduceGT, Int.reduceGE, Int.reduceToNat, Int.reduceNeg, List.getElem?_cons_zero, List.getElem?_cons_succ, List.getD_cons_zero, List.getD_cons_succ, List.getD_nil, List.length_cons, List.length_nil, List.drop_zero, List.drop_succ_cons, List.take_succ_cons, List.take_zero, List.set_cons_zero, List.set_cons_succ, List.cons_append, List.nil_append, and_self, and_true, true_and, not_true_eq_false, not_false_eq_true, Nat.le_refl, Nat.lt_irrefl, Nat.zero_lt_succ, Nat.mul_one, Nat.one_mul, Int.toNat_natCast, Int.toNat_zero, Int.toNat_one, Nat.zero_mul, ylen22, ylen36, ylen40, ylen51, ylen61, ylen73, ylen90, ylen112, ylen139, ylen9, yalloc24, yalloc29, yalloc64, yalloc75, yalloc108, yalloc114, yalloc120, yalloc127, yalloc133, yalloc141, ybs22, ybs22_2, ybs36, ybs61, ybs73, ybs40, ybs40_2, ybs51, ybs51_2, ybs112, ystore2, ystore3, ystore5, ystore4, ystore22, ystore36, ystore40, ystore51, ystore61, ystore73, ystore112, ystore29, ystore24, ystore64, ystore75, ystore108, ystore114, ystore120, ystore127, ystore133, ystore141, ybuild29_, ybuild29_0i, ybuild29_0i1i, ybuild29_0i2i, ybuild29_0i1i2i, ybuild24_, ybuild24_0s, ybuild24_1i, ybuild64_, ybuild64_0i, ybuild64_0i1i, ybuild75_, ybuild75_0i1i2i3i, ybuild108_, ybuild108_0i1i2s, ybuild118_0i2i, ybuild114_2s4i, ybuild100, ybuild120, ybuild127, ybuild141, ybuild141_0, ybuild148, ybuild91, yfld108_0, yfld133_2]
        · simp -implicitDefEqProofs only [chkL_nil, chkL_same, aBin_add, aBin_sub, aBin_mul, aBin_lss, aBin_leq, aBin_gtr, aBin_geq, aBin_eql, aBin_neq, cvInt_int, asB_bool, gdv_bool, jn_inl, jn_inr, Option.bind_some, Option.map_some, Option.bind_none, Option.map_none, ptrTo_at, slTo_at, nilC_at, ptrAdd_at, aUn_not, aUn_neg, aExtract_at, idxSl_at, idxPtr_at, ldOne_ptr, ldAgg_ptr, new_m, new_next, put_m, put_next, kill_m, kill_next, nBox_agg, nBox_int, bft, btf, btt, bff, updL_nil', updL_cons', upd_same, upd_ne, T0_at, if_true, if_false, ite_true, ite_false, Bool.false_eq_true, Bool.true_eq_false, decide_true, decide_false, Bool.not_true, Bool.not_false, beq_self_eq_true, Nat.zero_add, Nat.add_zero, Nat.reduceAdd, Nat.reduceMul, Nat.reduceLT, Nat.reduceLeDiff, Nat.reduceEqDiff, Nat.reduceBEq, Nat.left_eq_add, Nat.add_eq_left, Nat.add_left_cancel_iff, reduceCtorEq, Int.reduceLT, Int.reduceLE, Int.reduceEq, Int.reduceGT, Int.reduceGE, Int.reduceToNat, Int.reduceNeg, List.getElem?_cons_zero, List.getElem?_cons_succ, List.getD_cons_zero, List.getD_cons_succ, List.getD_nil, List.length_cons, List.length_nil, List.drop_zero, List.drop_succ_cons, List.take_succ_cons, List.take_zero, List.set_cons_zero, List.set_cons_succ, List.cons_append, List.nil_append, and_self, and_true, true_and, not_true_eq_false, not_false_eq_true, Nat.le_refl, Nat.lt_irrefl, Nat.zero_lt_succ, Nat.mul_one, Nat.one_mul, Int.toNat_natCast, Int.toNat_zero, Int.toNat_one, Nat.zero_mul, ylen22, ylen36, ylen40, ylen51, ylen61, ylen73, ylen90, ylen112, ylen139, ylen9, yalloc24, yalloc29, yalloc64, yalloc75, yalloc108, yalloc114, yalloc120, yalloc127, yalloc133, yalloc141, ybs22, ybs22_2, ybs36, ybs61, ybs73, ybs40, ybs40_2, ybs51, ybs51_2, ybs112, ystore2, ystore3, ystore5, ystore4, ystore22, ystore36, ystore40, ystore51, ystore61, ystore73, ystore112, ystore29, ystore24, ystore64, ystore75, ystore108, ystore114, ystore120, ystore127, ystore133, ystore141, ybuild29_, ybuild29_0i, ybuild29_0i1i, ybuild29_0i2i, ybuild29_0i1i2i, ybuild24_, ybuild24_0s, ybuild24_1i, ybuild64_, ybuild64_0i, ybuild64_0i1i, ybuild75_, ybuild75_0i1i2i3i, ybuild108_, ybuild108_0i1i2s, ybuild118_0i2i, ybuild114_2s4i, ybuild100, ybuild120, ybuild127, ybuild141, ybuild141_0, ybuild148, ybuild91, yfld108_0, yfld133_2, hx2]
      · simp -implicitDefEqProofs only [chkL_nil, chkL_same, aBin_add, aBin_sub, aBin_mul, aBin_lss, aBin_leq, aBin_gtr, aBin_geq, aBin_eql, aBin_neq, cvInt_int, asB_bool, gdv_bool, jn_inl, jn_inr, Option.bind_some, Option.map_some, Option.bind_none, Option.map_none, ptrTo_at, slTo_at, nilC_at, ptrAdd_at, aUn_not, aUn_neg, aExtract_at, idxSl_at, idxPtr_at, ldOne_ptr, ldAgg_ptr, new_m, new_next, put_m, put_next, kill_m, kill_next, nBox_agg, nBox_int, bft, btf, btt, bff, updL_nil', updL_cons', upd_same, upd_ne, T0_at, if_true, if_false, ite_true, ite_false, Bool.false_eq_true, Bool.true_eq_false, decide_true, decide_false, Bool.not_true, Bool.not_false, beq_self_eq_true, Nat.zero_add, Nat.add_zero, Nat.reduceAdd, Nat.reduceMul, Nat.reduceLT, Nat.reduceLeDiff, Nat.reduceEqDiff, Nat.reduceBEq, Nat.left_eq_add, Nat.add_eq_left, Nat.add_left_cancel_iff, reduceCtorEq, Int.reduceLT, Int.reduceLE, Int.reduceEq, Int.reduceGT, Int.reduceGE, Int.reduceToNat, Int.reduceNeg, List.getElem?_cons_zero, List.getElem?_cons_succ, List.getD_cons_zero, List.getD_cons_succ, List.getD_nil, List.length_cons, List.length_nil, List.drop_zero, List.drop_succ_cons, List.take_succ_cons, List.take_zero, List.set_cons_zero, List.set_cons_succ, List.cons_append, List.nil_append, and_self, and_true, true_and, not_true_eq_false, not_false_eq_true, Nat.le_refl, Nat.lt_irrefl, Nat.zero_lt_succ, Nat.mul_one, Nat.one_mul, Int.toNat_natCast, Int.toNat_zero, Int.toNat_one, Nat.zero_mul, ylen22, ylen36, ylen40, ylen51, ylen61, ylen73, ylen90, ylen112, ylen139, ylen9, yalloc24, yalloc29, yalloc64, yalloc75, yalloc108, yalloc114, yalloc120, yalloc127, yalloc133, yalloc141, ybs22, ybs22_2, ybs36, ybs61, ybs73, ybs40, ybs40_2, ybs51, ybs51_2, ybs112, ystore2, ystore3, ystore5, ystore4, ystore22, ystore36, ystore40, ystore51, ystore61, ystore73, ystore112, ystore29, ystore24, ystore64, ystore75, ystore108, ystore114, ystore120, ystore127, ystore133, ystore141, ybuild29_, ybuild29_0i, ybuild29_0i1i, ybuild29_0i2i, ybuild29_0i1i2i, ybuild24_, ybuild24_0s, ybuild24_1i, ybuild64_, ybuild64_0i, ybuild64_0i1i, ybuild75_, ybuild75_0i1i2i3i, ybuild108_, ybuild108_0i1i2s, ybuild118_0i2i, ybuild114_2s4i, ybuild100, ybuild120, ybuild127, ybuild141, ybuild141_0, ybuild148, ybuild91, yfld108_0, yfld133_2, decide_eq_false he]
        rw [if_neg he] at hx2
        refine (print_tail d hlen hi ⟨?_, ?_, ?_, ?_, hput _⟩ ?_ ?_).mono fun r h => .inl h
        · simp -implicitDefEqProofs only [chkL_nil, chkL_same, aBin_add, aBin_sub, aBin_mul, aBin_lss, aBin_leq, aBin_gtr, aBin_geq, aBin_eql, aBin_neq, cvInt_int, asB_bool, gdv_bool, jn_inl, jn_inr, Option.bind_some, Option.map_some, Option.bind_none, Option.map_none, ptrTo_at, slTo_at, nilC_at, ptrAdd_at, aUn_not, aUn_neg, aExtract_at, idxSl_at, idxPtr_at, ldOne_ptr, ldAgg_ptr, new_m, new_next, put_m, put_next, kill_m, kill_next, nBox_agg, nBox_int, bft, btf, btt, bff, updL_nil', updL_cons', upd_same, upd_ne, T0_at, if_true, if_false, ite_true, ite_false, Bool.false_eq_true, Bool.true_eq_false, decide_true, decide_false, Bool.not_true, Bool.not_false, beq_self_eq_true, Nat.zero_add, Nat.add_zero, Nat.reduceAdd, Nat.reduceMul, Nat.reduceLT, Nat.reduceLeDiff, Nat.reduceEqDiff, Nat.reduceBEq, Nat.left_eq_add, Nat.add_eq_left, Nat.add_left_cancel_iff, reduceCtorEq, Int.reduceLT, Int.reduceLE, Int.reduceEq, Int.reduceGT, Int.reduceGE, Int.reduceToNat, Int.reduceNeg, List.getElem?_cons_zero, List.getElem?_cons_succ, List.getD_cons_zero, List.getD_cons_succ, List.getD_nil, List.length_cons, List.length_nil, List.drop_zero, List.drop_succ_cons, List.take_succ_cons, List.take_zero, List.set_cons_zero, List.set_cons_succ, List.cons_append, List.nil_append, and_self, and_true, true_and, not_true_eq_false, not_false_eq_true, Nat.le_refl, Nat.lt_irrefl, Nat.zero_lt_succ, Nat.mul_one, Nat.one_mul, Int.toNat_natCast, Int.toNat_zero, Int.toNat_one, Nat.zero_mul, ylen22, ylen36, ylen40, ylen51, ylen61, ylen73, ylen90, ylen112, ylen139, ylen9, yalloc24, yalloc29, yalloc64, yalloc75, yalloc108, yalloc114, yalloc120, yalloc127, yalloc133, yalloc141, ybs22, ybs22_2, ybs36, ybs61, ybs73, ybs40, ybs40_2, ybs51, ybs51_2, ybs112, ystore2, ystore3, ystore5, ystore4, ystore22, ystore36, ystore40, ystore51, ystore61, ystore73, ystore112, ystore29, ystore24, ystore64, ystore75, ystore108, ystore114, ystore120, ystore127, ystore133, ystore141, ybuild29_, ybuild29_0i, ybuild29_0i1i, ybuild29_0i2i, ybuild29_0i1i2i, ybuild24_, ybuild24_0s, ybuild24_1i, ybuild64_, ybuild64_0i, ybuild64_0i1i, ybuild75_, ybuild75_0i1i2i3i, ybuild108_, ybuild108_0i1i2s, ybuild118_0i2i, ybuild114_2s4i, ybuild100, ybuild120, ybuild127, ybuild141, ybuild141_0, ybuild148, ybuild91, yfld108_0, yfld133_2, t9]
        · simp -implicitDefEqProofs only [chkL_nil, chkL_same, aBin_add, aBin_sub, aBin_mul, aBin_lss, aBin_leq, aBin_gtr, aBin_geq, aBin_eql, aBin_neq, cvInt_int, asB_bool, gdv_bool, jn_inl, jn_inr, Option.bind_some, Option.map_some, Option.bind_none, Option.map_none, ptrTo_at, slTo_at, nilC_at, ptrAdd_at, aUn_not, aUn_neg, aExtract_at, idxSl_at, idxPtr_at, ldOne_ptr, ldAgg_ptr, new_m, new_next, put_m, put_next, kill_m, kill_next, nBox_agg, nBox_int, bft, btf, btt, bff, updL_nil', updL_cons', upd_same, upd_ne, T0_at, if_true, if_false, ite_true, ite_false, Bool.false_eq_true, Bool.true_eq_false, decide_true, decide_false, Bool.not_true, Bool.not_false, beq_self_eq_true, Nat.zero_add, Nat.add_zero, Nat.reduceAdd, Nat.reduceMul, Nat.reduceLT, Nat.reduceLeDiff, Nat.reduceEqDiff, Nat.reduceBEq, Nat.left_eq_add, Nat.add_eq_left, Nat.add_left_cancel_iff, reduceCtorEq, Int.reduceLT, Int.reduceLE, Int.reduceEq, Int.reduceGT, Int.reduceGE, Int.reduceToNat, Int.reduceNeg, List.getElem?_cons_zero, List.getElem?_cons_succ, List.getD_cons_zero, List.getD_cons_succ, List.getD_nil, List.length_cons, List.length_nil, List.drop_zero, List.drop_succ_cons, List.take_succ_cons, List.take_zero, List.set_cons_zero, List.set_cons_succ, List.cons_append, List.nil_append, and_self, and_true, true_and, not_true_eq_false, not_false_eq_true, Nat.le_refl, Nat.lt_irrefl, Nat.zero_lt_succ, Nat.mul_one, Nat.one_mul, Int.toNat_natCast, Int.toNat_zero, Int.toNat_one, Nat.zero_mul, ylen22, ylen36, ylen40, ylen51, ylen61, ylen73, ylen90, ylen112, ylen139, ylen9, yalloc24, yalloc29, yalloc64, yalloc75, yalloc108, yalloc114, yalloc120, yalloc127, yalloc133, yalloc141, ybs22, ybs22_2, ybs36, ybs61, ybs73, ybs40, ybs40_2, ybs51, ybs51_2, ybs112, ystore2, ystore3, ystore5, ystore4, ystore22, ystore36, ystore40, ystore51, ystore61, ystore73, ystore112, ystore29, ystore24, ystore64, ystore75, ystore108, ystore114, ystore120, ystore127, ystore133, ystore141, ybuild29_, ybuild29_0i, ybuild29_0i1i, ybuild29_0i2i, ybuild29_0i1i2i, ybuild24_, ybuild24_0s, ybuild24_1i, ybuild64_, ybuild64_0i, ybuild64_0i1i, ybuild75_, ybuild75_0i1i2i3i, ybuild108_, ybuild108_0i1i2s, ybuild118_0i2i, ybuild114_2s4i, ybuild100, ybuild120, ybuild127, ybuild141, ybuild141_0, ybuild148, ybuild91, yfld108_0, yfld133_2, t10]
        · simp -implicitDefEqProofs only [chkL_nil, chkL_same, aBin_add, aBin_sub, aBin_mul, aBin_lss, aBin_leq, aBin_gtr, aBin_geq, aBin_eql, aBin_neq, cvInt_int, asB_bool, gdv_bool, jn_inl, jn_inr, Option.bind_some, Option.map_some, Option.bind_none, Option.map_none, ptrTo_at, slTo_at, nilC_at, ptrAdd_at, aUn_not, aUn_neg, aExtract_at, idxSl_at, idxPtr_at, ldOne_ptr, ldAgg_ptr, new_m, new_next, put_m, put_next, kill_m, kill_next, nBox_agg, nBox_int, bft, btf, btt, bff, updL_nil', updL_cons', upd_same, upd_ne, T0_at, if_true, if_false, ite_true, ite_false, Bool.false_eq_true, Bool.true_eq_false, decide_true, decide_false, Bool.not_true, Bool.not_false, beq_self_eq_true, Nat.zero_add, Nat.add_zero, Nat.reduceAdd, Nat.reduceMul, Nat.reduceLT, Nat.reduceLeDiff, Nat.reduceEqDiff, Nat.reduceBEq, Nat.left_eq_add, Nat.add_eq_left, Nat.add_left_cancel_iff, reduceCtorEq, Int.reduceLT, Int.reduceLE, Int.reduceEq, Int.reduceGT, Int.reduceGE, Int.reduceToNat, Int.reduceNeg, List.getElem?_cons_zero, List.getElem?_cons_succ, List.getD_cons_zero, List.getD_cons_succ, List.getD_nil, List.length_cons, List.length_nil, List.drop_zero, List.drop_succ_cons, List.take_succ_cons, List.take_zero, List.set_cons_zero, List.set_cons_succ, List.cons_append, List.nil_append, and_self, and_true, true_and, not_true_eq_false, not_false_eq_true, Nat.le_refl, Nat.lt_irrefl, Nat.zero_lt_succ, Nat.mul_one, Nat.one_mul, Int.toNat_natCast, Int.toNat_zero, Int.toNat_one, Nat.zero_mul, ylen22, ylen36, ylen40, ylen51, ylen61, ylen73, ylen90, ylen112, ylen139, ylen9, yalloc24, yalloc29, yalloc64, yalloc75, yalloc108, yalloc114, yalloc120, yalloc127, yalloc133, yalloc141, ybs22, ybs22_2, ybs36, ybs61, ybs73, ybs40, ybs40_2, ybs51, ybs51_2, ybs112, ystore2, ystore3, ystore5, ystore4, ystore22, ystore36, ystore40, ystore51, ystore61, ystore73, ystore112, ystore29, ystore24, ystore64, ystore75, ystore108, ystore114, ystore120, ystore127, ystore133, ystore141, ybuild29_, ybuild29_0i, ybuild29_0i1i, ybuild29_0i2i, ybuild29_0i1i2i, ybuild24_, ybuild24_0s, ybuild24_1i, ybuild64_, ybuild64_0i, ybuild64_0i1i, ybuild75_, ybuild75_0i1i2i3i, ybuild108_, ybuild108_0i1i2s, ybuild118_0i2i, ybuild114_2s4i, ybuild100, ybuild120, ybuild127, ybuild141, ybuild141_0, ybuild148, ybuild91, yfld108_0, yfld133_2, t11]
        · simp -implicitDefEqProofs only [chkL_nil, chkL_same, aBin_add, aBin_sub, aBin_mul, aBin_lss, aBin_leq, aBin_gtr, aBin_geq, aBin_eql, aBin_neq, cvInt_int, asB_bool, gdv_bool, jn_inl, jn_inr, Option.bind_some, Option.map_some, Option.bind_none, Option.map_none, ptrTo_at, slTo_at, nilC_at, ptrAdd_at, aUn_not, aUn_neg, aExtract_at, idxSl_at, idxPtr_at, ldOne_ptr, ldAgg_ptr, new_m, new_next, put_m, put_next, kill_m, kill_next, nBox_agg, nBox_int, bft, btf, btt, bff, updL_nil', updL_cons', upd_same, upd_ne, T0_at, if_true, if_false, ite_true, ite_false, Bool.false_eq_true, Bool.true_eq_false, decide_true, decide_false, Bool.not_true, Bool.not_false, beq_self_eq_true, Nat.zero_add, Nat.add_zero, Nat.reduceAdd, Nat.reduceMul, Nat.reduceLT, Nat.reduceLeDiff, Nat.reduceEqDiff, Nat.reduceBEq, Nat.left_eq_add, Nat.add_eq_left, Nat.add_left_cancel_iff, reduceCtorEq, Int.reduceLT, Int.reduceLE, Int.reduceEq, Int.reduceGT, Int.reduceGE, Int.reduceToNat, Int.reduceNeg, List.getElem?_cons_zero, List.getElem?_cons_succ, List.getD_cons_zero, List.getD_cons_succ, List.getD_nil, List.length_cons, List.length_nil, List.drop_zero, List.drop_succ_cons, List.take_succ_cons, List.take_zero, List.set_cons_zero, List.set_cons_succ, List.cons_append, List.nil_append, and_self, and_true, true_and, not_true_eq_false, not_false_eq_true, Nat.le_refl, Nat.lt_irrefl, Nat.zero_lt_succ, Nat.mul_one, Nat.one_mul, Int.toNat_natCast, Int.toNat_zero, Int.toNat_one, Nat.zero_mul, ylen22, ylen36, ylen40, ylen51, ylen61, ylen73, ylen90, ylen112, ylen139, ylen9, yalloc24, yalloc29, yalloc64, yalloc75, yalloc108, yalloc114, yalloc120, yalloc127, yalloc133, yalloc141, ybs22, ybs22_2, ybs36, ybs61, ybs73, ybs40, ybs40_2, ybs51, ybs51_2, ybs112, ystore2, ystore3, ystore5, ystore4, ystore22, ystore36, ystore40, ystore51, ystore61, ystore73, ystore112, ystore29, ystore24, ystore64, ystore75, ystore108, ystore114, ystore120, ystore127, ystore133, ystore141, ybuild29_, ybuild29_0i, ybuild29_0i1i, ybuild29_0i2i, ybuild29_0i1i2i, ybuild24_, ybuild24_0s, ybuild24_1i, ybuild64_, ybuild64_0i, ybuild64_0i1i, ybuild75_, ybuild75_0i1i2i3i, ybuild108_, ybuild108_0i1i2s, ybuild118_0i2i, ybuild114_2s4i, ybuild100, ybuild120, ybuild127, ybuild141, ybuild141_0, ybuild148, ybuild91, yfld108_0, yfld133_2]
          exact hbp _
        · simp -implicitDefEqProofs only [chkL_nil, chkL_same, aBin_add, aBin_sub, aBin_mul, aBin_lss, aBin_leq, aBin_gtr, aBin_geq, aBin_eql, aBin_neq, cvInt_int, asB_bool, gdv_bool, jn_inl, jn_inr, Option.bind_some, Option.map_some, Option.bind_none, Option.map_none, ptrTo_at, slTo_at, nilC_at, ptrAdd_at, aUn_not, aUn_neg, aExtract_at, idxSl_at, idxPtr_at, ldOne_ptr, ldAgg_ptr, new_m, new_next, put_m, put_next, kill_m, kill_next, nBox_agg, nBox_int, bft, btf, btt, bff, updL_nil', updL_cons', upd_same, upd_ne, T0_at, if_true, if_false, ite_true, ite_false, Bool.false_eq_true, Bool.true_eq_false, decide_true, decide_false, Bool.not_true, Bool.not_false, beq_self_eq_true, Nat.zero_add, Nat.add_zero, Nat.reduceAdd, Nat.reduceMul, Nat.reduceLT, Nat.reduceLeDiff, Nat.reduceEqDiff, Nat.reduceBEq, Nat.left_eq_add, Nat.add_eq_left, Nat.add_left_cancel_iff, reduceCtorEq, Int.reduceLT, Int.reduceLE, Int.reduceEq, Int.reduceGT, Int.reduceGE, Int.reduceToNat, Int.reduceNeg, List.getElem?_cons_zero, List.getElem?_cons_succ, List.getD_cons_zero, List.getD_cons_succ, List.getD_nil, List.length_cons, List.length_nil, List.drop_zero, List.drop_succ_cons, List.take_succ_cons, List.take_zero, List.set_cons_zero, List.set_cons_succ, List.cons_append, List.nil_append, and_self, and_true, true_and, not_true_eq_false, not_false_eq_true, Nat.le_refl, Nat.lt_irrefl, Nat.zero_lt_succ, Nat.mul_one, Nat.one_mul, Int.toNat_natCast, Int.toNat_zero, Int.toNat_one, Nat.zero_mul, ylen22, ylen36, ylen40, ylen51, ylen61, ylen73, ylen90, ylen112, ylen139, ylen9, yalloc24, yalloc29, yalloc64, yalloc75, yalloc108, yalloc114, yalloc120, yalloc127, yalloc133, yalloc141, ybs22, ybs22_2, ybs36, ybs61, ybs73, ybs40, ybs40_2, ybs51, ybs51_2, ybs112, ystore2, ystore3, ystore5, ystore4, ystore22, ystore36, ystore40, ystore51, ystore61, ystore73, ystore112, ystore29, ystore24, ystore64, ystore75, ystore108, ystore114, ystore120, ystore127, ystore133, ystore141, ybuild29_, ybuild29_0i, ybuild29_0i1i, ybuild29_0i2i, ybuild29_0i1i2i, ybuild24_, ybuild24_0s, ybuild24_1i, ybuild64_, ybuild64_0i, ybuild64_0i1i, ybuild75_, ybuild75_0i1i2i3i, ybuild108_, ybuild108_0i1i2s, ybuild118_0i2i, ybuild114_2s4i, ybuild100, ybuild120, ybuild127, ybuild141, ybuild141_0, ybuild148, ybuild91, yfld108_0, yfld133_2]
        · simp -implicitDefEqProofs only [chkL_nil, chkL_same, aBin_add, aBin_sub, aBin_mul, aBin_lss, aBin_leq, aBin_gtr, aBin_geq, aBin_eql, aBin_neq, cvInt_int, asB_bool, gdv_bool, jn_inl, jn_inr, Option.bind_some, Option.map_some, Option.bind_none, Option.map_none, ptrTo_at, slTo_at, nilC_at, ptrAdd_at, aUn_not, aUn_neg, aExtract_at, idxSl_at, idxPtr_at, ldOne_ptr, ldAgg_ptr, new_m, new_next, put_m, put_next, kill_m, kill_next, nBox_agg, nBox_int, bft, btf, btt, bff, updL_nil', updL_cons', upd_same, upd_ne, T0_at, if_true, if_false, ite_true, ite_false, Bool.false_eq_true, Bool.true_eq_false, decide_true, decide_false, Bool.not_true, Bool.not_false, beq_self_eq_true, Nat.zero_add, Nat.add_zero, Nat.reduceAdd, Nat.reduceMul, Nat.reduceLT, Nat.reduceLeDiff, Nat.reduceEqDiff, Nat.reduceBEq, Nat.left_eq_add, Nat.add_eq_left, Nat.add_left_cancel_iff, reduceCtorEq, Int.reduceLT, Int.reduceLE, Int.reduceEq, Int.reduceGT, Int.reduceGE, Int.reduceToNat, Int.reduceNeg, List.getElem?_cons_zero, List.getElem?_cons_succ, List.getD_cons_zero, List.getD_cons_succ, List.getD_nil, List.length_cons, List.length_nil, List.drop_zero, List.drop_succ_cons, List.take_succ_cons, List.take_zero, List.set_cons_zero, List.set_cons_succ, List.cons_append, List.nil_append, and_self, and_true, true_and, not_true_eq_false, not_false_eq_true, Nat.le_refl, Nat.lt_irrefl, Nat.zero_lt_succ, Nat.mul_one, Nat.one_mul, Int.toNat_natCast, Int.toNat_zero, Int.toNat_one, Nat.zero_mul, ylen22, ylen36, ylen40, ylen51, ylen61, ylen73, ylen90, ylen112, ylen139, ylen9, yalloc24, yalloc29, yalloc64, yalloc75, yalloc108, yalloc114, yalloc120, yalloc127, yalloc133, yalloc141, ybs22, ybs22_2, ybs36, ybs61, ybs73, ybs40, ybs40_2, ybs51, ybs51_2, ybs112, ystore2, ystore3, ystore5, ystore4, ystore22, ystore36, ystore40, ystore51, ystore61, ystore73, ystore112, ystore29, ystore24, ystore64, ystore75, ystore108, ystore114, ystore120, ystore127, ystore133, ystore141, ybuild29_, ybuild29_0i, ybuild29_0i1i, ybuild29_0i2i, ybuild29_0i1i2i, ybuild24_, ybuild24_0s, ybuild24_1i, ybuild64_, ybuild64_0i, ybuild64_0i1i, ybuild75_, ybuild75_0i1i2i3i, ybuild108_, ybuild108_0i1i2s, ybuild118_0i2i, ybuild114_2s4i, ybuild100, ybuild120, ybuild127, ybuild141, ybuild141_0, ybuild148, ybuild91, yfld108_0, yfld133_2, hx2]
    · rintro ⟨T, H1⟩ ⟨t9, t10, t11, hb, hx⟩
      simp only at t9 t10 t11 hb hx
      rw [List.take_of_length_le (Nat.le_refl _)] at hb
      unfold F20_L1
      have hcmp : decide (((l.length : Nat) : Int) < ((l.length : Nat) : Int)) = false := decide_eq_false (by omega)
      simp -implicitDefEqProofs only [chkL_nil, chkL_same, aBin_add, aBin_sub, aBin_mul, aBin_lss, aBin_leq, aBin_gtr, aBin_geq, aBin_eql, aBin_neq, cvInt_int, asB_bool, gdv_bool, jn_inl, jn_inr, Option.bind_some, Option.map_some, Option.bind_none, Option.map_none, ptrTo_at, slTo_at, nilC_at, ptrAdd_at, aUn_not, aUn_neg, aExtract_at, idxSl_at, idxPtr_at, ldOne_ptr, ldAgg_ptr, new_m, new_next, put_m, put_next, kill_m, kill_next, nBox_agg, nBox_int, bft, btf, btt, bff, updL_nil', updL_cons', upd_same, upd_ne, T0_at, if_true, if_false, ite_true, ite_false, Bool.false_eq_true, Bool.true_eq_false, decide_true, decide_false, Bool.not_true, Bool.not_false, beq_self_eq_true, Nat.zero_add, Nat.add_zero, Nat.reduceAdd, Nat.reduceMul, Nat.reduceLT, Nat.reduceLeDiff, Nat.reduceEqDiff, Nat.reduceBEq, Nat.left_eq_add, Nat.add_eq_left, Nat.add_left_cancel_iff, reduceCtorEq, Int.reduceLT, Int.reduceLE, Int.reduceEq, Int.reduceGT, Int.reduceGE, Int.reduceToNat, Int.reduceNeg, List.getElem?_cons_zero, List.getElem?_cons_succ, List.getD_cons_zero, List.getD_cons_succ, List.getD_nil, List.length_cons, List.length_nil, List.drop_zero, List.drop_succ_cons, List.take_succ_cons, List.take_zero, List.set_cons_zero, List.set_cons_succ, List.cons_append, List.nil_append, and_self, and_true, true_and, not_true_eq_false, not_false_eq_true, Nat.le_refl, Nat.lt_irrefl, Nat.zero_lt_succ, Nat.mul_one, Nat.one_mul, Int.toNat_natCast, Int.toNat_zero, Int.toNat_one, Nat.zero_mul, ylen22, ylen36, ylen40, ylen51, ylen61, ylen73, ylen90, ylen112, ylen139, ylen9, yalloc24, yalloc29, yalloc64, yalloc75, yalloc108, yalloc114, yalloc120, yalloc127, yalloc133, yalloc141, ybs22, ybs22_2, ybs36, ybs61, ybs73, ybs40, ybs40_2, ybs51, ybs51_2, ybs112, ystore2, ystore3, ystore5, ystore4, ystore22, ystore36, ystore40, ystore51, ystore61, ystore73, ystore112, ystore29, ystore24, ystore64, ystore75, ystore108, ystore114, ystore120, ystore127, ystore133, ystore141, ybuild29_, ybuild29_0i, ybuild29_0i1i, ybuild29_0i2i, ybuild29_0i1i2i, ybuild24_, ybuild24_0s, ybuild24_1i, ybuild64_, ybuild64_0i, ybuild64_0i1i, ybuild75_, ybuild75_0i1i2i3i, ybuild108_, ybuild108_0i1i2s, ybuild118_0i2i, ybuild114_2s4i, ybuild100, ybuild120, ybuild127, ybuild141, ybuild141_0, ybuild148, ybuild91, yfld108_0, yfld133_2, t9, t10, t11, hcmp]
      refine .mk ⟨by simp, rfl, ?_, hx⟩
      simp -implicitDefEqProofs only [chkL_nil, chkL_same, aBin_add, aBin_sub, aBin_mul, aBin_lss, aBin_leq, aBin_gtr, aBin_geq, aBin_eql, aBin_neq, cvInt_int, asB_bool, gdv_bool, jn_inl, jn_inr, Option.bind_some, Option.map_some, Option.bind_none, Option.map_none, ptrTo_at, slTo_at, nilC_at, ptrAdd_at, aUn_not, aUn_neg, aExtract_at, idxSl_at, idxPtr_at, ldOne_ptr, ldAgg_ptr, new_m, new_next, put_m, put_next, kill_m, kill_next, nBox_agg, nBox_int, bft, btf, btt, bff, updL_nil', updL_cons', upd_same, upd_ne, T0_at, if_true, if_false, ite_true, ite_false, Bool.false_eq_true, Bool.true_eq_false, decide_true, decide_false, Bool.not_true, Bool.not_false, beq_self_eq_true, Nat.zero_add, Nat.add_zero, Nat.reduceAdd, Nat.reduceMul, Nat.reduceLT, Nat.reduceLeDiff, Nat.reduceEqDiff, Nat.reduceBEq, Nat.left_eq_add, Nat.add_eq_left, Nat.add_left_cancel_iff, reduceCtorEq, Int.reduceLT, Int.reduceLE, Int.reduceEq, Int.reduceGT, Int.reduceGE, Int.reduceToNat, Int.reduceNeg, List.getElem?_cons_zero, List.getElem?_cons_succ, List.getD_cons_zero, List.getD_cons_succ, List.getD_nil, List.length_cons, List.length_nil, List.drop_zero, List.drop_succ_cons, List.take_succ_cons, List.take_zero, List.set_cons_zero, List.set_cons_succ, List.cons_append, List.nil_append, and_self, and_true, true_and, not_true_eq_false, not_false_eq_true, Nat.le_refl, Nat.lt_irrefl, Nat.zero_lt_succ, Nat.mul_one, Nat.one_mul, Int.toNat_natCast, Int.toNat_zero, Int.toNat_one, Nat.zero_mul, ylen22, ylen36, ylen40, ylen51, ylen61, ylen73, ylen90, ylen112, ylen139, ylen9, yalloc24, yalloc29, yalloc64, yalloc75, yalloc108, yalloc114, yalloc120, yalloc127, yalloc133, yalloc141, ybs22, ybs22_2, ybs36, ybs61, ybs73, ybs40, ybs40_2, ybs51, ybs51_2, ybs112, ystore2, ystore3, ystore5, ystore4, ystore22, ystore36, ystore40, ystore51, ystore61, ystore73, ystore112, ystore29, ystore24, ystore64, ystore75, ystore108, ystore114, ystore120, ystore127, ystore133, ystore141, ybuild29_, ybuild29_0i, ybuild29_0i1i, ybuild29_0i2i, ybuild29_0i1i2i, ybuild24_, ybuild24_0s, ybuild24_1i, ybuild64_, ybuild64_0i, ybuild64_0i1i, ybuild75_, ybuild75_0i1i2i3i, ybuild108_, ybuild108_0i1i2s, ybuild118_0i2i, ybuild114_2s4i, ybuild100, ybuild120, ybuild127, ybuild141, ybuild141_0, ybuild148, ybuild91, yfld108_0, yfld133_2]
      exact hb
  · rintro ⟨e, T, H1⟩ ⟨he, hb, hx⟩
    simp only at he hb hx
    subst he
    simp -implicitDefEqProofs only [chkL_nil, chkL_same, aBin_add, aBin_sub, aBin_mul, aBin_lss, aBin_leq, aBin_gtr, aBin_geq, aBin_eql, aBin_neq, cvInt_int, asB_bool, gdv_bool, jn_inl, jn_inr, Option.bind_some, Option.map_some, Option.bind_none, Option.map_none, ptrTo_at, slTo_at, nilC_at, ptrAdd_at, aUn_not, aUn_neg, aExtract_at, idxSl_at, idxPtr_at, ldOne_ptr, ldAgg_ptr, new_m, new_next, put_m, put_next, kill_m, kill_next, nBox_agg, nBox_int, bft, btf, btt, bff, updL_nil', updL_cons', upd_same, upd_ne, T0_at, if_true, if_false, ite_true, ite_false, Bool.false_eq_true, Bool.true_eq_false, decide_true, decide_false, Bool.not_true, Bool.not_false, beq_self_eq_true, Nat.zero_add, Nat.add_zero, Nat.reduceAdd, Nat.reduceMul, Nat.reduceLT, Nat.reduceLeDiff, Nat.reduceEqDiff, Nat.reduceBEq, Nat.left_eq_add, Nat.add_eq_left, Nat.add_left_cancel_iff, reduceCtorEq, Int.reduceLT, Int.reduceLE, Int.reduceEq, Int.reduceGT, Int.reduceGE, Int.reduceToNat, Int.reduceNeg, List.getElem?_cons_zero, List.getElem?_cons_succ, List.getD_cons_zero, List.getD_cons_succ, List.getD_nil, List.length_cons, List.length_nil, List.drop_zero, List.drop_succ_cons, List.take_succ_cons, List.take_zero, List.set_cons_zero, List.set_cons_succ, List.cons_append, List.nil_append, and_self, and_true, true_and, not_true_eq_false, not_false_eq_true, Nat.le_refl, Nat.lt_irrefl, Nat.zero_lt_succ, Nat.mul_one, Nat.one_mul, Int.toNat_natCast, Int.toNat_zero, Int.toNat_one, Nat.zero_mul, ylen22, ylen36, ylen40, ylen51, ylen61, ylen73, ylen90, ylen112, ylen139, ylen9, yalloc24, yalloc29, yalloc64, yalloc75, yalloc108, yalloc114, yalloc120, yalloc127, yalloc133, yalloc141, ybs22, ybs22_2, ybs36, ybs61, ybs73, ybs40, ybs40_2, ybs51, ybs51_2, ybs112, ystore2, ystore3, ystore5, ystore4, ystore22, ystore36, ystore40, ystore51, ystore61, ystore73, ystore112, ystore29, ystore24, ystore64, ystore75, ystore108, ystore114, ystore120, ystore127, ystore133, ystore141, ybuild29_, ybuild29_0i, ybuild29_0i1i, ybuild29_0i2i, ybuild29_0i1i2i, ybuild24_, ybuild24_0s, ybuild24_1i, ybuild64_, ybuild64_0i, ybuild64_0i1i, ybuild75_, ybuild75_0i1i2i3i, ybuild108_, ybuild108_0i1i2s, ybuild118_0i2i, ybuild114_2s4i, ybuild100, ybuild120, ybuild127, ybuild141, ybuild141_0, ybuild148, ybuild91, yfld108_0, yfld133_2, hb.read]
    exact .mk ⟨rfl, hx⟩
end Go.Proofs.YthiflgncldmkjaaDoor
/- The document's lines of a code; the law CodePrints. -/
set_option linter.unusedVariables false
set_option linter.unusedSimpArgs false
set_option maxRecDepth 100000
namespace Go.Proofs.YthiflgncldmkjaaDoor
open Go.Ri

def PrintJ (s a b c : AV) (l : List Ins) (H : AH) (i : Nat) (t : St) : Prop :=
  t.1 1 = .ptr (some (H.next, 0)) ∧ t.1 3 = .str (strOfNums (printT 0 (l.take i))) ∧ t.1 4 = .int .i64 (i : Nat) ∧ t.2 = H.new [s, a, b, c] 24
theorem ref_tail (d : Nat) {H : AH} {s a b c : AV} {l : List Ins} (hlen : l.length ≤ 1000) {i : Nat} (hi : i < l.length) {T : Tm} {H1 : AH} (hI : PrintJ s a b c l H i (T, H1)) (t5 : T 5 = .str (strOfNums (lineT l[i]))) :
    Ret (F21_J0 (RT d) (Ri.iter big) T H1) fun r => r.1 = .normal ∧ PrintJ s a b c l H (i + 1) r.2 := by
  obtain ⟨t1, t3, t4, hH⟩ := hI
  simp only at t1 t3 t4 hH
  have hin : InI ((i : Nat) : Int) := by unfold InI; omega
  have hpl := printT_length 0 (l.take i)
  have hpl' : (strOfNums (printT 0 (l.take i))).size ≤ 122000 := by
    rw [strOfNums_size]
    have : (l.take i).length ≤ 1000 := by simp; omega
    omega
  have hts := txt_size ((i : Nat) : Int)
  have hls : (strOfNums (lineT l[i])).size ≤ 100 := by rw [strOfNums_size]; exact lineT_length l[i]
  have e32 : (⟨#[32]⟩ : ByteArray) = strOfNums [32] := rfl
  have e10 : (⟨#[10]⟩ : ByteArray) = strOfNums [10] := rfl
  have cat : ∀ (t : TypeId) (x y : List Int), x.length + y.length ≤ 1000000000000 → aBin Tryd.prog .add t (.str (strOfNums x)) (.str (strOfNums y)) = some (.str (strOfNums (x ++ y))) := fun t x y h => by
    rw [cat_str _ _ _ (by rw [strOfNums_size, strOfNums_size]; exact h), str_append]
  rw [strOfNums_size] at hpl' hts hls
  unfold F21_J0
  simp -implicitDefEqProofs only [chkL_nil, chkL_same, aBin_add, aBin_sub, aBin_mul, aBin_lss, aBin_leq, aBin_gtr, aBin_geq, aBin_eql, aBin_neq, cvInt_int, asB_bool, gdv_bool, jn_inl, jn_inr, Option.bind_some, Option.map_some, Option.bind_none, Option.map_none, ptrTo_at, slTo_at, nilC_at, ptrAdd_at, aUn_not, aUn_neg, aExtract_at, idxSl_at, idxPtr_at, ldOne_ptr, ldAgg_ptr, new_m, new_next, put_m, put_next, kill_m, kill_next, nBox_agg, nBox_int, bft, btf, btt, bff, updL_nil', updL_cons', upd_same, upd_ne, T0_at, if_true, if_false, ite_true, ite_false, Bool.false_eq_true, Bool.true_eq_false, decide_true, decide_false, Bool.not_true, Bool.not_false, beq_self_eq_true, Nat.zero_add, Nat.add_zero, Nat.reduceAdd, Nat.reduceMul, Nat.reduceLT, Nat.reduceLeDiff, Nat.reduceEqDiff, Nat.reduceBEq, Nat.left_eq_add, Nat.add_eq_left, Nat.add_left_cancel_iff, reduceCtorEq, Int.reduceLT, Int.reduceLE, Int.reduceEq, Int.reduceGT, Int.reduceGE, Int.reduceToNat, Int.reduceNeg, List.getElem?_cons_zero, List.getElem?_cons_succ, List.getD_cons_zero, List.getD_cons_succ, List.getD_nil, List.length_cons, List.length_nil, List.drop_zero, List.drop_succ_cons, List.take_succ_cons, List.take_zero, List.set_cons_zero, List.set_cons_succ, List.cons_append, List.nil_append, and_self, and_true, true_and, not_true_eq_false, not_false_eq_true, Nat.le_refl, Nat.lt_irrefl, Nat.zero_lt_succ, Nat.mul_one, Nat.one_mul, Int.toNat_natCast, Int.toNat_zero, Int.toNat_one, Nat.zero_mul, ylen22, ylen36, ylen40, ylen51, ylen61, ylen73, ylen90, ylen112, ylen139, ylen9, yalloc24, yalloc29, yalloc64, yalloc75, yalloc108, yalloc114, yalloc120, yalloc127, yalloc133, yalloc141, ybs22, ybs22_2, ybs36, ybs61, ybs73, ybs40, ybs40_2, ybs51, ybs51_2, ybs112, ystore2, ystore3, ystore5, ystore4, ystore22, ystore36, ystore40, ystore51, ystore61, ystore73, ystore112, ystore29, ystore24, ystore64, ystore75, ystore108, ystore114, ystore120, ystore127, ystore133, ystore141, ybuild29_, ybuild29_0i, ybuild29_0i1i, ybuild29_0i2i, ybuild29_0i1i2i, ybuild24_, ybuild24_0s, ybuild24_1i, ybuild64_, ybuild64_0i, ybuild64_0i1i, ybuild75_, ybuild75_0i1i2i3i, ybuild108_, ybuild108_0i1i2s, ybuild118_0i2i, ybuild114_2s4i, ybuild100, ybuild120, ybuild127, ybuild141, ybuild141_0, ybuild148, ybuild91, yfld108_0, yfld133_2, t3, t4, t5, RT_64 d hin, e32, e10]
  rw [cat _ _ _ (by omega)]
  simp -implicitDefEqProofs only [chkL_nil, chkL_same, aBin_add, aBin_sub, aBin_mul, aBin_lss, aBin_leq, aBin_gtr, aBin_geq, aBin_eql, aBin_neq, cvInt_int, asB_bool, gdv_bool, jn_inl, jn_inr, Option.bind_some, Option.map_some, Option.bind_none, Option.map_none, ptrTo_at, slTo_at, nilC_at, ptrAdd_at, aUn_not, aUn_neg, aExtract_at, idxSl_at, idxPtr_at, ldOne_ptr, ldAgg_ptr, new_m, new_next, put_m, put_next, kill_m, kill_next, nBox_agg, nBox_int, bft, btf, btt, bff, updL_nil', updL_cons', upd_same, upd_ne, T0_at, if_true, if_false, ite_true, ite_false, Bool.false_eq_true, Bool.true_eq_false, decide_true, decide_false, Bool.not_true, Bool.not_false, beq_self_eq_true, Nat.zero_add, Nat.add_zero, Nat.reduceAdd, Nat.reduceMul, Nat.reduceLT, Nat.reduceLeDiff, Nat.reduceEqDiff, Nat.reduceBEq, Nat.left_eq_add, Nat.add_eq_left, Nat.add_left_cancel_iff, reduceCtorEq, Int.reduceLT, Int.reduceLE, Int.reduceEq, Int.reduceGT, Int.reduceGE, Int.reduceToNat, Int.reduceNeg, List.getElem?_cons_zero, List.getElem?_cons_succ, List.getD_cons_zero, List.getD_cons_succ, List.getD_nil, List.length_cons, List.length_nil, List.drop_zero, List.drop_succ_cons, List.take_succ_cons, List.take_zero, List.set_cons_zero, List.set_cons_succ, List.cons_append, List.nil_append, and_self, and_true, true_and, not_true_eq_false, not_false_eq_true, Nat.le_refl, Nat.lt_irrefl, Nat.zero_lt_succ, Nat.mul_one, Nat.one_mul, Int.toNat_natCast, Int.toNat_zero, Int.toNat_one, Nat.zero_mul, ylen22, ylen36, ylen40, ylen51, ylen61, ylen73, ylen90, ylen112, ylen139, ylen9, yalloc24, yalloc29, yalloc64, yalloc75, yalloc108, yalloc114, yalloc120, yalloc127, yalloc133, yalloc141, ybs22, ybs22_2, ybs36, ybs61, ybs73, ybs40, ybs40_2, ybs51, ybs51_2, ybs112, ystore2, ystore3, ystore5, ystore4, ystore22, ystore36, ystore40, ystore51, ystore61, ystore73, ystore112, ystore29, ystore24, ystore64, ystore75, ystore108, ystore114, ystore120, ystore127, ystore133, ystore141, ybuild29_, ybuild29_0i, ybuild29_0i1i, ybuild29_0i2i, ybuild29_0i1i2i, ybuild24_, ybuild24_0s, ybuild24_1i, ybuild64_, ybuild64_0i, ybuild64_0i1i, ybuild75_, ybuild75_0i1i2i3i, ybuild108_, ybuild108_0i1i2s, ybuild118_0i2i, ybuild114_2s4i, ybuild100, ybuild120, ybuild127, ybuild141, ybuild141_0, ybuild148, ybuild91, yfld108_0, yfld133_2]
  rw [cat _ _ _ (by simp; omega)]
  simp -implicitDefEqProofs only [chkL_nil, chkL_same, aBin_add, aBin_sub, aBin_mul, aBin_lss, aBin_leq, aBin_gtr, aBin_geq, aBin_eql, aBin_neq, cvInt_int, asB_bool, gdv_bool, jn_inl, jn_inr, Option.bind_some, Option.map_some, Option.bind_none, Option.map_none, ptrTo_at, slTo_at, nilC_at, ptrAdd_at, aUn_not, aUn_neg, aExtract_at, idxSl_at, idxPtr_at, ldOne_ptr, ldAgg_ptr, new_m, new_next, put_m, put_next, kill_m, kill_next, nBox_agg, nBox_int, bft, btf, btt, bff, updL_nil', updL_cons', upd_same, upd_ne, T0_at, if_true, if_false, ite_true, ite_false, Bool.false_eq_true, Bool.true_eq_false, decide_true, decide_false, Bool.not_true, Bool.not_false, beq_self_eq_true, Nat.zero_add, Nat.add_zero, Nat.reduceAdd, Nat.reduceMul, Nat.reduceLT, Nat.reduceLeDiff, Nat.reduceEqDiff, Nat.reduceBEq, Nat.left_eq_add, Nat.add_eq_left, Nat.add_left_cancel_iff, reduceCtorEq, Int.reduceLT, Int.reduceLE, Int.reduceEq, Int.reduceGT, Int.reduceGE, Int.reduceToNat, Int.reduceNeg, List.getElem?_cons_zero, List.getElem?_cons_succ, List.getD_cons_zero, List.getD_cons_succ, List.getD_nil, List.length_cons, List.length_nil, List.drop_zero, List.drop_succ_cons, List.take_succ_cons, List.take_zero, List.set_cons_zero, List.set_cons_succ, List.cons_append, List.nil_append, and_self, and_true, true_and, not_true_eq_false, not_false_eq_true, Nat.le_refl, Nat.lt_irrefl, Nat.zero_lt_succ, Nat.mul_one, Nat.one_mul, Int.toNat_natCast, Int.toNat_zero, Int.toNat_one, Nat.zero_mul, ylen22, ylen36, ylen40, ylen51, ylen61, ylen73, ylen90, ylen112, ylen139, ylen9, yalloc24, yalloc29, yalloc64, yalloc75, yalloc108, yalloc114, yalloc120, yalloc127, yalloc133, yalloc141, ybs22, ybs22_2, ybs36, ybs61, ybs73, ybs40, ybs40_2, ybs51, ybs51_2, ybs112, ystore2, ystore3, ystore5, ystore4, ystore22, ystore36, ystore40, ystore51, ystore61, ystore73, ystore112, ystore29, ystore24, ystore64, ystore75, ystore108, ystore114, ystore120, ystore127, ystore133, ystore141, ybuild29_, ybuild29_0i, ybuild29_0i1i, ybuild29_0i2i, ybuild29_0i1i2i, ybuild24_, ybuild24_0s, ybuild24_1i, ybuild64_, ybuild64_0i, ybuild64_0i1i, ybuild75_, ybuild75_0i1i2i3i, ybuild108_, ybuild108_0i1i2s, ybuild118_0i2i, ybuild114_2s4i, ybuild100, ybuild120, ybuild127, ybuild141, ybuild141_0, ybuild148, ybuild91, yfld108_0, yfld133_2]
  rw [cat _ _ _ (by simp; omega)]
  simp -implicitDefEqProofs only [chkL_nil, chkL_same, aBin_add, aBin_sub, aBin_mul, aBin_lss, aBin_leq, aBin_gtr, aBin_geq, aBin_eql, aBin_neq, cvInt_int, asB_bool, gdv_bool, jn_inl, jn_inr, Option.bind_some, Option.map_some, Option.bind_none, Option.map_none, ptrTo_at, slTo_at, nilC_at, ptrAdd_at, aUn_not, aUn_neg, aExtract_at, idxSl_at, idxPtr_at, ldOne_ptr, ldAgg_ptr, new_m, new_next, put_m, put_next, kill_m, kill_next, nBox_agg, nBox_int, bft, btf, btt, bff, updL_nil', updL_cons', upd_same, upd_ne, T0_at, if_true, if_false, ite_true, ite_false, Bool.false_eq_true, Bool.true_eq_false, decide_true, decide_false, Bool.not_true, Bool.not_false, beq_self_eq_true, Nat.zero_add, Nat.add_zero, Nat.reduceAdd, Nat.reduceMul, Nat.reduceLT, Nat.reduceLeDiff, Nat.reduceEqDiff, Nat.reduceBEq, Nat.left_eq_add, Nat.add_eq_left, Nat.add_left_cancel_iff, reduceCtorEq, Int.reduceLT, Int.reduceLE, Int.reduceEq, Int.reduceGT, Int.reduceGE, Int.reduceToNat, Int.reduceNeg, List.getElem?_cons_zero, List.getElem?_cons_succ, List.getD_cons_zero, List.getD_cons_succ, List.getD_nil, List.length_cons, List.length_nil, List.drop_zero, List.drop_succ_cons, List.take_succ_cons, List.take_zero, List.set_cons_zero, List.set_cons_succ, List.cons_append, List.nil_append, and_self, and_true, true_and, not_true_eq_false, not_false_eq_true, Nat.le_refl, Nat.lt_irrefl, Nat.zero_lt_succ, Nat.mul_one, Nat.one_mul, Int.toNat_natCast, Int.toNat_zero, Int.toNat_one, Nat.zero_mul, ylen22, ylen36, ylen40, ylen51, ylen61, ylen73, ylen90, ylen112, ylen139, ylen9, yalloc24, yalloc29, yalloc64, yalloc75, yalloc108, yalloc114, yalloc120, yalloc127, yalloc133, yalloc141, ybs22, ybs22_2, ybs36, ybs61, ybs73, ybs40, ybs40_2, ybs51, ybs51_2, ybs112, ystore2, ystore3, ystore5, ystore4, ystore22, ystore36, ystore40, ystore51, ystore61, ystore73, ystore112, ystore29, ystore24, ystore64, ystore75, ystore108, ystore114, ystore120, ystore127, ystore133, ystore141, ybuild29_, ybuild29_0i, ybuild29_0i1i, ybuild29_0i2i, ybuild29_0i1i2i, ybuild24_, ybuild24_0s, ybuild24_1i, ybuild64_, ybuild64_0i, ybuild64_0i1i, ybuild75_, ybuild75_0i1i2i3i, ybuild108_, ybuild108_0i1i2s, ybuild118_0i2i, ybuild114_2s4i, ybuild100, ybuild120, ybuild127, ybuild141, ybuild141_0, ybuild148, ybuild91, yfld108_0, yfld133_2]
  rw [cat _ _ _ (by simp; omega)]
  simp -implicitDefEqProofs only [chkL_nil, chkL_same, aBin_add, aBin_sub, aBin_mul, aBin_lss, aBin_leq, aBin_gtr, aBin_geq, aBin_eql, aBin_neq, cvInt_int, asB_bool, gdv_bool, jn_inl, jn_inr, Option.bind_some, Option.map_some, Option.bind_none, Option.map_none, ptrTo_at, slTo_at, nilC_at, ptrAdd_at, aUn_not, aUn_neg, aExtract_at, idxSl_at, idxPtr_at, ldOne_ptr, ldAgg_ptr, new_m, new_next, put_m, put_next, kill_m, kill_next, nBox_agg, nBox_int, bft, btf, btt, bff, updL_nil', updL_cons', upd_same, upd_ne, T0_at, if_true, if_false, ite_true, ite_false, Bool.false_eq_true, Bool.true_eq_false, decide_true, decide_false, Bool.not_true, Bool.not_false, beq_self_eq_true, Nat.zero_add, Nat.add_zero, Nat.reduceAdd, Nat.reduceMul, Nat.reduceLT, Nat.reduceLeDiff, Nat.reduceEqDiff, Nat.reduceBEq, Nat.left_eq_add, Nat.add_eq_left, Nat.add_left_cancel_iff, reduceCtorEq, Int.reduceLT, Int.reduceLE, Int.reduceEq, Int.reduceGT, Int.reduceGE, Int.reduceToNat, Int.reduceNeg, List.getElem?_cons_zero, List.getElem?_cons_succ, List.getD_cons_zero, List.getD_cons_succ, List.getD_nil, List.length_cons, List.length_nil, List.drop_zero, List.drop_succ_cons, List.take_succ_cons, List.take_zero, List.set_cons_zero, List.set_cons_succ, List.cons_append, List.nil_append, and_self, and_true, true_and, not_true_eq_false, not_false_eq_true, Nat.le_refl, Nat.lt_irrefl, Nat.zero_lt_succ, Nat.mul_one, Nat.one_mul, Int.toNat_natCast, Int.toNat_zero, Int.toNat_one, Nat.zero_mul, ylen22, ylen36, ylen40, ylen51, ylen61, ylen73, ylen90, ylen112, ylen139, ylen9, yalloc24, yalloc29, yalloc64, yalloc75, yalloc108, yalloc114, yalloc120, yalloc127, yalloc133, yalloc141, ybs22, ybs22_2, ybs36, ybs61, ybs73, ybs40, ybs40_2, ybs51, ybs51_2, ybs112, ystore2, ystore3, ystore5, ystore4, ystore22, ystore36, ystore40, ystore51, ystore61, ystore73, ystore112, ystore29, ystore24, ystore64, ystore75, ystore108, ystore114, ystore120, ystore127, ystore133, ystore141, ybuild29_, ybuild29_0i, ybuild29_0i1i, ybuild29_0i2i, ybuild29_0i1i2i, ybuild24_, ybuild24_0s, ybuild24_1i, ybuild64_, ybuild64_0i, ybuild64_0i1i, ybuild75_, ybuild75_0i1i2i3i, ybuild108_, ybuild108_0i1i2s, ybuild118_0i2i, ybuild114_2s4i, ybuild100, ybuild120, ybuild127, ybuild141, ybuild141_0, ybuild148, ybuild91, yfld108_0, yfld133_2, wrapS (i := i) (by omega)]
  refine .mk ⟨rfl, ?_, ?_, ?_, hH⟩
  · simp -implicitDefEqProofs only [chkL_nil, chkL_same, aBin_add, aBin_sub, aBin_mul, aBin_lss, aBin_leq, aBin_gtr, aBin_geq, aBin_eql, aBin_neq, cvInt_int, asB_bool, gdv_bool, jn_inl, jn_inr, Option.bind_some, Option.map_some, Option.bind_none, Option.map_none, ptrTo_at, slTo_at, nilC_at, ptrAdd_at, aUn_not, aUn_neg, aExtract_at, idxSl_at, idxPtr_at, ldOne_ptr, ldAgg_ptr, new_m, new_next, put_m, put_next, kill_m, kill_next, nBox_agg, nBox_int, bft, btf, btt, bff, updL_nil', updL_cons', upd_same, upd_ne, T0_at, if_true, if_false, ite_true, ite_false, Bool.false_eq_true, Bool.true_eq_false, decide_true, decide_false, Bool.not_true, Bool.not_false, beq_self_eq_true, Nat.zero_add, Nat.add_zero, Nat.reduceAdd, Nat.reduceMul, Nat.reduceLT, Nat.reduceLeDiff, Nat.reduceEqDiff, Nat.reduceBEq, Nat.left_eq_add, Nat.add_eq_left, Nat.add_left_cancel_iff, reduceCtorEq, Int.reduceLT, Int.reduceLE, Int.reduceEq, Int.reduceGT, Int.reduceGE, Int.reduceToNat, Int.reduceNeg, List.getElem?_cons_zero, List.getElem?_cons_succ, List.getD_cons_zero, List.getD_cons_succ, List.getD_nil, List.length_cons, List.length_nil, List.drop_zero, List.drop_succ_cons, List.take_succ_cons, List.take_zero, List.set_cons_zero, List.set_cons_succ, List.cons_append, List.nil_append, and_self, and_true, true_and, not_true_eq_false, not_false_eq_true, Nat.le_refl, Nat.lt_irrefl, Nat.zero_lt_succ, Nat.mul_one, Nat.one_mul, Int.toNat_natCast, Int.toNat_zero, Int.toNat_one, Nat.zero_mul, ylen22, ylen36, ylen40, ylen51, ylen61, ylen73, ylen90, ylen112, ylen139, ylen9, yalloc24, yalloc29, yalloc64, yalloc75, yalloc108, yalloc114, yalloc120, yalloc127, yalloc133, yalloc141, ybs22, ybs22_2, ybs36, ybs61, ybs73, ybs40, ybs40_2, ybs51, ybs51_2, ybs112, ystore2, ystore3, ystore5, ystore4, ystore22, ystore36, ystore40, ystore51, ystore61, ystore73, ystore112, ystore29, ystore24, ystore64, ystore75, ystore108, ystore114, ystore120, ystore127, ystore133, ystore141, ybuild29_, ybuild29_0i, ybuild29_0i1i, ybuild29_0i2i, ybuild29_0i1i2i, ybuild24_, ybuild24_0s, ybuild24_1i, ybuild64_, ybuild64_0i, ybuild64_0i1i, ybuild75_, ybuild75_0i1i2i3i, ybuild108_, ybuild108_0i1i2s, ybuild118_0i2i, ybuild114_2s4i, ybuild100, ybuild120, ybuild127, ybuild141, ybuild141_0, ybuild148, ybuild91, yfld108_0, yfld133_2, t1]
  · simp -implicitDefEqProofs only [chkL_nil, chkL_same, aBin_add, aBin_sub, aBin_mul, aBin_lss, aBin_leq, aBin_gtr, aBin_geq, aBin_eql, aBin_neq, cvInt_int, asB_bool, gdv_bool, jn_inl, jn_inr, Option.bind_some, Option.map_some, Option.bind_none, Option.map_none, ptrTo_at, slTo_at, nilC_at, ptrAdd_at, aUn_not, aUn_neg, aExtract_at, idxSl_at, idxPtr_at, ldOne_ptr, ldAgg_ptr, new_m, new_next, put_m, put_next, kill_m, kill_next, nBox_agg, nBox_int, bft, btf, btt, bff, updL_nil', updL_cons', upd_same, upd_ne, T0_at, if_true, if_false, ite_true, ite_false, Bool.false_eq_true, Bool.true_eq_false, decide_true, decide_false, Bool.not_true, Bool.not_false, beq_self_eq_true, Nat.zero_add, Nat.add_zero, Nat.reduceAdd, Nat.reduceMul, Nat.reduceLT, Nat.reduceLeDiff, Nat.reduceEqDiff, Nat.reduceBEq, Nat.left_eq_add, Nat.add_eq_left, Nat.add_left_cancel_iff, reduceCtorEq, Int.reduceLT, Int.reduceLE, Int.reduceEq, Int.reduceGT, Int.reduceGE, Int.reduceToNat, Int.reduceNeg, List.getElem?_cons_zero, List.getElem?_cons_succ, List.getD_cons_zero, List.getD_cons_succ, List.getD_nil, List.length_cons, List.length_nil, List.drop_zero, List.drop_succ_cons, List.take_succ_cons, List.take_zero, List.set_cons_zero, List.set_cons_succ, List.cons_append, List.nil_append, and_self, and_true, true_and, not_true_eq_false, not_false_eq_true, Nat.le_refl, Nat.lt_irrefl, Nat.zero_lt_succ, Nat.mul_one, Nat.one_mul, Int.toNat_natCast, Int.toNat_zero, Int.toNat_one, Nat.zero_mul, ylen22, ylen36, ylen40, ylen51, ylen61, ylen73, ylen90, ylen112, ylen139, ylen9, yalloc24, yalloc29, yalloc64, yalloc75, yalloc108, yalloc114, yalloc120, yalloc127, yalloc133, yalloc141, ybs22, ybs22_2, ybs36, ybs61, ybs73, ybs40, ybs40_2, ybs51, ybs51_2, ybs112, ystore2, ystore3, ystore5, ystore4, ystore22, ystore36, ystore40, ystore51, ystore61, ystore73, ystore112, ystore29, ystore24, ystore64, ystore75, ystore108, ystore114, ystore120, ystore127, ystore133, ystore141, ybuild29_, ybuild29_0i, ybuild29_0i1i, ybuild29_0i2i, ybuild29_0i1i2i, ybuild24_, ybuild24_0s, ybuild24_1i, ybuild64_, ybuild64_0i, ybuild64_0i1i, ybuild75_, ybuild75_0i1i2i3i, ybuild108_, ybuild108_0i1i2s, ybuild118_0i2i, ybuild114_2s4i, ybuild100, ybuild120, ybuild127, ybuild141, ybuild141_0, ybuild148, ybuild91, yfld108_0, yfld133_2]
    rw [printT_take l i hi]
    simp [rowT]
  · simp -implicitDefEqProofs only [chkL_nil, chkL_same, aBin_add, aBin_sub, aBin_mul, aBin_lss, aBin_leq, aBin_gtr, aBin_geq, aBin_eql, aBin_neq, cvInt_int, asB_bool, gdv_bool, jn_inl, jn_inr, Option.bind_some, Option.map_some, Option.bind_none, Option.map_none, ptrTo_at, slTo_at, nilC_at, ptrAdd_at, aUn_not, aUn_neg, aExtract_at, idxSl_at, idxPtr_at, ldOne_ptr, ldAgg_ptr, new_m, new_next, put_m, put_next, kill_m, kill_next, nBox_agg, nBox_int, bft, btf, btt, bff, updL_nil', updL_cons', upd_same, upd_ne, T0_at, if_true, if_false, ite_true, ite_false, Bool.false_eq_true, Bool.true_eq_false, decide_true, decide_false, Bool.not_true, Bool.not_false, beq_self_eq_true, Nat.zero_add, Nat.add_zero, Nat.reduceAdd, Nat.reduceMul, Nat.reduceLT, Nat.reduceLeDiff, Nat.reduceEqDiff, Nat.reduceBEq, Nat.left_eq_add, Nat.add_eq_left, Nat.add_left_cancel_iff, reduceCtorEq, Int.reduceLT, Int.reduceLE, Int.reduceEq, Int.reduceGT, Int.reduceGE, Int.reduceToNat, Int.reduceNeg, List.getElem?_cons_zero, List.getElem?_cons_succ, List.getD_cons_zero, List.getD_cons_succ, List.getD_nil, List.length_cons, List.length_nil, List.drop_zero, List.drop_succ_cons, List.take_succ_cons, List.take_zero, List.set_cons_zero, List.set_cons_succ, List.cons_append, List.nil_append, and_self, and_true, true_and, not_true_eq_false, not_false_eq_true, Nat.le_refl, Nat.lt_irrefl, Nat.zero_lt_succ, Nat.mul_one, Nat.one_mul, Int.toNat_natCast, Int.toNat_zero, Int.toNat_one, Nat.zero_mul, ylen22, ylen36, ylen40, ylen51, ylen61, ylen73, ylen90, ylen112, ylen139, ylen9, yalloc24, yalloc29, yalloc64, yalloc75, yalloc108, yalloc114, yalloc120, yalloc127, yalloc133, yalloc141, ybs22, ybs22_2, ybs36, ybs61, ybs73, ybs40, ybs40_2, ybs51, ybs51_2, ybs112, ystore2, ystore3, ystore5, ystore4, ystore22, ystore36, ystore40, ystore51, ystore61, ystore73, ystore112, ystore29, ystore24, ystore64, ystore75, ystore108, ystore114, ystore120, ystore127, ystore133, ystore141, ybuild29_, ybuild29_0i, ybuild29_0i1i, ybuild29_0i2i, ybuild29_0i1i2i, ybuild24_, ybuild24_0s, ybuild24_1i, ybuild64_, ybuild64_0i, ybuild64_0i1i, ybuild75_, ybuild75_0i1i2i3i, ybuild108_, ybuild108_0i1i2s, ybuild118_0i2i, ybuild114_2s4i, ybuild100, ybuild120, ybuild127, ybuild141, ybuild141_0, ybuild148, ybuild91, yfld108_0, yfld133_2]

theorem print_ref (d : Nat) {H : AH} (hw : H.wf) (hT : Tabs H) {s : AV} {l : List Ins} (hl : InsRow H s l) (hlen : l.length ≤ 1000) (a b c : AV) :
    Ret (RT (d + 1) 21 [.agg [s, a, b, c]] H) fun r => r.1 = .str (strOfNums (printT 0 l)) ∧ Ext H.next H r.2 := by
  rw [R21]
  unfold F21
  obtain ⟨hrow, hok⟩ := hl
  have hs : aLen Tryd.prog 22 s = some (.int .i64 (l.length : Nat)) := by rw [hrow.alen ysl22.under, List.length_map]
  simp -implicitDefEqProofs only [chkL_nil, chkL_same, aBin_add, aBin_sub, aBin_mul, aBin_lss, aBin_leq, aBin_gtr, aBin_geq, aBin_eql, aBin_neq, cvInt_int, asB_bool, gdv_bool, jn_inl, jn_inr, Option.bind_some, Option.map_some, Option.bind_none, Option.map_none, ptrTo_at, slTo_at, nilC_at, ptrAdd_at, aUn_not, aUn_neg, aExtract_at, idxSl_at, idxPtr_at, ldOne_ptr, ldAgg_ptr, new_m, new_next, put_m, put_next, kill_m, kill_next, nBox_agg, nBox_int, bft, btf, btt, bff, updL_nil', updL_cons', upd_same, upd_ne, T0_at, if_true, if_false, ite_true, ite_false, Bool.false_eq_true, Bool.true_eq_false, decide_true, decide_false, Bool.not_true, Bool.not_false, beq_self_eq_true, Nat.zero_add, Nat.add_zero, Nat.reduceAdd, Nat.reduceMul, Nat.reduceLT, Nat.reduceLeDiff, Nat.reduceEqDiff, Nat.reduceBEq, Nat.left_eq_add, Nat.add_eq_left, Nat.add_left_cancel_iff, reduceCtorEq, Int.reduceLT, Int.reduceLE, Int.reduceEq, Int.reduceGT, Int.reduceGE, Int.reduceToNat, Int.reduceNeg, List.getElem?_cons_zero, List.getElem?_cons_succ, List.getD_cons_zero, List.getD_cons_succ, List.getD_nil, List.length_cons, List.length_nil, List.drop_zero, List.drop_succ_cons, List.take_succ_cons, List.take_zero, List.set_cons_zero, List.set_cons_succ, List.cons_append, List.nil_append, and_self, and_true, true_and, not_true_eq_false, not_false_eq_true, Nat.le_refl, Nat.lt_irrefl, Nat.zero_lt_succ, Nat.mul_one, Nat.one_mul, Int.toNat_natCast, Int.toNat_zero, Int.toNat_one, Nat.zero_mul, ylen22, ylen36, ylen40, ylen51, ylen61, ylen73, ylen90, ylen112, ylen139, ylen9, yalloc24, yalloc29, yalloc64, yalloc75, yalloc108, yalloc114, yalloc120, yalloc127, yalloc133, yalloc141, ybs22, ybs22_2, ybs36, ybs61, ybs73, ybs40, ybs40_2, ybs51, ybs51_2, ybs112, ystore2, ystore3, ystore5, ystore4, ystore22, ystore36, ystore40, ystore51, ystore61, ystore73, ystore112, ystore29, ystore24, ystore64, ystore75, ystore108, ystore114, ystore120, ystore127, ystore133, ystore141, ybuild29_, ybuild29_0i, ybuild29_0i1i, ybuild29_0i2i, ybuild29_0i1i2i, ybuild24_, ybuild24_0s, ybuild24_1i, ybuild64_, ybuild64_0i, ybuild64_0i1i, ybuild75_, ybuild75_0i1i2i3i, ybuild108_, ybuild108_0i1i2s, ybuild118_0i2i, ybuild114_2s4i, ybuild100, ybuild120, ybuild127, ybuild141, ybuild141_0, ybuild148, ybuild91, yfld108_0, yfld133_2]
  have hx : Ext H.next H (H.new [s, a, b, c] 24) := (Ext.refl hw).new _ _
  refine Ret.then (Q' := fun r => r.1 = .exit 0 ∧ r.2.1 3 = .str (strOfNums (printT 0 l)) ∧ Ext H.next H r.2.2) ?_ ?_
  · refine Ret.upTo (n := l.length) (PrintJ s a b c l H) (by unfold big; omega) ?_ ?_ ?_
    · refine ⟨?_, ?_, ?_, rfl⟩
      · simp -implicitDefEqProofs only [chkL_nil, chkL_same, aBin_add, aBin_sub, aBin_mul, aBin_lss, aBin_leq, aBin_gtr, aBin_geq, aBin_eql, aBin_neq, cvInt_int, asB_bool, gdv_bool, jn_inl, jn_inr, Option.bind_some, Option.map_some, Option.bind_none, Option.map_none, ptrTo_at, slTo_at, nilC_at, ptrAdd_at, aUn_not, aUn_neg, aExtract_at, idxSl_at, idxPtr_at, ldOne_ptr, ldAgg_ptr, new_m, new_next, put_m, put_next, kill_m, kill_next, nBox_agg, nBox_int, bft, btf, btt, bff, updL_nil', updL_cons', upd_same, upd_ne, T0_at, if_true, if_false, ite_true, ite_false, Bool.false_eq_true, Bool.true_eq_false, decide_true, decide_false, Bool.not_true, Bool.not_false, beq_self_eq_true, Nat.zero_add, Nat.add_zero, Nat.reduceAdd, Nat.reduceMul, Nat.reduceLT, Nat.reduceLeDiff, Nat.reduceEqDiff, Nat.reduceBEq, Nat.left_eq_add, Nat.add_eq_left, Nat.add_left_cancel_iff, reduceCtorEq, Int.reduceLT, Int.reduceLE, Int.reduceEq, Int.reduceGT, Int.reduceGE, Int.reduceToNat, Int.reduceNeg, List.getElem?_cons_zero, List.getElem?_cons_succ, List.getD_cons_zero, List.getD_cons_succ, List.getD_nil, List.length_cons, List.length_nil, List.drop_zero, List.drop_succ_cons, List.take_succ_cons, List.take_zero, List.set_cons_zero, List.set_cons_succ, List.cons_append, List.nil_append, and_self, and_true, true_and, not_true_eq_false, not_false_eq_true, Nat.le_refl, Nat.lt_irrefl, Nat.zero_lt_succ, Nat.mul_one, Nat.one_mul, Int.toNat_natCast, Int.toNat_zero, Int.toNat_one, Nat.zero_mul, ylen22, ylen36, ylen40, ylen51, ylen61, ylen73, ylen90, ylen112, ylen139, ylen9, yalloc24, yalloc29, yalloc64, yalloc75, yalloc108, yalloc114, yalloc120, yalloc127, yalloc133, yalloc141, ybs22, ybs22_2, ybs36, ybs61, ybs73, ybs40, ybs40_2, ybs51, ybs51_2, ybs112, ystore2, ystore3, ystore5, ystore4, ystore22, ystore36, ystore40, ystore51, ystore61, ystore73, ystore112, ystore29, ystore24, ystore64, ystore75, ystore108, ystore114, ystore120, ystore127, ystore133, ystore141, ybuild29_, ybuild29_0i, ybuild29_0i1i, ybuild29_0i2i, ybuild29_0i1i2i, ybuild24_, ybuild24_0s, ybuild24_1i, ybuild64_, ybuild64_0i, ybuild64_0i1i, ybuild75_, ybuild75_0i1i2i3i, ybuild108_, ybuild108_0i1i2s, ybuild118_0i2i, ybuild114_2s4i, ybuild100, ybuild120, ybuild127, ybuild141, ybuild141_0, ybuild148, ybuild91, yfld108_0, yfld133_2]
      · simp -implicitDefEqProofs only [chkL_nil, chkL_same, aBin_add, aBin_sub, aBin_mul, aBin_lss, aBin_leq, aBin_gtr, aBin_geq, aBin_eql, aBin_neq, cvInt_int, asB_bool, gdv_bool, jn_inl, jn_inr, Option.bind_some, Option.map_some, Option.bind_none, Option.map_none, ptrTo_at, slTo_at, nilC_at, ptrAdd_at, aUn_not, aUn_neg, aExtract_at, idxSl_at, idxPtr_at, ldOne_ptr, ldAgg_ptr, new_m, new_next, put_m, put_next, kill_m, kill_next, nBox_agg, nBox_int, bft, btf, btt, bff, updL_nil', updL_cons', upd_same, upd_ne, T0_at, if_true, if_false, ite_true, ite_false, Bool.false_eq_true, Bool.true_eq_false, decide_true, decide_false, Bool.not_true, Bool.not_false, beq_self_eq_true, Nat.zero_add, Nat.add_zero, Nat.reduceAdd, Nat.reduceMul, Nat.reduceLT, Nat.reduceLeDiff, Nat.reduceEqDiff, Nat.reduceBEq, Nat.left_eq_add, Nat.add_eq_left, Nat.add_left_cancel_iff, reduceCtorEq, Int.reduceLT, Int.reduceLE, Int.reduceEq, Int.reduceGT, Int.reduceGE, Int.reduceToNat, Int.reduceNeg, List.getElem?_cons_zero, List.getElem?_cons_succ, List.getD_cons_zero, List.getD_cons_succ, List.getD_nil, List.length_cons, List.length_nil, List.drop_zero, List.drop_succ_cons, List.take_succ_cons, List.take_zero, List.set_cons_zero, List.set_cons_succ, List.cons_append, List.nil_append, and_self, and_true, true_and, not_true_eq_false, not_false_eq_true, Nat.le_refl, Nat.lt_irrefl, Nat.zero_lt_succ, Nat.mul_one, Nat.one_mul, Int.toNat_natCast, Int.toNat_zero, Int.toNat_one, Nat.zero_mul, ylen22, ylen36, ylen40, ylen51, ylen61, ylen73, ylen90, ylen112, ylen139, ylen9, yalloc24, yalloc29, yalloc64, yalloc75, yalloc108, yalloc114, yalloc120, yalloc127, yalloc133, yalloc141, ybs22, ybs22_2, ybs36, ybs61, ybs73, ybs40, ybs40_2, ybs51, ybs51_2, ybs112, ystore2, ystore3, ystore5, ystore4, ystore22, ystore36, ystore40, ystore51, ystore61, ystore73, ystore112, ystore29, ystore24, ystore64, ystore75, ystore108, ystore114, ystore120, ystore127, ystore133, ystore141, ybuild29_, ybuild29_0i, ybuild29_0i1i, ybuild29_0i2i, ybuild29_0i1i2i, ybuild24_, ybuild24_0s, ybuild24_1i, ybuild64_, ybuild64_0i, ybuild64_0i1i, ybuild75_, ybuild75_0i1i2i3i, ybuild108_, ybuild108_0i1i2s, ybuild118_0i2i, ybuild114_2s4i, ybuild100, ybuild120, ybuild127, ybuild141, ybuild141_0, ybuild148, ybuild91, yfld108_0, yfld133_2]
        rfl
      · simp -implicitDefEqProofs only [chkL_nil, chkL_same, aBin_add, aBin_sub, aBin_mul, aBin_lss, aBin_leq, aBin_gtr, aBin_geq, aBin_eql, aBin_neq, cvInt_int, asB_bool, gdv_bool, jn_inl, jn_inr, Option.bind_some, Option.map_some, Option.bind_none, Option.map_none, ptrTo_at, slTo_at, nilC_at, ptrAdd_at, aUn_not, aUn_neg, aExtract_at, idxSl_at, idxPtr_at, ldOne_ptr, ldAgg_ptr, new_m, new_next, put_m, put_next, kill_m, kill_next, nBox_agg, nBox_int, bft, btf, btt, bff, updL_nil', updL_cons', upd_same, upd_ne, T0_at, if_true, if_false, ite_true, ite_false, Bool.false_eq_true, Bool.true_eq_false, decide_true, decide_false, Bool.not_true, Bool.not_false, beq_self_eq_true, Nat.zero_add, Nat.add_zero, Nat.reduceAdd, Nat.reduceMul, Nat.reduceLT, Nat.reduceLeDiff, Nat.reduceEqDiff, Nat.reduceBEq, Nat.left_eq_add, Nat.add_eq_left, Nat.add_left_cancel_iff, reduceCtorEq, Int.reduceLT, Int.reduceLE, Int.reduceEq, Int.reduceGT, Int.reduceGE, Int.reduceToNat, Int.reduceNeg, List.getElem?_cons_zero, List.getElem?_cons_succ, List.getD_cons_zero, List.getD_cons_succ, List.getD_nil, List.length_cons, List.length_nil, List.drop_zero, List.drop_succ_cons, List.take_succ_cons, List.take_zero, List.set_cons_zero, List.set_cons_succ, List.cons_append, List.nil_append, and_self, and_true, true_and, not_true_eq_false, not_false_eq_true, Nat.le_refl, Nat.lt_irrefl, Nat.zero_lt_succ, Nat.mul_one, Nat.one_mul, Int.toNat_natCast, Int.toNat_zero, Int.toNat_one, Nat.zero_mul, ylen22, ylen36, ylen40, ylen51, ylen61, ylen73, ylen90, ylen112, ylen139, ylen9, yalloc24, yalloc29, yalloc64, yalloc75, yalloc108, yalloc114, yalloc120, yalloc127, yalloc133, yalloc141, ybs22, ybs22_2, ybs36, ybs61, ybs73, ybs40, ybs40_2, ybs51, ybs51_2, ybs112, ystore2, ystore3, ystore5, ystore4, ystore22, ystore36, ystore40, ystore51, ystore61, ystore73, ystore112, ystore29, ystore24, ystore64, ystore75, ystore108, ystore114, ystore120, ystore127, ystore133, ystore141, ybuild29_, ybuild29_0i, ybuild29_0i1i, ybuild29_0i2i, ybuild29_0i1i2i, ybuild24_, ybuild24_0s, ybuild24_1i, ybuild64_, ybuild64_0i, ybuild64_0i1i, ybuild75_, ybuild75_0i1i2i3i, ybuild108_, ybuild108_0i1i2s, ybuild118_0i2i, ybuild114_2s4i, ybuild100, ybuild120, ybuild127, ybuild141, ybuild141_0, ybuild148, ybuild91, yfld108_0, yfld133_2]
        rfl
    · rintro i ⟨T, H1⟩ hi ⟨t1, t3, t4, hH⟩
      simp only at t1 t3 t4 hH
      subst hH
      obtain ⟨p, o, e1, e2, _⟩ := (hrow.mono (hx.sub hw)).at (i := i) (by simpa using hi)
      have hii := hok l[i] (List.getElem_mem _)
      have hin : insC l[i] = [.int .i64 l[i].op, .int .i64 l[i].n, .int .i64 l[i].m] := rfl
      simp only [List.getElem_map] at e2
      rw [hin] at e2
      obtain ⟨x, e, hx1, hx2⟩ := lineAV_T l[i]
      have h63 := RT_63 d (op := l[i].op) hii.n hii.m (hT.ext hx hT.two)
      have hcmp : decide (((i : Nat) : Int) < ((l.length : Nat) : Int)) = true := decide_eq_true (by omega)
      unfold F21_L1
      simp -implicitDefEqProofs only [chkL_nil, chkL_same, aBin_add, aBin_sub, aBin_mul, aBin_lss, aBin_leq, aBin_gtr, aBin_geq, aBin_eql, aBin_neq, cvInt_int, asB_bool, gdv_bool, jn_inl, jn_inr, Option.bind_some, Option.map_some, Option.bind_none, Option.map_none, ptrTo_at, slTo_at, nilC_at, ptrAdd_at, aUn_not, aUn_neg, aExtract_at, idxSl_at, idxPtr_at, ldOne_ptr, ldAgg_ptr, new_m, new_next, put_m, put_next, kill_m, kill_next, nBox_agg, nBox_int, bft, btf, btt, bff, updL_nil', updL_cons', upd_same, upd_ne, T0_at, if_true, if_false, ite_true, ite_false, Bool.false_eq_true, Bool.true_eq_false, decide_true, decide_false, Bool.not_true, Bool.not_false, beq_self_eq_true, Nat.zero_add, Nat.add_zero, Nat.reduceAdd, Nat.reduceMul, Nat.reduceLT, Nat.reduceLeDiff, Nat.reduceEqDiff, Nat.reduceBEq, Nat.left_eq_add, Nat.add_eq_left, Nat.add_left_cancel_iff, reduceCtorEq, Int.reduceLT, Int.reduceLE, Int.reduceEq, Int.reduceGT, Int.reduceGE, Int.reduceToNat, Int.reduceNeg, List.getElem?_cons_zero, List.getElem?_cons_succ, List.getD_cons_zero, List.getD_cons_succ, List.getD_nil, List.length_cons, List.length_nil, List.drop_zero, List.drop_succ_cons, List.take_succ_cons, List.take_zero, List.set_cons_zero, List.set_cons_succ, List.cons_append, List.nil_append, and_self, and_true, true_and, not_true_eq_false, not_false_eq_true, Nat.le_refl, Nat.lt_irrefl, Nat.zero_lt_succ, Nat.mul_one, Nat.one_mul, Int.toNat_natCast, Int.toNat_zero, Int.toNat_one, Nat.zero_mul, ylen22, ylen36, ylen40, ylen51, ylen61, ylen73, ylen90, ylen112, ylen139, ylen9, yalloc24, yalloc29, yalloc64, yalloc75, yalloc108, yalloc114, yalloc120, yalloc127, yalloc133, yalloc141, ybs22, ybs22_2, ybs36, ybs61, ybs73, ybs40, ybs40_2, ybs51, ybs51_2, ybs112, ystore2, ystore3, ystore5, ystore4, ystore22, ystore36, ystore40, ystore51, ystore61, ystore73, ystore112, ystore29, ystore24, ystore64, ystore75, ystore108, ystore114, ystore120, ystore127, ystore133, ystore141, ybuild29_, ybuild29_0i, ybuild29_0i1i, ybuild29_0i2i, ybuild29_0i1i2i, ybuild24_, ybuild24_0s, ybuild24_1i, ybuild64_, ybuild64_0i, ybuild64_0i1i, ybuild75_, ybuild75_0i1i2i3i, ybuild108_, ybuild108_0i1i2s, ybuild118_0i2i, ybuild114_2s4i, ybuild100, ybuild120, ybuild127, ybuild141, ybuild141_0, ybuild148, ybuild91, yfld108_0, yfld133_2, t1, t3, t4, hs, e1, e2, hcmp, h63, hx1]
      by_cases he : e = 0
      · simp -implicitDefEqProofs only [chkL_nil, chkL_same, aBin_add, aBin_sub, aBin_mul, aBin_lss, aBin_leq, aBin_gtr, aBin_geq, aBin_eql, aBin_neq, cvInt_int, asB_bool, gdv_bool, jn_inl, jn_inr, Option.bind_some, Option.map_some, Option.bind_none, Option.map_none, ptrTo_at, slTo_at, nilC_at, ptrAdd_at, aUn_not, aUn_neg, aExtract_at, idxSl_at, idxPtr_at, ldOne_ptr, ldAgg_ptr, new_m, new_next, put_m, put_next, kill_m, kill_next, nBox_agg, nBox_int, bft, btf, btt, bff, updL_nil', updL_cons', upd_same, upd_ne, T0_at, if_true, if_false, ite_true, ite_false, Bool.false_eq_true, Bool.true_eq_false, decide_true, decide_false, Bool.not_true, Bool.not_false, beq_self_eq_true, Nat.zero_add, Nat.add_zero, Nat.reduceAdd, Nat.reduceMul, Nat.reduceLT, Nat.reduceLeDiff, Nat.reduceEqDiff, Nat.reduceBEq, Nat.left_eq_add, Nat.add_eq_left, Nat.add_left_cancel_iff, reduceCtorEq, Int.reduceLT, Int.reduceLE, Int.reduceEq, Int.reduceGT, Int.reduceGE, Int.reduceToNat, Int.reduceNeg, List.getElem?_cons_zero, List.getElem?_cons_succ, List.getD_cons_zero, List.getD_cons_succ, List.getD_nil, List.length_cons, List.length_nil, List.drop_zero, List.drop_succ_cons, List.take_succ_cons, List.take_zero, List.set_cons_zero, List.set_cons_succ, List.cons_append, List.nil_append, and_self, and_true, true_and, not_true_eq_false, not_false_eq_true, Nat.le_refl, Nat.lt_irrefl, Nat.zero_lt_succ, Nat.mul_one, Nat.one_mul, Int.toNat_natCast, Int.toNat_zero, Int.toNat_one, Nat.zero_mul, ylen22, ylen36, ylen40, ylen51, ylen61, ylen73, ylen90, ylen112, ylen139, ylen9, yalloc24, yalloc29, yalloc64, yalloc75, yalloc108, yalloc114, yalloc120, yalloc127, yalloc133, yalloc141, ybs22, ybs22_2, ybs36, ybs61, ybs73, ybs40, ybs40_2, ybs51, ybs51_2, ybs112, ystore2, ystore3, ystore5, ystore4, ystore22, ystore36, ystore40, ystore51, ystore61, ystore73, ystore112, ystore29, ystore24, ystore64, ystore75, ystore108, ystore114, ystore120, ystore127, ystore133, ystore141, ybuild29_, ybuild29_0i, ybuild29_0i1i, ybuild29_0i2i, ybuild29_0i1i2i, ybuild24_, ybuild24_0s, ybuild24_1i, ybuild64_, ybuild64_0i, ybuild64_0i1i, ybuild75_, ybuild75_0i1i2i3i, ybuild108_, ybuild108_0i1i2s, ybuild118_0i2i, ybuild114_2s4i, ybuild100, ybuild120, ybuild127, ybuild141, ybuild141_0, ybuild148, ybuild91, yfld108_0, yfld133_2, decide_eq_true he]
        rw [if_pos he] at hx2
        refine (ref_tail d hlen hi ⟨?_, ?_, ?_, rfl⟩ ?_).mono fun r h => .inl h
        · simp -implicitDefEqProofs only [chkL_nil, chkL_same, aBin_add, aBin_sub, aBin_mul, aBin_lss, aBin_leq, aBin_gtr, aBin_geq, aBin_eql, aBin_neq, cvInt_int, asB_bool, gdv_bool, jn_inl, jn_inr, Option.bind_some, Option.map_some, Option.bind_none, Option.map_none, ptrTo_at, slTo_at, nilC_at, ptrAdd_at, aUn_not, aUn_neg, aExtract_at, idxSl_at, idxPtr_at, ldOne_ptr, ldAgg_ptr, new_m, new_next, put_m, put_next, kill_m, kill_next, nBox_agg, nBox_int, bft, btf, btt, bff, updL_nil', updL_cons', upd_same, upd_ne, T0_at, if_true, if_false, ite_true, ite_false, Bool.false_eq_true, Bool.true_eq_false, decide_true, decide_false, Bool.not_true, Bool.not_false, beq_self_eq_true, Nat.zero_add, Nat.add_zero, Nat.reduceAdd, Nat.reduceMul, Nat.reduceLT, Nat.reduceLeDiff, Nat.reduceEqDiff, Nat.reduceBEq, Nat.left_eq_add, Nat.add_eq_left, Nat.add_left_cancel_iff, reduceCtorEq, Int.reduceLT, Int.reduceLE, Int.reduceEq, Int.reduceGT, Int.reduceGE, Int.reduceToNat, Int.reduceNeg, List.getElem?_cons_zero, List.getElem?_cons_succ, List.getD_cons_zero, List.getD_cons_succ, List.getD_nil, List.length_cons, List.length_nil, List.drop_zero, List.drop_succ_cons, List.take_succ_cons, List.take_zero, List.set_cons_zero, List.set_cons_succ, List.cons_append, List.nil_append, and_self, and_true, true_and, not_true_eq_false, not_false_eq_true, Nat.le_refl, Nat.lt_irrefl, Nat.zero_lt_succ, Nat.mul_one, Nat.one_mul, Int.toNat_natCast, Int.toNat_zero, Int.toNat_one, Nat.zero_mul, ylen22, ylen36, ylen40, ylen51, ylen61, ylen73, ylen90, ylen112, ylen139, ylen9, yalloc24, yalloc29, yalloc64, yalloc75, yalloc108, yalloc114, yalloc120, yalloc127, yalloc133, yalloc141, ybs22, ybs22_2, ybs36, ybs61, ybs73, ybs40, ybs40_2, ybs51, ybs51_2, ybs112, ystore2, ystore3, ystore5, ystore4, ystore22, ystore36, ystore40, ystore51, ystore61, ystore73, ystore112, ystore29, ystore24, ystore64, ystore75, ystore108, ystore114, ystore120, ystore127, ystore133, ystore141, ybuild29_, ybuild29_0i, ybuild29_0i1i, ybuild29_0i2i, ybuild29_0i1i2i, ybuild24_, ybuild24_0s, ybuild24_1i, ybuild64_, ybuild64_0i, ybuild64_0i1i, ybuild75_, ybuild75_0i1i2i3i, ybuild108_, ybuild108_0i1i2s, ybuild118_0i2i, ybuild114_2s4i, ybuild100, ybuild120, ybuild127, ybuild141, ybuild141_0, ybuild148, ybuild91, yfld108_0, yfld133_2, t1]
        · simp -implicitDefEqProofs only [chkL_nil, chkL_same, aBin_add, aBin_sub, aBin_mul, aBin_lss, aBin_leq, aBin_gtr, aBin_geq, aBin_eql, aBin_neq, cvInt_int, asB_bool, gdv_bool, jn_inl, jn_inr, Option.bind_some, Option.map_some, Option.bind_none, Option.map_none, ptrTo_at, slTo_at, nilC_at, ptrAdd_at, aUn_not, aUn_neg, aExtract_at, idxSl_at, idxPtr_at, ldOne_ptr, ldAgg_ptr, new_m, new_next, put_m, put_next, kill_m, kill_next, nBox_agg, nBox_int, bft, btf, btt, bff, updL_nil', updL_cons', upd_same, upd_ne, T0_at, if_true, if_false, ite_true, ite_false, Bool.false_eq_true, Bool.true_eq_false, decide_true, decide_false, Bool.not_true, Bool.not_false, beq_self_eq_true, Nat.zero_add, Nat.add_zero, Nat.reduceAdd, Nat.reduceMul, Nat.reduceLT, Nat.reduceLeDiff, Nat.reduceEqDiff, Nat.reduceBEq, Nat.left_eq_add, Nat.add_eq_left, Nat.add_left_cancel_iff, reduceCtorEq, Int.reduceLT, Int.reduceLE, Int.reduceEq, Int.reduceGT, Int.reduceGE, Int.reduceToNat, Int.reduceNeg, List.getElem?_cons_zero, List.getElem?_cons_succ, List.getD_cons_zero, List.getD_cons_succ, List.getD_nil, List.length_cons, List.length_nil, List.drop_zero, List.drop_succ_cons, List.take_succ_cons, List.take_zero, List.set_cons_zero, List.set_cons_succ, List.cons_append, List.nil_append, and_self, and_true, true_and, not_true_eq_false, not_false_eq_true, Nat.le_refl, Nat.lt_irrefl, Nat.zero_lt_succ, Nat.mul_one, Nat.one_mul, Int.toNat_natCast, Int.toNat_zero, Int.toNat_one, Nat.zero_mul, ylen22, ylen36, ylen40, ylen51, ylen61, ylen73, ylen90, ylen112, ylen139, ylen9, yalloc24, yalloc29, yalloc64, yalloc75, yalloc108, yalloc114, yalloc120, yalloc127, yalloc133, yalloc141, ybs22, ybs22_2, ybs36, ybs61, ybs73, ybs40, ybs40_2, ybs51, ybs51_2, ybs112, ystore2, ystore3, ystore5, ystore4, ystore22, ystore36, ystore40, ystore51, ystore61, ystore73, ystore112, ystore29, ystore24, ystore64, ystore75, ystore108, ystore114, ystore120, ystore127, ystore133, ystore141, ybuild29_, ybuild29_0i, ybuild29_0i1i, ybuild29_0i2i, ybuild29_0i1i2i, ybuild24_, ybuild24_0s, ybuild24_1i, ybuild64_, ybuild64_0i, ybuild64_0i1i, ybuild75_, ybuild75_0i1i2i3i, ybuild108_, ybuild108_0i1i2s, ybuild118_0i2i, ybuild114_2s4i, ybuild100, ybuild120, ybuild127, ybuild141, ybuild141_0, ybuild148, ybuild91, yfld108_0, yfld133_2, t3]
        · simp -implicitDefEqProofs only [chkL_nil, chkL_same, aBin_add, aBin_sub, aBin_mul, aBin_lss, aBin_leq, aBin_gtr, aBin_geq, aBin_eql, aBin_neq, cvInt_int, asB_bool, gdv_bool, jn_inl, jn_inr, Option.bind_some, Option.map_some, Option.bind_none, Option.map_none, ptrTo_at, slTo_at, nilC_at, ptrAdd_at, aUn_not, aUn_neg, aExtract_at, idxSl_at, idxPtr_at, ldOne_ptr, ldAgg_ptr, new_m, new_next, put_m, put_next, kill_m, kill_next, nBox_agg, nBox_int, bft, btf, btt, bff, updL_nil', updL_cons', upd_same, upd_ne, T0_at, if_true, if_false, ite_true, ite_false, Bool.false_eq_true, Bool.true_eq_false, decide_true, decide_false, Bool.not_true, Bool.not_false, beq_self_eq_true, Nat.zero_add, Nat.add_zero, Nat.reduceAdd, Nat.reduceMul, Nat.reduceLT, Nat.reduceLeDiff, Nat.reduceEqDiff, Nat.reduceBEq, Nat.left_eq_add, Nat.add_eq_left, Nat.add_left_cancel_iff, reduceCtorEq, Int.reduceLT, Int.reduceLE, Int.reduceEq, Int.reduceGT, Int.reduceGE, Int.reduceToNat, Int.reduceNeg, List.getElem?_cons_zero, List.getElem?_cons_succ, List.getD_cons_zero, List.getD_cons_succ, List.getD_nil, List.length_cons, List.length_nil, List.drop_zero, List.drop_succ_cons, List.take_succ_cons, List.take_zero, List.set_cons_zero, List.set_cons_succ, List.cons_append, List.nil_append, and_self, and_true, true_and, not_true_eq_false, not_false_eq_true, Nat.le_refl, Nat.lt_irrefl, Nat.zero_lt_succ, Nat.mul_one, Nat.one_mul, Int.toNat_natCast, Int.toNat_zero, Int.toNat_one, Nat.zero_mul, ylen22, ylen36, ylen40, ylen51, ylen61, ylen73, ylen90, ylen112, ylen139, ylen9, yalloc24, yalloc29, yalloc64, yalloc75, yalloc108, yalloc114, yalloc120, yalloc127, yalloc133, yalloc141, ybs22, ybs22_2, ybs36, ybs61, ybs73, ybs40, ybs40_2, ybs51, ybs51_2, ybs112, ystore2, ystore3, ystore5, ystore4, ystore22, ystore36, ystore40, ystore51, ystore61, ystore73, ystore112, ystore29, ystore24, ystore64, ystore75, ystore108, ystore114, ystore120, ystore127, ystore133, ystore141, ybuild29_, ybuild29_0i, ybuild29_0i1i, ybuild29_0i2i, ybuild29_0i1i2i, ybuild24_, ybuild24_0s, ybuild24_1i, ybuild64_, ybuild64_0i, ybuild64_0i1i, ybuild75_, ybuild75_0i1i2i3i, ybuild108_, ybuild108_0i1i2s, ybuild118_0i2i, ybuild114_2s4i, ybuild100, ybuild120, ybuild127, ybuild141, ybuild141_0, ybuild148, ybuild91, yfld108_0, yfld133_2, t4]
        · simp -implicitDefEqProofs only [chkL_nil, chkL_same, aBin_add, aBin_sub, aBin_mul, aBin_lss, aBin_leq, aBin_gtr, aBin_geq, aBin_eql, aBin_neq, cvInt_int, asB_bool, gdv_bool, jn_inl, jn_inr, Option.bind_some, Option.map_some, Option.bind_none, Option.map_none, ptrTo_at, slTo_at, nilC_at, ptrAdd_at, aUn_not, aUn_neg, aExtract_at, idxSl_at, idxPtr_at, ldOne_ptr, ldAgg_ptr, new_m, new_next, put_m, put_next, kill_m, kill_next, nBox_agg, nBox_int, bft, btf, btt, bff, updL_nil', updL_cons', upd_same, upd_ne, T0_at, if_true, if_false, ite_true, ite_false, Bool.false_eq_true, Bool.true_eq_false, decide_true, decide_false, Bool.not_true, Bool.not_false, beq_self_eq_true, Nat.zero_add, Nat.add_zero, Nat.reduceAdd, Nat.reduceMul, Nat.reduceLT, Nat.reduceLeDiff, Nat.reduceEqDiff, Nat.reduceBEq, Nat.left_eq_add, Nat.add_eq_left, Nat.add_left_cancel_iff, reduceCtorEq, Int.reduceLT, Int.reduceLE, Int.reduceEq, Int.reduceGT, Int.reduceGE, Int.reduceToNat, Int.reduceNeg, List.getElem?_cons_zero, List.getElem?_cons_succ, List.getD_cons_zero, List.getD_cons_succ, List.getD_nil, List.length_cons, List.length_nil, List.drop_zero, List.drop_succ_cons, List.take_succ_cons, List.take_zero, List.set_cons_zero, List.set_cons_succ, List.cons_append, List.nil_append, and_self, and_true, true_and, not_true_eq_false, not_false_eq_true, Nat.le_refl, Nat.lt_irrefl, Nat.zero_lt_succ, Nat.mul_one, Nat.one_mul, Int.toNat_natCast, Int.toNat_zero, Int.toNat_one, Nat.zero_mul, ylen22, ylen36, ylen40, ylen51, ylen61, ylen73, ylen90, ylen112, ylen139, ylen9, yalloc24, yalloc29, yalloc64, yalloc75, yalloc108, yalloc114, yalloc120, yalloc127, yalloc133, yalloc141, ybs22, ybs22_2, ybs36, ybs61, ybs73, ybs40, ybs40_2, ybs51, ybs51_2, ybs112, ystore2, ystore3, ystore5, ystore4, ystore22, ystore36, ystore40, ystore51, ystore61, ystore73, ystore112, ystore29, ystore24, ystore64, ystore75, ystore108, ystore114, ystore120, ystore127, ystore133, ystore141, ybuild29_, ybuild29_0i, ybuild29_0i1i, ybuild29_0i2i, ybuild29_0i1i2i, ybuild24_, ybuild24_0s, ybuild24_1i, ybuild64_, ybuild64_0i, ybuild64_0i1i, ybuild75_, ybuild75_0i1i2i3i, ybuild108_, ybuild108_0i1i2s, ybuild118_0i2i, ybuild114_2s4i, ybuild100, ybuild120, ybuild127, ybuild141, ybuild141_0, ybuild148, ybuild91, yfld108_0, yfld133_2, hx2]
      · simp -implicitDefEqProofs only [chkL_nil, chkL_same, aBin_add, aBin_sub, aBin_mul, aBin_lss, aBin_leq, aBin_gtr, aBin_geq, aBin_eql, aBin_neq, cvInt_int, asB_bool, gdv_bool, jn_inl, jn_inr, Option.bind_some, Option.map_some, Option.bind_none, Option.map_none, ptrTo_at, slTo_at, nilC_at, ptrAdd_at, aUn_not, aUn_neg, aExtract_at, idxSl_at, idxPtr_at, ldOne_ptr, ldAgg_ptr, new_m, new_next, put_m, put_next, kill_m, kill_next, nBox_agg, nBox_int, bft, btf, btt, bff, updL_nil', updL_cons', upd_same, upd_ne, T0_at, if_true, if_false, ite_true, ite_false, Bool.false_eq_true, Bool.true_eq_false, decide_true, decide_false, Bool.not_true, Bool.not_false, beq_self_eq_true, Nat.zero_add, Nat.add_zero, Nat.reduceAdd, Nat.reduceMul, Nat.reduceLT, Nat.reduceLeDiff, Nat.reduceEqDiff, Nat.reduceBEq, Nat.left_eq_add, Nat.add_eq_left, Nat.add_left_cancel_iff, reduceCtorEq, Int.reduceLT, Int.reduceLE, Int.reduceEq, Int.reduceGT, Int.reduceGE, Int.reduceToNat, Int.reduceNeg, List.getElem?_cons_zero, List.getElem?_cons_succ, List.getD_cons_zero, List.getD_cons_succ, List.getD_nil, List.length_cons, List.length_nil, List.drop_zero, List.drop_succ_cons, List.take_succ_cons, List.take_zero, List.set_cons_zero, List.set_cons_succ, List.cons_append, List.nil_append, and_self, and_true, true_and, not_true_eq_false, not_false_eq_true, Nat.le_refl, Nat.lt_irrefl, Nat.zero_lt_succ, Nat.mul_one, Nat.one_mul, Int.toNat_natCast, Int.toNat_zero, Int.toNat_one, Nat.zero_mul, ylen22, ylen36, ylen40, ylen51, ylen61, ylen73, ylen90, ylen112, ylen139, ylen9, yalloc24, yalloc29, yalloc64, yalloc75, yalloc108, yalloc114, yalloc120, yalloc127, yalloc133, yalloc141, ybs22, ybs22_2, ybs36, ybs61, ybs73, ybs40, ybs40_2, ybs51, ybs51_2, ybs112, ystore2, ystore3, ystore5, ystore4, ystore22, ystore36, ystore40, ystore51, ystore61, ystore73, ystore112, ystore29, ystore24, ystore64, ystore75, ystore108, ystore114, ystore120, ystore127, ystore133, ystore141, ybuild29_, ybuild29_0i, ybuild29_0i1i, ybuild29_0i2i, ybuild29_0i1i2i, ybuild24_, ybuild24_0s, ybuild24_1i, ybuild64_, ybuild64_0i, ybuild64_0i1i, ybuild75_, ybuild75_0i1i2i3i, ybuild108_, ybuild108_0i1i2s, ybuild118_0i2i, ybuild114_2s4i, ybuild100, ybuild120, ybuild127, ybuild141, ybuild141_0, ybuild148, ybuild91, yfld108_0, yfld133_2, decide_eq_false he]
        rw [if_neg he] at hx2
        refine (ref_tail d hlen hi ⟨?_, ?_, ?_, rfl⟩ ?_).mono fun r h => .inl h
        · simp -implicitDefEqProofs only [chkL_nil, chkL_same, aBin_add, aBin_sub, aBin_mul, aBin_lss, aBin_leq, aBin_gtr, aBin_geq, aBin_eql, aBin_neq, cvInt_int, asB_bool, gdv_bool, jn_inl, jn_inr, Option.bind_some, Option.map_some, Option.bind_none, Option.map_none, ptrTo_at, slTo_at, nilC_at, ptrAdd_at, aUn_not, aUn_neg, aExtract_at, idxSl_at, idxPtr_at, ldOne_ptr, ldAgg_ptr, new_m, new_next, put_m, put_next, kill_m, kill_next, nBox_agg, nBox_int, bft, btf, btt, bff, updL_nil', updL_cons', upd_same, upd_ne, T0_at, if_true, if_false, ite_true, ite_false, Bool.false_eq_true, Bool.true_eq_false, decide_true, decide_false, Bool.not_true, Bool.not_false, beq_self_eq_true, Nat.zero_add, Nat.add_zero, Nat.reduceAdd, Nat.reduceMul, Nat.reduceLT, Nat.reduceLeDiff, Nat.reduceEqDiff, Nat.reduceBEq, Nat.left_eq_add, Nat.add_eq_left, Nat.add_left_cancel_iff, reduceCtorEq, Int.reduceLT, Int.reduceLE, Int.reduceEq, Int.reduceGT, Int.reduceGE, Int.reduceToNat, Int.reduceNeg, List.getElem?_cons_zero, List.getElem?_cons_succ, List.getD_cons_zero, List.getD_cons_succ, List.getD_nil, List.length_cons, List.length_nil, List.drop_zero, List.drop_succ_cons, List.take_succ_cons, List.take_zero, List.set_cons_zero, List.set_cons_succ, List.cons_append, List.nil_append, and_self, and_true, true_and, not_true_eq_false, not_false_eq_true, Nat.le_refl, Nat.lt_irrefl, Nat.zero_lt_succ, Nat.mul_one, Nat.one_mul, Int.toNat_natCast, Int.toNat_zero, Int.toNat_one, Nat.zero_mul, ylen22, ylen36, ylen40, ylen51, ylen61, ylen73, ylen90, ylen112, ylen139, ylen9, yalloc24, yalloc29, yalloc64, yalloc75, yalloc108, yalloc114, yalloc120, yalloc127, yalloc133, yalloc141, ybs22, ybs22_2, ybs36, ybs61, ybs73, ybs40, ybs40_2, ybs51, ybs51_2, ybs112, ystore2, ystore3, ystore5, ystore4, ystore22, ystore36, ystore40, ystore51, ystore61, ystore73, ystore112, ystore29, ystore24, ystore64, ystore75, ystore108, ystore114, ystore120, ystore127, ystore133, ystore141, ybuild29_, ybuild29_0i, ybuild29_0i1i, ybuild29_0i2i, ybuild29_0i1i2i, ybuild24_, ybuild24_0s, ybuild24_1i, ybuild64_, ybuild64_0i, ybuild64_0i1i, ybuild75_, ybuild75_0i1i2i3i, ybuild108_, ybuild108_0i1i2s, ybuild118_0i2i, ybuild114_2s4i, ybuild100, ybuild120, ybuild127, ybuild141, ybuild141_0, ybuild148, ybuild91, yfld108_0, yfld133_2, t1]
        · simp -implicitDefEqProofs only [chkL_nil, chkL_same, aBin_add, aBin_sub, aBin_mul, aBin_lss, aBin_leq, aBin_gtr, aBin_geq, aBin_eql, aBin_neq, cvInt_int, asB_bool, gdv_bool, jn_inl, jn_inr, Option.bind_some, Option.map_some, Option.bind_none, Option.map_none, ptrTo_at, slTo_at, nilC_at, ptrAdd_at, aUn_not, aUn_neg, aExtract_at, idxSl_at, idxPtr_at, ldOne_ptr, ldAgg_ptr, new_m, new_next, put_m, put_next, kill_m, kill_next, nBox_agg, nBox_int, bft, btf, btt, bff, updL_nil', updL_cons', upd_same, upd_ne, T0_at, if_true, if_false, ite_true, ite_false, Bool.false_eq_true, Bool.true_eq_false, decide_true, decide_false, Bool.not_true, Bool.not_false, beq_self_eq_true, Nat.zero_add, Nat.add_zero, Nat.reduceAdd, Nat.reduceMul, Nat.reduceLT, Nat.reduceLeDiff, Nat.reduceEqDiff, Nat.reduceBEq, Nat.left_eq_add, Nat.add_eq_left, Nat.add_left_cancel_iff, reduceCtorEq, Int.reduceLT, Int.reduceLE, Int.reduceEq, Int.reduceGT, Int.reduceGE, Int.reduceToNat, Int.reduceNeg, List.getElem?_cons_zero, List.getElem?_cons_succ, List.getD_cons_zero, List.getD_cons_succ, List.getD_nil, List.length_cons, List.length_nil, List.drop_zero, List.drop_succ_cons, List.take_succ_cons, List.take_zero, List.set_cons_zero, List.set_cons_succ, List.cons_append, List.nil_append, and_self, and_true, true_and, not_true_eq_false, not_false_eq_true, Nat.le_refl, Nat.lt_irrefl, Nat.zero_lt_succ, Nat.mul_one, Nat.one_mul, Int.toNat_natCast, Int.toNat_zero, Int.toNat_one, Nat.zero_mul, ylen22, ylen36, ylen40, ylen51, ylen61, ylen73, ylen90, ylen112, ylen139, ylen9, yalloc24, yalloc29, yalloc64, yalloc75, yalloc108, yalloc114, yalloc120, yalloc127, yalloc133, yalloc141, ybs22, ybs22_2, ybs36, ybs61, ybs73, ybs40, ybs40_2, ybs51, ybs51_2, ybs112, ystore2, ystore3, ystore5, ystore4, ystore22, ystore36, ystore40, ystore51, ystore61, ystore73, ystore112, ystore29, ystore24, ystore64, ystore75, ystore108, ystore114, ystore120, ystore127, ystore133, ystore141, ybuild29_, ybuild29_0i, ybuild29_0i1i, ybuild29_0i2i, ybuild29_0i1i2i, ybuild24_, ybuild24_0s, ybuild24_1i, ybuild64_, ybuild64_0i, ybuild64_0i1i, ybuild75_, ybuild75_0i1i2i3i, ybuild108_, ybuild108_0i1i2s, ybuild118_0i2i, ybuild114_2s4i, ybuild100, ybuild120, ybuild127, ybuild141, ybuild141_0, ybuild148, ybuild91, yfld108_0, yfld133_2, t3]
        · simp -implicitDefEqProofs only [chkL_nil, chkL_same, aBin_add, aBin_sub, aBin_mul, aBin_lss, aBin_leq, aBin_gtr, aBin_geq, aBin_eql, aBin_neq, cvInt_int, asB_bool, gdv_bool, jn_inl, jn_inr, Option.bind_some, Option.map_some, Option.bind_none, Option.map_none, ptrTo_at, slTo_at, nilC_at, ptrAdd_at, aUn_not, aUn_neg, aExtract_at, idxSl_at, idxPtr_at, ldOne_ptr, ldAgg_ptr, new_m, new_next, put_m, put_next, kill_m, kill_next, nBox_agg, nBox_int, bft, btf, btt, bff, updL_nil', updL_cons', upd_same, upd_ne, T0_at, if_true, if_false, ite_true, ite_false, Bool.false_eq_true, Bool.true_eq_false, decide_true, decide_false, Bool.not_true, Bool.not_false, beq_self_eq_true, Nat.zero_add, Nat.add_zero, Nat.reduceAdd, Nat.reduceMul, Nat.reduceLT, Nat.reduceLeDiff, Nat.reduceEqDiff, Nat.reduceBEq, Nat.left_eq_add, Nat.add_eq_left, Nat.add_left_cancel_iff, reduceCtorEq, Int.reduceLT, Int.reduceLE, Int.reduceEq, Int.reduceGT, Int.reduceGE, Int.reduceToNat, Int.reduceNeg, List.getElem?_cons_zero, List.getElem?_cons_succ, List.getD_cons_zero, List.getD_cons_succ, List.getD_nil, List.length_cons, List.length_nil, List.drop_zero, List.drop_succ_cons, List.take_succ_cons, List.take_zero, List.set_cons_zero, List.set_cons_succ, List.cons_append, List.nil_append, and_self, and_true, true_and, not_true_eq_false, not_false_eq_true, Nat.le_refl, Nat.lt_irrefl, Nat.zero_lt_succ, Nat.mul_one, Nat.one_mul, Int.toNat_natCast, Int.toNat_zero, Int.toNat_one, Nat.zero_mul, ylen22, ylen36, ylen40, ylen51, ylen61, ylen73, ylen90, ylen112, ylen139, ylen9, yalloc24, yalloc29, yalloc64, yalloc75, yalloc108, yalloc114, yalloc120, yalloc127, yalloc133, yalloc141, ybs22, ybs22_2, ybs36, ybs61, ybs73, ybs40, ybs40_2, ybs51, ybs51_2, ybs112, ystore2, ystore3, ystore5, ystore4, ystore22, ystore36, ystore40, ystore51, ystore61, ystore73, ystore112, ystore29, ystore24, ystore64, ystore75, ystore108, ystore114, ystore120, ystore127, ystore133, ystore141, ybuild29_, ybuild29_0i, ybuild29_0i1i, ybuild29_0i2i, ybuild29_0i1i2i, ybuild24_, ybuild24_0s, ybuild24_1i, ybuild64_, ybuild64_0i, ybuild64_0i1i, ybuild75_, ybuild75_0i1i2i3i, ybuild108_, ybuild108_0i1i2s, ybuild118_0i2i, ybuild114_2s4i, ybuild100, ybuild120, ybuild127, ybuild141, ybuild141_0, ybuild148, ybuild91, yfld108_0, yfld133_2, t4]
        · simp -implicitDefEqProofs only [chkL_nil, chkL_same, aBin_add, aBin_sub, aBin_mul, aBin_lss, aBin_leq, aBin_gtr, aBin_geq, aBin_eql, aBin_neq, cvInt_int, asB_bool, gdv_bool, jn_inl, jn_inr, Option.bind_some, Option.map_some, Option.bind_none, Option.map_none, ptrTo_at, slTo_at, nilC_at, ptrAdd_at, aUn_not, aUn_neg, aExtract_at, idxSl_at, idxPtr_at, ldOne_ptr, ldAgg_ptr, new_m, new_next, put_m, put_next, kill_m, kill_next, nBox_agg, nBox_int, bft, btf, btt, bff, updL_nil', updL_cons', upd_same, upd_ne, T0_at, if_true, if_false, ite_true, ite_false, Bool.false_eq_true, Bool.true_eq_false, decide_true, decide_false, Bool.not_true, Bool.not_false, beq_self_eq_true, Nat.zero_add, Nat.add_zero, Nat.reduceAdd, Nat.reduceMul, Nat.reduceLT, Nat.reduceLeDiff, Nat.reduceEqDiff, Nat.reduceBEq, Nat.left_eq_add, Nat.add_eq_left, Nat.add_left_cancel_iff, reduceCtorEq, Int.reduceLT, Int.reduceLE, Int.reduceEq, Int.reduceGT, Int.reduceGE, Int.reduceToNat, Int.reduceNeg, List.getElem?_cons_zero, List.getElem?_cons_succ, List.getD_cons_zero, List.getD_cons_succ, List.getD_nil, List.length_cons, List.length_nil, List.drop_zero, List.drop_succ_cons, List.take_succ_cons, List.take_zero, List.set_cons_zero, List.set_cons_succ, List.cons_append, List.nil_append, and_self, and_true, true_and, not_true_eq_false, not_false_eq_true, Nat.le_refl, Nat.lt_irrefl, Nat.zero_lt_succ, Nat.mul_one, Nat.one_mul, Int.toNat_natCast, Int.toNat_zero, Int.toNat_one, Nat.zero_mul, ylen22, ylen36, ylen40, ylen51, ylen61, ylen73, ylen90, ylen112, ylen139, ylen9, yalloc24, yalloc29, yalloc64, yalloc75, yalloc108, yalloc114, yalloc120, yalloc127, yalloc133, yalloc141, ybs22, ybs22_2, ybs36, ybs61, ybs73, ybs40, ybs40_2, ybs51, ybs51_2, ybs112, ystore2, ystore3, ystore5, ystore4, ystore22, ystore36, ystore40, ystore51, ystore61, ystore73, ystore112, ystore29, ystore24, ystore64, ystore75, ystore108, ystore114, ystore120, ystore127, ystore133, ystore141, ybuild29_, ybuild29_0i, ybuild29_0i1i, ybuild29_0i2i, ybuild29_0i1i2i, ybuild24_, ybuild24_0s, ybuild24_1i, ybuild64_, ybuild64_0i, ybuild64_0i1i, ybuild75_, ybuild75_0i1i2i3i, ybuild108_, ybuild108_0i1i2s, ybuild118_0i2i, ybuild114_2s4i, ybuild100, ybuild120, ybuild127, ybuild141, ybuild141_0, ybuild148, ybuild91, yfld108_0, yfld133_2, hx2]
    · rintro ⟨T, H1⟩ ⟨t1, t3, t4, hH⟩
      simp only at t1 t3 t4 hH
      subst hH
      rw [List.take_of_length_le (Nat.le_refl _)] at t3
      have hcmp : decide (((l.length : Nat) : Int) < ((l.length : Nat) : Int)) = false := decide_eq_false (by omega)
      unfold F21_L1
      simp -implicitDefEqProofs only [chkL_nil, chkL_same, aBin_add, aBin_sub, aBin_mul, aBin_lss, aBin_leq, aBin_gtr, aBin_geq, aBin_eql, aBin_neq, cvInt_int, asB_bool, gdv_bool, jn_inl, jn_inr, Option.bind_some, Option.map_some, Option.bind_none, Option.map_none, ptrTo_at, slTo_at, nilC_at, ptrAdd_at, aUn_not, aUn_neg, aExtract_at, idxSl_at, idxPtr_at, ldOne_ptr, ldAgg_ptr, new_m, new_next, put_m, put_next, kill_m, kill_next, nBox_agg, nBox_int, bft, btf, btt, bff, updL_nil', updL_cons', upd_same, upd_ne, T0_at, if_true, if_false, ite_true, ite_false, Bool.false_eq_true, Bool.true_eq_false, decide_true, decide_false, Bool.not_true, Bool.not_false, beq_self_eq_true, Nat.zero_add, Nat.add_zero, Nat.reduceAdd, Nat.reduceMul, Nat.reduceLT, Nat.reduceLeDiff, Nat.reduceEqDiff, Nat.reduceBEq, Nat.left_eq_add, Nat.add_eq_left, Nat.add_left_cancel_iff, reduceCtorEq, Int.reduceLT, Int.reduceLE, Int.reduceEq, Int.reduceGT, Int.reduceGE, Int.reduceToNat, Int.reduceNeg, List.getElem?_cons_zero, List.getElem?_cons_succ, List.getD_cons_zero, List.getD_cons_succ, List.getD_nil, List.length_cons, List.length_nil, List.drop_zero, List.drop_succ_cons, List.take_succ_cons, List.take_zero, List.set_cons_zero, List.set_cons_succ, List.cons_append, List.nil_append, and_self, and_true, true_and, not_true_eq_false, not_false_eq_true, Nat.le_refl, Nat.lt_irrefl, Nat.zero_lt_succ, Nat.mul_one, Nat.one_mul, Int.toNat_natCast, Int.toNat_zero, Int.toNat_one, Nat.zero_mul, ylen22, ylen36, ylen40, ylen51, ylen61, ylen73, ylen90, ylen112, ylen139, ylen9, yalloc24, yalloc29, yalloc64, yalloc75, yalloc108, yalloc114, yalloc120, yalloc127, yalloc133, yalloc141, ybs22, ybs22_2, ybs36, ybs61, ybs73, ybs40, ybs40_2, ybs51, ybs51_2, ybs112, ystore2, ystore3, ystore5, ystore4, ystore22, ystore36, ystore40, ystore51, ystore61, ystore73, ystore112, ystore29, ystore24, ystore64, ystore75, ystore108, ystore114, ystore120, ystore127, ystore133, ystore141, ybuild29_, ybuild29_0i, ybuild29_0i1i, ybuild29_0i2i, ybuild29_0i1i2i, ybuild24_, ybuild24_0s, ybuild24_1i, ybuild64_, ybuild64_0i, ybuild64_0i1i, ybuild75_, ybuild75_0i1i2i3i, ybuild108_, ybuild108_0i1i2s, ybuild118_0i2i, ybuild114_2s4i, ybuild100, ybuild120, ybuild127, ybuild141, ybuild141_0, ybuild148, ybuild91, yfld108_0, yfld133_2, t1, t4, hs, hcmp]
      refine .mk ⟨by simp, rfl, ?_, hx⟩
      simp -implicitDefEqProofs only [chkL_nil, chkL_same, aBin_add, aBin_sub, aBin_mul, aBin_lss, aBin_leq, aBin_gtr, aBin_geq, aBin_eql, aBin_neq, cvInt_int, asB_bool, gdv_bool, jn_inl, jn_inr, Option.bind_some, Option.map_some, Option.bind_none, Option.map_none, ptrTo_at, slTo_at, nilC_at, ptrAdd_at, aUn_not, aUn_neg, aExtract_at, idxSl_at, idxPtr_at, ldOne_ptr, ldAgg_ptr, new_m, new_next, put_m, put_next, kill_m, kill_next, nBox_agg, nBox_int, bft, btf, btt, bff, updL_nil', updL_cons', upd_same, upd_ne, T0_at, if_true, if_false, ite_true, ite_false, Bool.false_eq_true, Bool.true_eq_false, decide_true, decide_false, Bool.not_true, Bool.not_false, beq_self_eq_true, Nat.zero_add, Nat.add_zero, Nat.reduceAdd, Nat.reduceMul, Nat.reduceLT, Nat.reduceLeDiff, Nat.reduceEqDiff, Nat.reduceBEq, Nat.left_eq_add, Nat.add_eq_left, Nat.add_left_cancel_iff, reduceCtorEq, Int.reduceLT, Int.reduceLE, Int.reduceEq, Int.reduceGT, Int.reduceGE, Int.reduceToNat, Int.reduceNeg, List.getElem?_cons_zero, List.getElem?_cons_succ, List.getD_cons_zero, List.getD_cons_succ, List.getD_nil, List.length_cons, List.length_nil, List.drop_zero, List.drop_succ_cons, List.take_succ_cons, List.take_zero, List.set_cons_zero, List.set_cons_succ, List.cons_append, List.nil_append, and_self, and_true, true_and, not_true_eq_false, not_false_eq_true, Nat.le_refl, Nat.lt_irrefl, Nat.zero_lt_succ, Nat.mul_one, Nat.one_mul, Int.toNat_natCast, Int.toNat_zero, Int.toNat_one, Nat.zero_mul, ylen22, ylen36, ylen40, ylen51, ylen61, ylen73, ylen90, ylen112, ylen139, ylen9, yalloc24, yalloc29, yalloc64, yalloc75, yalloc108, yalloc114, yalloc120, yalloc127, yalloc133, yalloc141, ybs22, ybs22_2, ybs36, ybs61, ybs73, ybs40, ybs40_2, ybs51, ybs51_2, ybs112, ystore2, ystore3, ystore5, ystore4, ystore22, ystore36, ystore40, ystore51, ystore61, ystore73, ystore112, ystore29, ystore24, ystore64, ystore75, ystore108, ystore114, ystore120, ystore127, ystore133, ystore141, ybuild29_, ybuild29_0i, ybuild29_0i1i, ybuild29_0i2i, ybuild29_0i1i2i, ybuild24_, ybuild24_0s, ybuild24_1i, ybuild64_, ybuild64_0i, ybuild64_0i1i, ybuild75_, ybuild75_0i1i2i3i, ybuild108_, ybuild108_0i1i2s, ybuild118_0i2i, ybuild114_2s4i, ybuild100, ybuild120, ybuild127, ybuild141, ybuild141_0, ybuild148, ybuild91, yfld108_0, yfld133_2, t3]
  · rintro ⟨e, T, H1⟩ ⟨he, h3, hx1⟩
    simp only at he h3 hx1
    subst he
    simp -implicitDefEqProofs only [chkL_nil, chkL_same, aBin_add, aBin_sub, aBin_mul, aBin_lss, aBin_leq, aBin_gtr, aBin_geq, aBin_eql, aBin_neq, cvInt_int, asB_bool, gdv_bool, jn_inl, jn_inr, Option.bind_some, Option.map_some, Option.bind_none, Option.map_none, ptrTo_at, slTo_at, nilC_at, ptrAdd_at, aUn_not, aUn_neg, aExtract_at, idxSl_at, idxPtr_at, ldOne_ptr, ldAgg_ptr, new_m, new_next, put_m, put_next, kill_m, kill_next, nBox_agg, nBox_int, bft, btf, btt, bff, updL_nil', updL_cons', upd_same, upd_ne, T0_at, if_true, if_false, ite_true, ite_false, Bool.false_eq_true, Bool.true_eq_false, decide_true, decide_false, Bool.not_true, Bool.not_false, beq_self_eq_true, Nat.zero_add, Nat.add_zero, Nat.reduceAdd, Nat.reduceMul, Nat.reduceLT, Nat.reduceLeDiff, Nat.reduceEqDiff, Nat.reduceBEq, Nat.left_eq_add, Nat.add_eq_left, Nat.add_left_cancel_iff, reduceCtorEq, Int.reduceLT, Int.reduceLE, Int.reduceEq, Int.reduceGT, Int.reduceGE, Int.reduceToNat, Int.reduceNeg, List.getElem?_cons_zero, List.getElem?_cons_succ, List.getD_cons_zero, List.getD_cons_succ, List.getD_nil, List.length_cons, List.length_nil, List.drop_zero, List.drop_succ_cons, List.take_succ_cons, List.take_zero, List.set_cons_zero, List.set_cons_succ, List.cons_append, List.nil_append, and_self, and_true, true_and, not_true_eq_false, not_false_eq_true, Nat.le_refl, Nat.lt_irrefl, Nat.zero_lt_succ, Nat.mul_one, Nat.one_mul, Int.toNat_natCast, Int.toNat_zero, Int.toNat_one, Nat.zero_mul, ylen22, ylen36, ylen40, ylen51, ylen61, ylen73, ylen90, ylen112, ylen139, ylen9, yalloc24, yalloc29, yalloc64, yalloc75, yalloc108, yalloc114, yalloc120, yalloc127, yalloc133, yalloc141, ybs22, ybs22_2, ybs36, ybs61, ybs73, ybs40, ybs40_2, ybs51, ybs51_2, ybs112, ystore2, ystore3, ystore5, ystore4, ystore22, ystore36, ystore40, ystore51, ystore61, ystore73, ystore112, ystore29, ystore24, ystore64, ystore75, ystore108, ystore114, ystore120, ystore127, ystore133, ystore141, ybuild29_, ybuild29_0i, ybuild29_0i1i, ybuild29_0i2i, ybuild29_0i1i2i, ybuild24_, ybuild24_0s, ybuild24_1i, ybuild64_, ybuild64_0i, ybuild64_0i1i, ybuild75_, ybuild75_0i1i2i3i, ybuild108_, ybuild108_0i1i2s, ybuild118_0i2i, ybuild114_2s4i, ybuild100, ybuild120, ybuild127, ybuild141, ybuild141_0, ybuild148, ybuild91, yfld108_0, yfld133_2, h3]
    exact .mk ⟨rfl, hx1⟩

theorem law_prints (d : Nat) {H : AH} (hw : H.wf) (hT : Tabs H) {s : AV} {l : List Ins} (hl : InsRow H s l) (a b c : AV) : Ret (RT (d + 2) 3 [.agg [s, a, b, c]] H) fun r => r.1 = .bool true := by
  rw [R3]
  unfold F3
  have hs : aLen Tryd.prog 22 s = some (.int .i64 (l.length : Nat)) := by rw [hl.1.alen ysl22.under, List.length_map]
  have hx : Ext H.next H (H.new [s, a, b, c] 24) := (Ext.refl hw).new _ _
  have hl' : InsRow (H.new [s, a, b, c] 24) s l := ⟨hl.1.mono (hx.sub hw), hl.2⟩
  by_cases h : l.length ≤ 500
  · have hcmp : decide (((l.length : Nat) : Int) > 500) = false := decide_eq_false (by omega)
    obtain ⟨⟨v1, H1⟩, h1, rfl, hx1⟩ := print_code d hx.wf (hT.ext hx hT.two) hl' (by omega) a b c
    simp only at hx1
    have hl1 : InsRow H1 s l := ⟨hl'.1.mono (hx1.sub hx.wf), hl.2⟩
    have hT1 := (hT.ext hx hT.two).ext hx1 (by simp only [new_next]; have := hT.two; omega)
    obtain ⟨⟨v2, H2⟩, h2, rfl, hx2⟩ := print_ref d hx1.wf hT1 hl1 (by omega) a b c
    simp only at hx2
    have hT2 := hT1.ext hx2 hT1.two
    have hb : H1.m H.next = some ⟨[s, a, b, c], 24, true⟩ := by rw [hx1.low _ (by simp)]; simp
    simp -implicitDefEqProofs only [chkL_nil, chkL_same, aBin_add, aBin_sub, aBin_mul, aBin_lss, aBin_leq, aBin_gtr, aBin_geq, aBin_eql, aBin_neq, cvInt_int, asB_bool, gdv_bool, jn_inl, jn_inr, Option.bind_some, Option.map_some, Option.bind_none, Option.map_none, ptrTo_at, slTo_at, nilC_at, ptrAdd_at, aUn_not, aUn_neg, aExtract_at, idxSl_at, idxPtr_at, ldOne_ptr, ldAgg_ptr, new_m, new_next, put_m, put_next, kill_m, kill_next, nBox_agg, nBox_int, bft, btf, btt, bff, updL_nil', updL_cons', upd_same, upd_ne, T0_at, if_true, if_false, ite_true, ite_false, Bool.false_eq_true, Bool.true_eq_false, decide_true, decide_false, Bool.not_true, Bool.not_false, beq_self_eq_true, Nat.zero_add, Nat.add_zero, Nat.reduceAdd, Nat.reduceMul, Nat.reduceLT, Nat.reduceLeDiff, Nat.reduceEqDiff, Nat.reduceBEq, Nat.left_eq_add, Nat.add_eq_left, Nat.add_left_cancel_iff, reduceCtorEq, Int.reduceLT, Int.reduceLE, Int.reduceEq, Int.reduceGT, Int.reduceGE, Int.reduceToNat, Int.reduceNeg, List.getElem?_cons_zero, List.getElem?_cons_succ, List.getD_cons_zero, List.getD_cons_succ, List.getD_nil, List.length_cons, List.length_nil, List.drop_zero, List.drop_succ_cons, List.take_succ_cons, List.take_zero, List.set_cons_zero, List.set_cons_succ, List.cons_append, List.nil_append, and_self, and_true, true_and, not_true_eq_false, not_false_eq_true, Nat.le_refl, Nat.lt_irrefl, Nat.zero_lt_succ, Nat.mul_one, Nat.one_mul, Int.toNat_natCast, Int.toNat_zero, Int.toNat_one, Nat.zero_mul, ylen22, ylen36, ylen40, ylen51, ylen61, ylen73, ylen90, ylen112, ylen139, ylen9, yalloc24, yalloc29, yalloc64, yalloc75, yalloc108, yalloc114, yalloc120, yalloc127, yalloc133, yalloc141, ybs22, ybs22_2, ybs36, ybs61, ybs73, ybs40, ybs40_2, ybs51, ybs51_2, ybs112, ystore2, ystore3, ystore5, ystore4, ystore22, ystore36, ystore40, ystore51, ystore61, ystore73, ystore112, ystore29, ystore24, ystore64, ystore75, ystore108, ystore114, ystore120, ystore127, ystore133, ystore141, ybuild29_, ybuild29_0i, ybuild29_0i1i, ybuild29_0i2i, ybuild29_0i1i2i, ybuild24_, ybuild24_0s, ybuild24_1i, ybuild64_, ybuild64_0i, ybuild64_0i1i, ybuild75_, ybuild75_0i1i2i3i, ybuild108_, ybuild108_0i1i2s, ybuild118_0i2i, ybuild114_2s4i, ybuild100, ybuild120, ybuild127, ybuild141, ybuild141_0, ybuild148, ybuild91, yfld108_0, yfld133_2, hs, hcmp, h1, h2, hb, aBin_same, RT_22 (d + 1) hT2]
    exact .mk rfl
  · have hcmp : decide (((l.length : Nat) : Int) > 500) = true := decide_eq_true (by omega)
    simp -implicitDefEqProofs only [chkL_nil, chkL_same, aBin_add, aBin_sub, aBin_mul, aBin_lss, aBin_leq, aBin_gtr, aBin_geq, aBin_eql, aBin_neq, cvInt_int, asB_bool, gdv_bool, jn_inl, jn_inr, Option.bind_some, Option.map_some, Option.bind_none, Option.map_none, ptrTo_at, slTo_at, nilC_at, ptrAdd_at, aUn_not, aUn_neg, aExtract_at, idxSl_at, idxPtr_at, ldOne_ptr, ldAgg_ptr, new_m, new_next, put_m, put_next, kill_m, kill_next, nBox_agg, nBox_int, bft, btf, btt, bff, updL_nil', updL_cons', upd_same, upd_ne, T0_at, if_true, if_false, ite_true, ite_false, Bool.false_eq_true, Bool.true_eq_false, decide_true, decide_false, Bool.not_true, Bool.not_false, beq_self_eq_true, Nat.zero_add, Nat.add_zero, Nat.reduceAdd, Nat.reduceMul, Nat.reduceLT, Nat.reduceLeDiff, Nat.reduceEqDiff, Nat.reduceBEq, Nat.left_eq_add, Nat.add_eq_left, Nat.add_left_cancel_iff, reduceCtorEq, Int.reduceLT, Int.reduceLE, Int.reduceEq, Int.reduceGT, Int.reduceGE, Int.reduceToNat, Int.reduceNeg, List.getElem?_cons_zero, List.getElem?_cons_succ, List.getD_cons_zero, List.getD_cons_succ, List.getD_nil, List.length_cons, List.length_nil, List.drop_zero, List.drop_succ_cons, List.take_succ_cons, List.take_zero, List.set_cons_zero, List.set_cons_succ, List.cons_append, List.nil_append, and_self, and_true, true_and, not_true_eq_false, not_false_eq_true, Nat.le_refl, Nat.lt_irrefl, Nat.zero_lt_succ, Nat.mul_one, Nat.one_mul, Int.toNat_natCast, Int.toNat_zero, Int.toNat_one, Nat.zero_mul, ylen22, ylen36, ylen40, ylen51, ylen61, ylen73, ylen90, ylen112, ylen139, ylen9, yalloc24, yalloc29, yalloc64, yalloc75, yalloc108, yalloc114, yalloc120, yalloc127, yalloc133, yalloc141, ybs22, ybs22_2, ybs36, ybs61, ybs73, ybs40, ybs40_2, ybs51, ybs51_2, ybs112, ystore2, ystore3, ystore5, ystore4, ystore22, ystore36, ystore40, ystore51, ystore61, ystore73, ystore112, ystore29, ystore24, ystore64, ystore75, ystore108, ystore114, ystore120, ystore127, ystore133, ystore141, ybuild29_, ybuild29_0i, ybuild29_0i1i, ybuild29_0i2i, ybuild29_0i1i2i, ybuild24_, ybuild24_0s, ybuild24_1i, ybuild64_, ybuild64_0i, ybuild64_0i1i, ybuild75_, ybuild75_0i1i2i3i, ybuild108_, ybuild108_0i1i2s, ybuild118_0i2i, ybuild114_2s4i, ybuild100, ybuild120, ybuild127, ybuild141, ybuild141_0, ybuild148, ybuild91, yfld108_0, yfld133_2, hs, hcmp]
    exact .mk rfl
end Go.Proofs.YthiflgncldmkjaaDoor
/- What the arguments read as, laid into an abstract heap that nobody writes. -/
set_option linter.unusedVariables false
set_option linter.unusedSimpArgs false
set_option maxRecDepth 100000
namespace Go.Ri

/-- A heap in which nothing may be written. -/
def AH.ro (H : AH) : Prop := ∀ b B, H.m b = some B → B.rw_ = false
def AH.win (H : AH) (cells : List AV) (e : TypeId) : AH := ⟨setM H.m H.next (some ⟨cells, e, false⟩), H.next + 1⟩
def winRo (ρ : Ro) (n blk base lim : Nat) : Ro := fun b => if b = n then some ⟨blk, base, lim⟩ else ρ b
theorem win_sound {P : Program} {ρ : Ro} {H : AH} {w : World} (h : Sim P ρ H w) (hro : H.ro) {blk base : Nat} {cs : Array Value} {e : TypeId} {fr : Nat × Nat} (hb : w.heap[blk]? = some (.cells cs e fr))
    {cells : List AV} {vs : List Value} (hr : relL ρ cells vs) (h1 : cells.all AV.isOne = true) (hv : ∀ i v, vs[i]? = some v → cs[base + i]? = some v) (hl : base + vs.length ≤ cs.size) :
    Sim P (winRo ρ H.next blk base (cs.size - base)) (H.win cells e) w ∧ ρ.le (winRo ρ H.next blk base (cs.size - base)) ∧ (H.win cells e).ro ∧ H.sub (H.win cells e) := by
  have hle : ρ.le (winRo ρ H.next blk base (cs.size - base)) := by
    intro b r hb
    have : b ≠ H.next := by have := h.lt hb; omega
    simp [winRo, this, hb]
  have hro' : (H.win cells e).ro := by
    intro b B hB
    simp only [AH.win, setM] at hB
    split at hB
    · cases hB; rfl
    · exact hro b B hB
  refine ⟨⟨fun b B hB => ?_, fun b b' B B' r r' hB hB' hor => ?_, fun b hb' => ?_, fun g hg => ?_⟩, hle, hro', fun b B hB => ?_⟩
  · by_cases hbn : b = H.next
    · subst hbn
      simp only [AH.win, setM_same] at hB
      cases hB
      exact ⟨⟨blk, base, cs.size - base⟩, cs, fr, vs, by simp [winRo], hb, by simp only; omega, fun hh => by simp at hh, relL_mono hle _ hr, by simp only; omega, hv, h1⟩
    · simp only [AH.win, setM_other _ _ hbn] at hB
      obtain ⟨r, cs', fr', vs', g1, g2, g3, g4, g5, g6⟩ := h.blk b B hB
      exact ⟨r, cs', fr', vs', hle _ _ g1, g2, g3, g4, relL_mono hle _ g5, g6⟩
  · rcases hor with hh | hh
    · rw [hro' b B hB] at hh; cases hh
    · rw [hro' b' B' hB'] at hh; cases hh
  · simp only [AH.win] at hb'
    have : b ≠ H.next := by omega
    simp only [winRo, this, if_false]
    exact h.fresh b (by omega)
  · obtain ⟨l, hl⟩ := h.glob g hg
    exact ⟨l, hle _ _ hl⟩
  · have : b ≠ H.next := by have := h.dom hB; omega
    simp only [AH.win, setM_other _ _ this]
    exact hB

theorem cell_add {w : World} {a : Addr} {n : Nat} {v : Value} (h : w.cell? (a.add n) = some v) : ∃ c e fr, w.heap[a.block]? = some (.cells c e fr) ∧ c[a.off + n]? = some v ∧ (n = 0 → a.spot = none) := by
  by_cases hn : n = 0
  · subst hn
    simp only [Addr.add, if_true, World.cell?] at h
    split at h
    · rename_i c e fr hc
      split at h
      · cases h
      · rename_i hs
        exact ⟨c, e, fr, hc, by simpa using h, fun _ => by simpa using hs⟩
    · cases h
  · simp only [Addr.add, if_neg hn, World.cell?] at h
    split at h
    · rename_i c e fr hc
      exact ⟨c, e, fr, hc, by simpa using h, fun h => absurd h hn⟩
    · cases h
theorem cells_some {w : World} {base k : Nat} {a : Addr} {cs : List Value} (h : w.cells? base a k = some cs) : cs.length = k ∧ ∀ j, j < k → ∃ v, cs[j]? = some v ∧ w.cell? (a.add j) = some v := by
  unfold World.cells? at h
  split at h
  · have hl := Lib.mapM_length h
    simp at hl
    refine ⟨hl, fun j hj => ?_⟩
    obtain ⟨b, hb, hf⟩ := Lib.mapM_at h j j (by simp [hj])
    exact ⟨b, hb, hf⟩
  · cases h
theorem add_add (a : Addr) (m n : Nat) : (a.add m).add n = a.add (m + n) := by
  unfold Addr.add
  by_cases hm : m = 0 <;> by_cases hn : n = 0 <;> simp [hm, hn, Nat.add_assoc]
theorem trod_sl {H : Type} {enc : TypeId × Value → H} {P : Program} {w : World} {base : Nat} {sp : Nat → Bool} {held : Bool} {fuel : Nat} {t e : TypeId} {cs : List Value} {x : DataW H × List MemPlace}
    (ht : P.underlying t = some (.slice e)) (h : DataW.trod enc P w base sp held fuel t cs = some x) :
    cs = [.slice none 0 0] ∨ ∃ a len cap m, cs = [.slice (some a) len cap] ∧ len ≤ cap ∧ cap ≤ maxLen ∧ ∀ i, i < len → ∃ ci y, w.cells? base (a.add (i * P.cellsOf e)) (P.cellsOf e) = some ci ∧ DataW.trod enc P w base sp held m e ci = some y := by
  cases fuel with
  | zero => simp [DataW.trod] at h
  | succ m =>
    unfold DataW.trod at h
    rw [ht] at h
    split at h <;> try (simp_all; done)
    rename_i e' a len cap he
    simp only [Option.some.injEq, TypeDesc.slice.injEq] at he
    subst he
    split at h
    · rename_i hc
      simp only [Option.bind_eq_some_iff] at h
      obtain ⟨elems, hel, _⟩ := h
      refine .inr ⟨a, len, cap, m, rfl, hc.2.1, hc.2.2, fun i hi => ?_⟩
      obtain ⟨y, _, hy⟩ := Lib.mapM_at hel i i (by simp [hi])
      simp only [Option.bind_eq_some_iff] at hy
      obtain ⟨ci, h1, h2⟩ := hy
      exact ⟨ci, y, h1, h2⟩
    · cases h

/-- One step of laying arguments: the heap grows, nothing that was there turns. -/
structure Lays (P : Program) (w : World) (ρ : Ro) (H : AH) (ρ' : Ro) (H' : AH) : Prop where
  sim : Sim P ρ' H' w
  le : ρ.le ρ'
  ro : H'.ro
  sub : H.sub H'
theorem Lays.refl {P : Program} {w : World} {ρ : Ro} {H : AH} (h : Sim P ρ H w) (hro : H.ro) : Lays P w ρ H ρ H := ⟨h, .refl ρ, hro, fun _ _ h => h⟩
theorem Lays.trans {P : Program} {w : World} {ρ ρ1 ρ2 : Ro} {H H1 H2 : AH} (h : Lays P w ρ H ρ1 H1) (k : Lays P w ρ1 H1 ρ2 H2) : Lays P w ρ H ρ2 H2 := ⟨k.sim, h.le.trans k.le, k.ro, fun b B hB => k.sub b B (h.sub b B hB)⟩

/-- A slice is laid, its elements being laid one by one. -/
theorem lay_slice {P : Program} {w : World} {k : Nat} (hk : 0 < k) {ρ : Ro} {H : AH} (h : Sim P ρ H w) (hro : H.ro) {Good : AH → List AV → Prop} (hmono : ∀ H H' x, Good H x → H.sub H' → Good H' x)
    {v : Value} {a : Addr} {len cap : Nat} (hv : v = .slice (some a) len cap) (hc : len ≤ cap)
    (hel : ∀ i, i < len → ∃ ci, w.cells? 0 (a.add (i * k)) k = some ci ∧ ∀ ρ H, Sim P ρ H w → H.ro → ∃ ρ' H' x, Lays P w ρ H ρ' H' ∧ relL ρ' x ci ∧ x.length = k ∧ x.all AV.isOne = true ∧ Good H' x) :
    ∃ ρ' H' s l, Lays P w ρ H ρ' H' ∧ rel ρ' s v ∧ Row H' s k l ∧ l.length = len ∧ ∀ x ∈ l, Good H' x := by
  cases len with
  | zero => exact ⟨ρ, H, .empty, [], .refl h hro, ⟨a, cap, hv⟩, ⟨by simp, .inl ⟨rfl, rfl⟩⟩, rfl, by simp⟩
  | succ n =>
    -- the elements
    have key : ∀ m, m ≤ n + 1 → ∃ (ρ' : Ro) (H' : AH) (l : List (List AV)) (vs : List Value), Lays P w ρ H ρ' H' ∧ l.length = m ∧ (∀ x ∈ l, x.length = k ∧ x.all AV.isOne = true ∧ Good H' x) ∧ relL ρ' l.flatten vs ∧ vs.length = m * k ∧ ∀ i v, vs[i]? = some v → w.cell? (a.add i) = some v := by
      intro m
      induction m with
      | zero => exact fun _ => ⟨ρ, H, [], [], .refl h hro, rfl, by simp, relL_nil _, by simp, by simp⟩
      | succ m ih =>
        intro hm
        obtain ⟨ρ1, H1, l, vs, hL, hl, hx, hr, hvl, hcell⟩ := ih (by omega)
        obtain ⟨ci, hci, hgo⟩ := hel m (by omega)
        obtain ⟨ρ2, H2, x, hL2, hr2, hxk, hx1, hg⟩ := hgo ρ1 H1 hL.sim hL.ro
        obtain ⟨hcl, hcc⟩ := cells_some hci
        refine ⟨ρ2, H2, l ++ [x], vs ++ ci, hL.trans hL2, by simp [hl], ?_, ?_, ?_, ?_⟩
        · intro y hy
          simp only [List.mem_append, List.mem_cons, List.not_mem_nil, or_false] at hy
          rcases hy with hy | rfl
          · obtain ⟨a1, a2, a3⟩ := hx y hy
            exact ⟨a1, a2, hmono _ _ _ a3 hL2.sub⟩
          · exact ⟨hxk, hx1, hg⟩
        · rw [List.flatten_append, List.flatten_cons, List.flatten_nil, List.append_nil]
          exact relL_append (relL_mono hL2.le _ hr) hr2
        · rw [List.length_append, hvl, hcl, Nat.succ_mul]
        · intro i u hi
          rw [List.getElem?_append] at hi
          split at hi
          · exact hcell i u hi
          · rename_i hge
            rw [hvl] at hi hge
            have hlt := (List.getElem?_eq_some_iff.1 hi).1
            obtain ⟨u', h1, h2⟩ := hcc (i - m * k) (by omega)
            rw [hi] at h1
            cases h1
            rw [add_add] at h2
            rw [show m * k + (i - m * k) = i by omega] at h2
            exact h2
    obtain ⟨ρ1, H1, l, vs, hL, hl, hx, hr, hvl, hcell⟩ := key (n + 1) (Nat.le_refl _)
    have hpos : 0 < (n + 1) * k := Nat.mul_pos (by omega) hk
    obtain ⟨u0, hu0⟩ : ∃ u, vs[0]? = some u := ⟨_, List.getElem?_eq_getElem (by omega)⟩
    obtain ⟨c, e, fr, hblk, hc0, hspot⟩ := cell_add (hcell 0 u0 hu0)
    have hcs : ∀ i v, vs[i]? = some v → c[a.off + i]? = some v := by
      intro i v hi
      obtain ⟨c', e', fr', hb', hc', _⟩ := cell_add (hcell i v hi)
      rw [hblk] at hb'
      cases hb'
      exact hc'
    have hend : a.off + vs.length ≤ c.size := by
      obtain ⟨u, hu⟩ : ∃ u, vs[vs.length - 1]? = some u := ⟨_, List.getElem?_eq_getElem (by omega)⟩
      have := (Array.getElem?_eq_some_iff.1 (hcs _ _ hu)).1
      omega
    have h1 : l.flatten.all AV.isOne = true := by
      rw [List.all_eq_true]
      intro y hy
      obtain ⟨x, hxl, hyx⟩ := List.mem_flatten.1 hy
      exact List.all_eq_true.1 (hx x hxl).2.1 y hyx
    obtain ⟨hs, hle, hro2, hsub⟩ := win_sound hL.sim hL.ro hblk hr h1 hcs hend
    have hlen : ∀ x ∈ l, x.length = k := fun x hxl => (hx x hxl).1
    have hfl := flat_len l hlen
    refine ⟨_, _, .slice (some (H1.next, 0)) (n + 1) (.kn cap), l, hL.trans ⟨hs, hle, hro2, hsub⟩, ?_, ?_, hl, fun x hxl => hmono _ _ _ (hx x hxl).2.2 hsub⟩
    · refine ⟨some a, cap, ?_, rfl, hc, hv⟩
      have hsp := hspot rfl
      simp only [cAddr, winRo, if_true, Option.map_some, Nat.add_zero]
      cases a
      simp only at hsp
      subst hsp
      rfl
    · refine ⟨hlen, .inr ⟨some (H1.next, 0), .kn cap, by rw [hl], .inr ⟨H1.next, 0, ⟨l.flatten, e, false⟩, rfl, by simp [AH.win, setM_same], by simp only; omega, fun i hi => ?_⟩⟩⟩
      rw [Nat.zero_add]
      exact flat_at l hlen i hi
end Go.Ri

namespace Go.Proofs.YthiflgncldmkjaaDoor
open Go.Ri Go.ChangeShapes Go.WideShapes Go.ChangeAt Go.RowKit

theorem under2 : Tryd.prog.underlying 2 = some (.int .i64) := by kernel_rfl
theorem struct29 : ((Tryd.prog.underlying 29).map fun d => match d with | .struct fs => fs.toList.map fun f => (f.type, f.offset) | _ => []) = some [(3, 0), (2, 1), (2, 2)] := by kernel_rfl
theorem struct24 : ((Tryd.prog.underlying 24).map fun d => match d with | .struct fs => fs.toList.map fun f => (f.type, f.offset) | _ => []) = some [(22, 0), (3, 1), (3, 2), (4, 3)] := by kernel_rfl
theorem c2 : Tryd.prog.cellsOf 2 = 1 := by kernel_rfl
theorem c4 : Tryd.prog.cellsOf 4 = 1 := by kernel_rfl
theorem c22 : Tryd.prog.cellsOf 22 = 1 := by kernel_rfl
theorem c24 : Tryd.prog.cellsOf 24 = 4 := by kernel_rfl
theorem c29 : Tryd.prog.cellsOf 29 = 3 := by kernel_rfl
theorem inI_of_wf {n : Int} (h : (Lit.int .i64 n).wf = true) : InI n := by
  have := bounds_i64 h
  unfold InI
  omega
section
variable {Hh : Type} {enc : TypeId × Value → Hh} {W : World} {base : Nat} {sp : Nat → Bool} {held : Bool}
/-- The fields of a struct. -/
theorem trod_fields {P : Program} {t : TypeId} {l : List (TypeId × Nat)} {fuel : Nat} {cs : List Value} {x : DataW Hh × List MemPlace}
    (hs : ((P.underlying t).map fun d => match d with | .struct fs => fs.toList.map fun f => (f.type, f.offset) | _ => []) = some l) (hl : l ≠ [])
    (h : DataW.trod enc P W base sp held fuel t cs = some x) : cs.length = P.cellsOf t ∧ ∃ m, ∀ u o, (u, o) ∈ l → ∃ y, DataW.trod enc P W base sp held m u ((cs.drop o).take (P.cellsOf u)) = some y := by
  cases hu : P.underlying t with
  | none => rw [hu] at hs; cases hs
  | some d =>
    rw [hu] at hs
    simp only [Option.map_some, Option.some.injEq] at hs
    cases d with
    | struct fs =>
      simp only at hs
      obtain ⟨xs, m, _, _, hlen, hxs, hf⟩ := DataW.trod_struct hu h
      refine ⟨hlen, m, fun u o huo => ?_⟩
      rw [← hs, List.mem_map] at huo
      obtain ⟨f, hfm, hfe⟩ := huo
      obtain ⟨i, hi⟩ := List.mem_iff_getElem?.1 hfm
      have := hf i f (by simpa using hi)
      cases hfe
      have hil : i < xs.length := by
        have := (List.getElem?_eq_some_iff.1 hi).1
        simp at this
        omega
      exact ⟨xs[i], by rw [this, List.getElem?_eq_getElem hil]⟩
    | _ => simp only at hs; exact absurd hs.symm hl
theorem one_of_take {cs : List Value} {o : Nat} {v : Value} (h : (cs.drop o).take 1 = [v]) : cs[o]? = some v := by
  have := congrArg (·[0]?) h
  simpa [List.getElem?_take, List.getElem?_drop] using this
theorem trod_ins {fuel : Nat} {cs : List Value} {x : DataW Hh × List MemPlace} (h : DataW.trod enc Tryd.prog W base sp held fuel 29 cs = some x) :
    ∃ i : Ins, i.Ok ∧ cs = [.int .i64 i.op, .int .i64 i.n, .int .i64 i.m] := by
  obtain ⟨hl, m, hf⟩ := trod_fields struct29 (by simp) h
  obtain ⟨y0, h0⟩ := hf 3 0 (by simp)
  obtain ⟨y1, h1⟩ := hf 2 1 (by simp)
  obtain ⟨y2, h2⟩ := hf 2 2 (by simp)
  obtain ⟨a, ea, _, wa⟩ := DataW.trod_int under3 h0
  obtain ⟨b, eb, _, wb⟩ := DataW.trod_int under2 h1
  obtain ⟨c, ec, _, wc⟩ := DataW.trod_int under2 h2
  rw [cells3] at ea
  rw [c2] at eb ec
  have ea := one_of_take ea
  have eb := one_of_take eb
  have ec := one_of_take ec
  rw [c29] at hl
  refine ⟨⟨a, b, c⟩, ⟨inI_of_wf wa, inI_of_wf wb, inI_of_wf wc⟩, ?_⟩
  match cs, hl with
  | [p, q, r], _ => simp_all
/-- A slice of instructions is laid. -/
theorem lay_ins {fuel : Nat} {v : Value} {x : DataW Hh × List MemPlace} {sp : Nat → Bool} (h : DataW.trod enc Tryd.prog W 0 sp held fuel 22 [v] = some x) {ρ : Ro} {H : AH} (hS : Sim Tryd.prog ρ H W) (hro : H.ro) :
    ∃ ρ' H' s l, Lays Tryd.prog W ρ H ρ' H' ∧ rel ρ' s v ∧ s.isOne = true ∧ InsRow H' s l := by
  rcases trod_sl ysl22.under h with hv | ⟨a, len, cap, m, hv, hc, hcm, hel⟩
  · cases hv
    exact ⟨ρ, H, .slice none 0 (.kn 0), [], .refl hS hro, ⟨none, 0, rfl, rfl, Nat.le_refl _, rfl⟩, rfl, .nil _ _, by simp⟩
  · cases hv
    rw [c29] at hel
    obtain ⟨ρ', H', s, l, hL, hr, hrow, hl, hg⟩ := lay_slice (k := 3) (by omega) hS hro (Good := fun _ x => ∃ i : Ins, i.Ok ∧ x = insC i) (fun _ _ _ h _ => h) rfl hc fun i hi => by
      obtain ⟨ci, y, h1, h2⟩ := hel i hi
      obtain ⟨ins, hok, rfl⟩ := trod_ins h2
      refine ⟨_, h1, fun ρ1 H1 hS1 hro1 => ⟨ρ1, H1, insC ins, .refl hS1 hro1, ?_, rfl, rfl, ins, hok, rfl⟩⟩
      exact relL_cons rfl (relL_cons rfl (relL_one rfl))
    have hone : s.isOne = true := by
      rcases hrow.is with ⟨rfl, _⟩ | ⟨a, c, rfl, _⟩ <;> rfl
    have hex : ∃ ll : List Ins, l = ll.map insC ∧ ∀ i ∈ ll, i.Ok := by
      clear hrow hL hr hl
      induction l with
      | nil => exact ⟨[], rfl, by simp⟩
      | cons y l ih =>
        obtain ⟨ll, rfl, hok⟩ := ih fun x hx => hg x (by simp [hx])
        obtain ⟨i, hi, rfl⟩ := hg y (by simp)
        exact ⟨i :: ll, rfl, by simpa using ⟨hi, hok⟩⟩
    obtain ⟨ll, rfl, hok⟩ := hex
    exact ⟨ρ', H', s, ll, hL, hr, hone, hrow, hok⟩
structure Code where
  ins : List Ins
  cells : Int
  params : Int
  answers : Bool
  deriving DecidableEq
structure Code.Ok (c : Code) : Prop where
  ins : ∀ i ∈ c.ins, i.Ok
  cells : InI c.cells
  params : InI c.params
/-- Four cells that hold a code. -/
def CodeAt (H : AH) (x : List AV) (c : Code) : Prop := ∃ s, x = [s, .int .i64 c.cells, .int .i64 c.params, .bool c.answers] ∧ InsRow H s c.ins ∧ InI c.cells ∧ InI c.params
theorem CodeAt.mono {H H' : AH} {x : List AV} {c : Code} (h : CodeAt H x c) (hs : H.sub H') : CodeAt H' x c := by
  obtain ⟨s, h1, h2, h3⟩ := h
  exact ⟨s, h1, ⟨h2.1.mono hs, h2.2⟩, h3⟩
theorem lay_code {fuel : Nat} {cs : List Value} {x : DataW Hh × List MemPlace} (h : DataW.trod enc Tryd.prog W 0 sp held fuel 24 cs = some x) {ρ : Ro} {H : AH} (hS : Sim Tryd.prog ρ H W) (hro : H.ro) :
    ∃ ρ' H' y c, Lays Tryd.prog W ρ H ρ' H' ∧ relL ρ' y cs ∧ y.length = 4 ∧ y.all AV.isOne = true ∧ CodeAt H' y c := by
  obtain ⟨hl, m, hf⟩ := trod_fields struct24 (by simp) h
  obtain ⟨y0, h0⟩ := hf 22 0 (by simp)
  obtain ⟨y1, h1⟩ := hf 3 1 (by simp)
  obtain ⟨y2, h2⟩ := hf 3 2 (by simp)
  obtain ⟨y3, h3⟩ := hf 4 3 (by simp)
  obtain ⟨b, eb, _, wb⟩ := DataW.trod_int under3 h1
  obtain ⟨c, ec, _, wc⟩ := DataW.trod_int under3 h2
  obtain ⟨d, ed, _⟩ := DataW.trod_bool under4 h3
  rw [cells3] at eb ec
  rw [c4] at ed
  have eb := one_of_take eb
  have ec := one_of_take ec
  have ed := one_of_take ed
  rw [c24] at hl
  match cs, hl with
  | [p, q, r, t], _ =>
    simp only [List.getElem?_cons_succ, List.getElem?_cons_zero, Option.some.injEq] at eb ec ed
    subst eb ec ed
    rw [c22] at h0
    obtain ⟨ρ', H', s, l, hL, hr, h1, hrow⟩ := lay_ins (v := p) (by simpa using h0) hS hro
    refine ⟨ρ', H', [s, .int .i64 b, .int .i64 c, .bool d], ⟨l, b, c, d⟩, hL, relL_cons hr (relL_cons rfl (relL_cons rfl (relL_one rfl))), rfl, by simp only [List.all_cons, List.all_nil, h1, Bool.and_true, Bool.true_and]; rfl, s, rfl, hrow, inI_of_wf wb, inI_of_wf wc⟩

/-- A row of codes. -/
def CodesRow (H : AH) (s : AV) (l : List Code) : Prop := ∃ rows, Row H s 4 rows ∧ rows.length = l.length ∧ ∀ i (h : i < rows.length) (h' : i < l.length), CodeAt H rows[i] l[i]
theorem CodesRow.mono {H H' : AH} {s : AV} {l : List Code} (h : CodesRow H s l) (hs : H.sub H') : CodesRow H' s l := by
  obtain ⟨rows, h1, h2, h3⟩ := h
  exact ⟨rows, h1.mono hs, h2, fun i h h' => (h3 i h h').mono hs⟩
theorem lay_codes {fuel : Nat} {v : Value} {x : DataW Hh × List MemPlace} (h : DataW.trod enc Tryd.prog W 0 sp held fuel 36 [v] = some x) {ρ : Ro} {H : AH} (hS : Sim Tryd.prog ρ H W) (hro : H.ro) :
    ∃ ρ' H' s l, Lays Tryd.prog W ρ H ρ' H' ∧ rel ρ' s v ∧ s.isOne = true ∧ CodesRow H' s l := by
  rcases trod_sl ysl36.under h with hv | ⟨a, len, cap, m, hv, hc, hcm, hel⟩
  · cases hv
    exact ⟨ρ, H, .slice none 0 (.kn 0), [], .refl hS hro, ⟨none, 0, rfl, rfl, Nat.le_refl _, rfl⟩, rfl, [], .nil _ _, rfl, fun i h => by simp at h⟩
  · cases hv
    rw [c24] at hel
    obtain ⟨ρ', H', s, l, hL, hr, hrow, hl, hg⟩ := lay_slice (k := 4) (by omega) hS hro (Good := fun H x => ∃ c : Code, CodeAt H x c) (fun _ _ _ ⟨c, hc⟩ hs => ⟨c, hc.mono hs⟩) rfl hc fun i hi => by
      obtain ⟨ci, y, h1, h2⟩ := hel i hi
      refine ⟨_, h1, fun ρ1 H1 hS1 hro1 => ?_⟩
      obtain ⟨ρ2, H2, y, c, q1, q2, q3, q4, q5⟩ := lay_code h2 hS1 hro1
      exact ⟨ρ2, H2, y, q1, q2, q3, q4, c, q5⟩
    have hone : s.isOne = true := by
      rcases hrow.is with ⟨rfl, _⟩ | ⟨a, c, rfl, _⟩ <;> rfl
    have hex : ∃ ll : List Code, l.length = ll.length ∧ ∀ i (h : i < l.length) (h' : i < ll.length), CodeAt H' l[i] ll[i] := by
      clear hrow hL hr hl
      induction l with
      | nil => exact ⟨[], rfl, fun i h => by simp at h⟩
      | cons y l ih =>
        obtain ⟨ll, h1, h2⟩ := ih fun x hx => hg x (by simp [hx])
        obtain ⟨c, hc⟩ := hg y (by simp)
        refine ⟨c :: ll, by simp [h1], fun i h h' => ?_⟩
        cases i with
        | zero => exact hc
        | succ i => exact h2 i (by simpa using h) (by simpa using h')
    obtain ⟨ll, h1, h2⟩ := hex
    exact ⟨ρ', H', s, ll, hL, hr, hone, l, hrow, h1, h2⟩
/-- A row of numbers. -/
def NumsRow (H : AH) (s : AV) (l : List Int) : Prop := Row H s 1 (l.map fun n => [.int .i64 n]) ∧ ∀ n ∈ l, InI n
theorem lay_nums {fuel : Nat} {v : Value} {x : DataW Hh × List MemPlace} (h : DataW.trod enc Tryd.prog W 0 sp held fuel 51 [v] = some x) {ρ : Ro} {H : AH} (hS : Sim Tryd.prog ρ H W) (hro : H.ro) :
    ∃ ρ' H' s l, Lays Tryd.prog W ρ H ρ' H' ∧ rel ρ' s v ∧ s.isOne = true ∧ NumsRow H' s l := by
  rcases trod_sl ysl51.under h with hv | ⟨a, len, cap, m, hv, hc, hcm, hel⟩
  · cases hv
    exact ⟨ρ, H, .slice none 0 (.kn 0), [], .refl hS hro, ⟨none, 0, rfl, rfl, Nat.le_refl _, rfl⟩, rfl, .nil _ _, by simp⟩
  · cases hv
    rw [c2] at hel
    obtain ⟨ρ', H', s, l, hL, hr, hrow, hl, hg⟩ := lay_slice (k := 1) (by omega) hS hro (Good := fun _ x => ∃ n, InI n ∧ x = [.int .i64 n]) (fun _ _ _ h _ => h) rfl hc fun i hi => by
      obtain ⟨ci, y, h1, h2⟩ := hel i hi
      obtain ⟨n, hn, _, wn⟩ := DataW.trod_int under2 h2
      subst hn
      exact ⟨_, h1, fun ρ1 H1 hS1 hro1 => ⟨ρ1, H1, [.int .i64 n], .refl hS1 hro1, relL_one rfl, rfl, rfl, n, inI_of_wf wn, rfl⟩⟩
    have hone : s.isOne = true := by
      rcases hrow.is with ⟨rfl, _⟩ | ⟨a, c, rfl, _⟩ <;> rfl
    have hex : ∃ ll : List Int, l = ll.map (fun n => [.int .i64 n]) ∧ ∀ n ∈ ll, InI n := by
      clear hrow hL hr hl
      induction l with
      | nil => exact ⟨[], rfl, by simp⟩
      | cons y l ih =>
        obtain ⟨ll, rfl, hok⟩ := ih fun x hx => hg x (by simp [hx])
        obtain ⟨n, hn, rfl⟩ := hg y (by simp)
        exact ⟨n :: ll, rfl, by simpa using ⟨hn, hok⟩⟩
    obtain ⟨ll, rfl, hok⟩ := hex
    exact ⟨ρ', H', s, ll, hL, hr, hone, hrow, hok⟩

/-- The tables alone. -/
theorem start {W : World} (h : laidMetH Tryd.prog laidTabs W) : ∃ ρ H, Sim Tryd.prog ρ H W ∧ H.ro ∧ Tabs H := by
  have hT := tabs_of_laid h
  obtain ⟨e0, e1, hsub⟩ := small_sub hT
  have hs := absH_sim Tryd.prog (w := W) (by rw [globals2]; exact hT.two)
  refine ⟨fun b => if b < 2 then absRo W b else none, ⟨mTabs e0 e1, 2⟩, ⟨fun b B hB => ?_, fun b b' B B' r r' hB hB' hor => ?_, fun b hb => if_neg (by simpa using hb), fun g hg => ?_⟩, fun b B hB => (mTabs_ok e0 e1 b B hB).2.1, ?_⟩
  · obtain ⟨h1, h2, h3⟩ := mTabs_ok e0 e1 b B hB
    obtain ⟨r, cs, fr, vs, g1, g2, g3, g4, g5, g6⟩ := hs.blk b B (hsub b B hB)
    exact ⟨r, cs, fr, vs, by simp only [if_pos h1]; exact g1, g2, g3, g4, relL_flat h3 g5, g6⟩
  · have h1 := (mTabs_ok e0 e1 b B hB).2.1
    have h2 := (mTabs_ok e0 e1 b' B' hB').2.1
    rw [h1, h2] at hor
    simp at hor
  · obtain ⟨l, hl⟩ := hs.glob g hg
    rw [globals2] at hg
    exact ⟨l, by simp only [if_pos hg]; exact hl⟩
  · exact ⟨⟨e0, rfl⟩, ⟨e1, rfl⟩, Nat.le_refl _⟩
theorem Tabs.sub {H H' : AH} (h : Tabs H) (hs : H.sub H') (hw : H'.wf) : Tabs H' := by
  obtain ⟨⟨e, he⟩, ⟨e', he'⟩, h2⟩ := h
  have := hw 1 _ (hs _ _ he')
  exact ⟨⟨e, hs _ _ he⟩, ⟨e', hs _ _ he'⟩, by omega⟩
theorem below_of_ro {P : Program} {W W' : World} {ρ ρ' : Ro} {H H' : AH} (hro : H.ro) (hout : Out P ρ H W ρ' H' W') : Below W.heap.size W W' := by
  refine ⟨hout.os, hout.tape, hout.output, hout.size, fun k hk => hout.keep k hk fun b B r hB hrw _ => ?_⟩
  rw [hro b B hB] at hrw
  cases hrw

theorem laidOut : laidOutB Tryd.prog = true := by kernel_rfl
/-- Arguments read behind the call as they did. -/
theorem trodAll_stays {W W' : World} {sp : Nat → Bool} (hb : Below W.heap.size W W') : ∀ {ts : List TypeId} {vs : List Value} {ds : List (DataW Hh)} {ps : List MemPlace}, (∀ t ∈ ts, Tryd.prog.readableRec t = true ∧ t < Tryd.prog.types.size) →
    DataW.TrodAll enc Tryd.prog W 0 (fun _ => true) true ts vs ds ps → (∀ x ∈ ps, x.block < W.heap.size) → (∀ x ∈ ps, sp x.block = true) → DataW.TrodAll enc Tryd.prog W' 0 sp true ts vs ds ps
  | [], vs, ds, ps, _, h, _, _ => by
    obtain ⟨rfl, rfl, rfl⟩ := trodAll_nil h
    exact trodAll_mk0
  | t :: ts, vs, ds, ps, ht, h, hlt, hsp => by
    obtain ⟨v, vs', d, ds', p, q, rfl, rfl, rfl, h0, hr⟩ := trodAll_cons h
    have ht0 := ht t (by simp)
    refine trodAll_cons_mk ?_ (trodAll_stays hb (fun u hu => ht u (by simp [hu])) hr (fun x hx => hlt x (by simp [hx])) fun x hx => hsp x (by simp [hx]))
    exact WideElems.Trod_stays laidOut ht0.1 ht0.2 h0 (fun x hx => hb.same (hlt x (by simp [hx]))) fun x hx => hsp x (by simp [hx])

theorem agg_of {t : TypeId} {W : World} {r : Reach} {base : Nat} {v : Value} (ht : ((Tryd.prog.underlying t).map fun d => match d with | .struct _ => true | _ => false) = some true) (h : Value.okWide Tryd.prog W r base t v) : ∃ cs, v = .agg cs := by
  unfold Value.okWide at h
  cases hu : Tryd.prog.underlying t with
  | none => rw [hu] at ht; cases ht
  | some d =>
    rw [hu] at ht h
    cases d <;> simp at ht
    obtain ⟨cs, h, _⟩ := h
    exact ⟨cs, h⟩
/-- From the run on the laid heap to what the row asks. -/
theorem contract_of {f : FuncId} {fn : Func} {spec : ChangeSpec} (hres : fn.resultTypes = #[4])
    (hspec : ∀ ds : List (DataW Hh), ds.length = fn.params.size → spec.fn Hh ds = { results := [.lit (.bool true)], args := ds }) (hvars : spec.vars = [])
    (hread : ∀ t ∈ fn.params.toList, Tryd.prog.readableRec t = true ∧ t < Tryd.prog.types.size)
    {W : World} {args : Array Value} {ds gs : List (DataW Hh)} {before : List MemPlace}
    (hW : DataW.Whole enc Tryd.prog fn.params.toList spec.vars false W args.toList ds gs before) (hL : laidMetH Tryd.prog laidTabs W)
    (hrun : ∀ ρ H, Sim Tryd.prog ρ H W → H.ro → Tabs H → DataW.TrodAll enc Tryd.prog W 0 (fun _ => true) true fn.params.toList args.toList ds before →
      ∃ ρ' H' vs d, Lays Tryd.prog W ρ H ρ' H' ∧ relL ρ' vs args.toList ∧ Ret (RT d f vs H') fun r => r.1 = .bool true) :
    Calls Tryd.prog f args W fun e W' => ∃ v, e = .returned v ∧ spec.post enc Tryd.prog fn false true false false W args v W' := by
  have hW' := hW
  obtain ⟨p, q, hA, hV, rfl, hfz, hnd⟩ := hW
  rw [hvars] at hV
  obtain ⟨rfl, rfl⟩ := trodVars_none hV
  simp only [List.append_nil] at hW' hrun
  obtain ⟨ρ, H, hS, hro, hT⟩ := start hL
  obtain ⟨ρ', H', vs, d, hLay, hrel, ⟨r, hr1, hr2⟩⟩ := hrun ρ H hS hro hT hA
  obtain ⟨v1, H1⟩ := r
  simp only at hr2
  subst hr2
  have hC := (RT_ok d f vs H' (.bool true) H1 hr1).2 ρ' W args.toList hLay.sim hrel
  rw [Array.toArray_toList] at hC
  refine hC.mono ?_
  rintro e W' ⟨ρ2, v', rfl, hv, hout⟩
  simp only [rel] at hv
  subst hv
  have hb := below_of_ro hLay.ro hout
  have hlen : ds.length = fn.params.size := by
    have h : ∀ {ts : List TypeId} {vs : List Value} {ds : List (DataW Hh)} {ps : List MemPlace}, DataW.TrodAll enc Tryd.prog W 0 (fun _ => true) true ts vs ds ps → ds.length = ts.length := by
      intro ts
      induction ts with
      | nil => intro vs ds ps h; obtain ⟨_, rfl, _⟩ := trodAll_nil h; rfl
      | cons t ts ih =>
        intro vs ds ps h
        obtain ⟨v, vs', d, ds', p, q, rfl, rfl, rfl, h0, hr⟩ := trodAll_cons h
        simp [ih hr]
    simpa using h hA
  have hfn := hspec ds hlen
  have hlt : ∀ x ∈ p, x.block < W.heap.size := fun x hx => hW'.lt x hx
  refine ⟨_, rfl, post_of_below (pa := p) (pv := []) (by simpa using hW') (fun _ _ _ => ?_) (fun sp hsp => ?_) (fun _ _ => ?_) (by simp) hb (ok_one hres rfl (okWide_bool_mk under4 _))⟩
  · rw [List.append_nil, hfn, hres]
    exact trodAll_cons_mk (shut_bool under4 _) trodAll_mk0
  · rw [List.append_nil, hfn]
    exact trodAll_stays hb hread hA hlt (fun x hx => hsp x (by simpa using hx))
  · rw [List.append_nil, hfn, hvars]
    rfl
end
end Go.Proofs.YthiflgncldmkjaaDoor
/- The lines of any code are told as the document tells them (CodePrints): for every code the law returns true, and the input reads as it did. Condition: the two tables of package code start as the program's text lays them (the row's own). -/
set_option linter.unusedVariables false
set_option linter.unusedSimpArgs false
set_option maxRecDepth 100000
namespace Go.Proofs.YthiflgncldmkjaaDoor
open Go.Ri Go.ChangeShapes Go.WideShapes Go.ChangeAt Go.RowKit
namespace N3
theorem res : Tryd.f3.resultTypes = #[4] := by kernel_rfl
theorem readable : (Tryd.f3.params.toList.all fun t => Tryd.prog.readableRec t && decide (t < Tryd.prog.types.size)) = true := by kernel_rfl
theorem psize : Tryd.f3.params.size = 1 := by kernel_rfl
theorem contract (H : Type) (enc : TypeId × Value → H) (W : World) (base : Nat) (args : Array Value) (ds gs : List (DataW H)) (before : List MemPlace)
    (hval : ∀ (j : Nat) t v, Tryd.f3.params[j]? = some t → args[j]? = some v → Value.okWide Tryd.prog W .any base t v)
    (hW : DataW.Whole enc Tryd.prog Tryd.f3.params.toList Rows.codePrintsSpec.vars false W args.toList ds gs before) (hL : laidMetH Tryd.prog Rows.codePrintsRow.laid W) :
    Calls Tryd.prog 3 args W fun e W' => ∃ v, e = .returned v ∧ Rows.codePrintsSpec.post enc Tryd.prog Tryd.f3 false true false false W args v W' := by
  refine contract_of res (fun ds hd => ?_) rfl (fun t ht => ?_) hW hL fun ρ0 H0 hS0 hro0 hT0 hA => ?_
  · rw [psize] at hd
    match ds, hd with
    | [d0], _ => rfl
  · have := List.all_eq_true.1 readable t ht
    simpa using this
  · rw [Tryd.params3] at hA hval
    obtain ⟨v0, vs0, d0, ds0, p0, q0, hargs, rfl, rfl, h0, r0⟩ := trodAll_cons hA
    obtain ⟨rfl, rfl, rfl⟩ := trodAll_nil r0
    obtain rfl : args = #[v0] := by cases args; simp_all
    obtain ⟨cs, rfl⟩ := agg_of (by kernel_rfl) (hval 0 24 v0 rfl rfl)
    obtain ⟨fuel, h0⟩ := h0
    obtain ⟨ρ1, H1, y, c, hL1, hr1, hy4, hy1, s, rfl, hrow, _⟩ := lay_code h0 hS0 hro0
    refine ⟨ρ1, H1, [.agg [s, .int .i64 c.cells, .int .i64 c.params, .bool c.answers]], 2, hL1, relL_one ⟨hy1, cs.toList, hr1, by simp⟩, ?_⟩
    have hw1 : H1.wf := fun b B hB => hL1.sim.dom hB
    exact law_prints 0 hw1 (hT0.sub hL1.sub hw1) hrow _ _ _
theorem reads (os : Os) {H : Type} (enc : TypeId × Value → H) : ∃ places, DataW.whole enc Tryd.prog ((laidWorld os).forCall (fun _ _ => 0) ⟨#[], #[.agg #[.slice none 0 0, .int .i64 0, .int .i64 0, .bool false]], []⟩).memory Tryd.f3.params.toList Rows.codePrintsSpec.vars false #[Value.agg #[.slice none 0 0, .int .i64 0, .int .i64 0, .bool false]].toList 8 = some ([.agg [.nil, .lit (.int .i64 0), .lit (.int .i64 0), .lit (.bool false)]], [], places) :=
  ⟨[], by kernel_rfl⟩
theorem lifted (os : Os) (started : os.Started) (H : Type) (enc : TypeId × Value → H) (F : Stop.Interp) :
    ReturnsInHanded {} Tryd.checked os 3 .any ((OpenSpec.ofChange Rows.codePrintsSpec).preRow enc Tryd.prog Tryd.f3 Rows.codePrintsRow.domain false Rows.codePrintsRow.laid) (((OpenSpec.ofChange Rows.codePrintsSpec).at F).post enc Tryd.prog Tryd.f3 false true false false) := by
  obtain ⟨places, hx⟩ := reads os enc
  refine returnsInHanded_of_row (C := Tryd.checked) (s := OpenSpec.ofChange Rows.codePrintsSpec) own started (by kernel_rfl) Tryd.func3
    (witness_row_at (enc := enc) (C := Tryd.checked) false (laidWorld os) #[Value.agg #[.slice none 0 0, .int .i64 0, .int .i64 0, .bool false]] rfl (by kernel_rfl) (by kernel_rfl) (by kernel_rfl)
      (OpenSpec.preRow_of_cond 8 hx (by kernel_rfl) (fun k hk => by cases hk) (by kernel_rfl) (laid_met os _))) ?_
  intro W base args ds gs before hval hW _ _ _ hL _ _
  exact contract H enc W base args ds gs before hval hW hL
theorem said : Rows.CodePrintsSaid :=
  OpenClaim.holds_of_cond 3 Tryd.f3 rfl rfl rfl rfl rfl rfl rfl ⟨rfl, rfl, rfl, rfl, rfl⟩ rfl rfl rfl rfl rfl (by kernel_rfl) Tryd.func3 (by kernel_rfl)
    (of_decide_eq_true (by kernel_rfl)) (by unfold Func.isWrapper; first | (rw [if_pos (by decide +kernel)]; kernel_rfl) | (rw [if_neg (by decide +kernel)]; exact ⟨rfl, rfl⟩))
    (fun os started H enc _ F => by rw [OpenClaim.pre_eq_preRow]; exact lifted os started H enc F)
theorem plain (f : FuncId) (fn : Func) (hf : Tryd.pinned.checked.prog.funcNamed "parallax/parallaxlaw08.CodePrints" = some f) (hfn : Tryd.pinned.checked.prog.funcs[f]? = some fn) :
    false = Tryd.pinned.checked.prog.looks [] ∧ ∀ (j : Nat) t, fn.params[j]? = some t → Tryd.pinned.checked.prog.wantsStandIn t = false := by
  obtain rfl : f = 3 := Option.some.inj ((show Tryd.prog.funcNamed "parallax/parallaxlaw08.CodePrints" = some 3 by kernel_rfl).symm.trans hf) |>.symm
  obtain rfl : fn = Tryd.f3 := (Option.some.inj (Tryd.func3.symm.trans hfn)).symm
  refine ⟨by kernel_rfl, fun j t ht => ?_⟩
  rw [Tryd.params3] at ht
  have hm : t ∈ [24] := by simpa using Array.mem_of_getElem? ht
  have hall : ([24].all fun u => !Tryd.prog.wantsStandIn u) = true := by kernel_rfl
  exact (show Tryd.prog.wantsStandIn t = false by simpa using List.all_eq_true.1 hall t hm)
end N3
theorem codePrints_holds : Rows.CodePrintsCardSaid :=
  Claim7.holds_tied_plain_at .later [] _ _ _ _ N3.said (fun _ h => by cases h) (by kernel_rfl) (fun _ h => by cases h) codePrints_row_tie rfl ⟨rfl, rfl⟩ (by kernel_rfl) rfl N3.plain (by kernel_rfl)
#print axioms codePrints_holds
end Go.Proofs.YthiflgncldmkjaaDoor
