/- Part 2 of the proof that: What is handed in stays as it is (PeepOwn): for every input the law returns true, and the input reads as it did. Condition: the two tables of package code start as the program's text lays them (the row's own). -/
import Derived.Test.YthiflgncldmkjaaDoorBV131
import Derived.Test.YthiflgncldmkjaaDoorProg
import Derived.Test.YthiflgncldmkjaaDoorRows
import Derived.Test.YthiflgncldmkjaaDoorTie
import Derived.Test.YthiflgncldmkjaaDoorCards
import Derived.Below
import Derived.ChangeSame
import Derived.WalkKit
import Derived.ProofKit
import Derived.OpenShut
import Derived.Deep.DeepHandedRow
import Derived.Lib.LaidTab
import Derived.Lib.SmallJoins
import Derived.Deep.Strs
import Derived.Carry
set_option linter.unusedVariables false
set_option linter.unusedSimpArgs false
set_option maxRecDepth 100000
namespace Go.Proofs.YthiflgncldmkjaaDoor
open Go.Ri
theorem under90 : Tryd.prog.underlying 90 = some (.slice 9) := by kernel_rfl
theorem zero9 : zeroL Tryd.prog 9 = some [.str ⟨#[]⟩] := by kernel_rfl
theorem seq90 : seqT Tryd.prog 90 = true := by kernel_rfl
theorem info9 : ∃ i, Tryd.prog.info? 9 = some i ∧ i.size = 1 ∧ i.bytes = 16 := by
  have h : (Tryd.prog.info? 9).isSome = true := by kernel_rfl
  obtain ⟨i, hi⟩ := Option.isSome_iff_exists.1 h
  have h1 : ((Tryd.prog.info? 9).map (·.size)).getD 0 = 1 := by kernel_rfl
  have h2 : ((Tryd.prog.info? 9).map (·.bytes)).getD 0 = 16 := by kernel_rfl
  rw [hi] at h1 h2
  exact ⟨i, hi, h1, h2⟩
def WS (N : Nat) (H : AH) (s : AV) (ls : List ByteArray) : Prop := ∃ b c, N ≤ b ∧ s = .slice (some (b, 0)) ls.length c ∧ (c = .kn ls.length ∨ c = .op 1) ∧ 0 < ls.length ∧ H.m b = some ⟨ls.map .str, 9, true⟩
theorem app90 {N : Nat} {H0 H : AH} {s : AV} {ls : List ByteArray} {x : ByteArray} (hs : WS N H s ls) (he : Ext N H0 H) (hlim : ls.length < 1000000) :
    Ret (aAppend Tryd.prog 90 90 s (slTo 1 1 H.next) (H.new [.str x] 9)) fun r => WS N r.2 r.1 (ls ++ [x]) ∧ Ext N H0 r.2 := by
  obtain ⟨i, hi, h1, h2⟩ := info9
  have fin : ∀ r : AV × AH, GS N 1 9 r.2 r.1 (ls.map .str ++ [.str x]) → Ext N H0 r.2 → WS N r.2 r.1 (ls ++ [x]) ∧ Ext N H0 r.2 := by
    intro r hg hx
    obtain ⟨b, n, hb, h3, h4, h5⟩ := hg.reads (by simp)
    have : n = (ls ++ [x]).length := by simp at h4 ⊢; omega
    subst this
    exact ⟨⟨b, _, hb, h3, .inr rfl, by simp, by rw [h5]; simp⟩, hx⟩
  obtain ⟨b, c, hb, rfl, hc, hpos, hm⟩ := hs
  rcases hc with rfl | rfl
  · exact (app_kn under90 hi zero9 (by rw [h1]; rfl) h1 seq90 hm (by simp) hb he (by rw [h2]; simp; omega)).mono fun r h => fin r h.1 h.2
  · exact (app_one under90 hi zero9 (by rw [h1]; rfl) h1 seq90 (.inr ⟨b, _, rfl, hpos, by simp, hm, hb⟩) he (by rw [h2]; simp; omega)).mono fun r h => fin r h.1 h.2.1
def upTo (op n m : Int) (i : Nat) : List ByteArray := wordOf op :: ((if 0 < nums op ∧ 0 < i then [strOfNums (txt n)] else []) ++ (if 1 < nums op ∧ 1 < i then [strOfNums (txt m)] else []))
theorem upTo_two (op n m : Int) : upTo op n m 2 = lineWords op n m := by simp [upTo, lineWords]
theorem upTo_succ (op n m : Int) (i : Nat) (hi : i < 2) : upTo op n m (i + 1) = upTo op n m i ++ (if ((i : Nat) : Int) < nums op then [strOfNums (txt (if i = 0 then n else m))] else []) := by
  rcases nums_three op with h | h | h <;> (have : i = 0 ∨ i = 1 := by omega) <;> rcases this with rfl | rfl <;> simp [upTo, h]
theorem loop23 {op n m : Int} (hn : InI n) (hm : InI m) {N : Nat} {H0 H : AH} {T : Tm} (he : Ext N H0 H) (hs : WS N H (T 4) [wordOf op]) (t5 : T 5 = .int .i64 (nums op)) (t44 : T 44 = .agg [.int .i64 n, .int .i64 m]) (t45 : T 45 = .int .i64 0) (k : Nat) (hk : 3 ≤ k) :
    Ret (iter k (body23 S23) (T, H)) fun r => r.1 = .exit 0 ∧ WS N r.2.2 (r.2.1 4) (lineWords op n m) ∧ Ext N H0 r.2.2 := by
  refine Ret.iter (fun f s => ∃ i : Nat, i ≤ 2 ∧ f = 3 - i ∧ s.1 5 = .int .i64 (nums op) ∧ s.1 44 = .agg [.int .i64 n, .int .i64 m] ∧ s.1 45 = .int .i64 (i : Nat) ∧ WS N s.2 (s.1 4) (upTo op n m i) ∧ Ext N H0 s.2) _ ?_ (fun s ⟨i, _, _, _⟩ => by omega) 3 k _ hk ?_
  · rintro j ⟨T1, H1⟩ ⟨i, hi, hf, h5, h44, h45, hws, hx⟩
    have t5 : T1 5 = _ := h5
    have t44 : T1 44 = _ := h44
    have t45 : T1 45 = _ := h45
    have hw1 : WS N H1 (T1 4) (upTo op n m i) := hws
    unfold body23
    simp only [t5, t44, t45, aBin_lss, Option.bind_some, asB_bool]
    by_cases hz : i < 2
    · rw [if_pos (by simp; omega)]
      have hidx : idxAgg Tryd.prog 2 2 1 (.agg [.int .i64 n, .int .i64 m]) (.int .i64 (i : Nat)) = some (.int .i64 (if i = 0 then n else m)) := by
        have : i = 0 ∨ i = 1 := by omega
        rcases this with rfl | rfl
        · exact idx91_0 n m
        · exact idx91_1 n m
      have hin : InI (if i = 0 then n else m) := by split <;> assumption
      simp only [hidx, Option.bind_some]
      by_cases hc : ((i : Nat) : Int) < nums op
      · rw [if_pos (by simp; omega)]
        simp only [S23_62 hin, Option.bind_some, bs90]
        obtain ⟨⟨sv, H2⟩, ha, g1, g2⟩ := app90 (x := strOfNums (txt (if i = 0 then n else m))) hw1 hx (by unfold upTo; simp; split <;> split <;> simp)
        have g1' : WS N H2 sv _ := g1
        simp only [ha, Option.bind_some, jn_inl]
        simp only [show ∀ (a b c d e f g : AV), (updL T1 [(46, a), (47, .int .i64 (i : Nat)), (48, b), (6, .int .i64 (i : Nat)), (7, b), (49, .int .i64 (i : Nat)), (50, c), (51, d), (52, e), (53, b), (54, f), (55, g), (56, sv), (4, sv)]) 45 = .int .i64 (i : Nat) from fun a b c d e f g => by simpa [updL, upd] using t45, aBin_add, Option.bind_some, wrap1 (i := i) (by omega)]
        refine .mk (.inl ⟨rfl, i + 1, by omega, by omega, by simpa [updL, upd] using t5, by simpa [updL, upd] using t44, by simp [updL, upd], ?_, g2⟩)
        rw [upTo_succ _ _ _ _ hz, if_pos hc]
        simpa [updL, upd] using g1'
      · rw [if_neg (by simp; omega)]
        simp only [jn_inl]
        simp only [show ∀ (a b c d : AV), (updL T1 [(46, a), (47, .int .i64 (i : Nat)), (48, b), (6, .int .i64 (i : Nat)), (7, b), (49, .int .i64 (i : Nat)), (50, c), (51, d)]) 45 = .int .i64 (i : Nat) from fun a b c d => by simpa [updL, upd] using t45, aBin_add, Option.bind_some, wrap1 (i := i) (by omega)]
        refine .mk (.inl ⟨rfl, i + 1, by omega, by omega, by simpa [updL, upd] using t5, by simpa [updL, upd] using t44, by simp [updL, upd], ?_, hx⟩)
        rw [upTo_succ _ _ _ _ hz, if_neg hc, List.append_nil]
        simpa [updL, upd] using hw1
    · rw [if_neg (by simp; omega)]
      have : i = 2 := by omega
      subst this
      rw [upTo_two] at hw1
      exact .mk (.inr ⟨by simp, rfl, by simpa [updL, upd] using hw1, hx⟩)
  · exact ⟨0, by omega, rfl, t5, t44, t45, by simpa [upTo] using hs, he⟩
end Go.Proofs.YthiflgncldmkjaaDoor
set_option linter.unusedVariables false
set_option linter.unusedSimpArgs false
namespace Go.Ri

attribute [simp] aBin_add aBin_sub aBin_mul aBin_lss aBin_leq aBin_gtr aBin_geq aBin_eql aBin_neq cvInt_int asB_bool gdv_bool jn_inl jn_inr
@[simp] theorem new_m (H : AH) (cs : List AV) (e : TypeId) (i : Nat) : (H.new cs e).m i = if i = H.next then some ⟨cs, e, true⟩ else H.m i := (rfl)
@[simp] theorem new_next (H : AH) (cs : List AV) (e : TypeId) : (H.new cs e).next = H.next + 1 := (rfl)
@[simp] theorem put_m (H : AH) (b : Nat) (B : Blk) (i : Nat) : (H.put b B).m i = if i = b then some B else H.m i := (rfl)
@[simp] theorem put_next (H : AH) (b : Nat) (B : Blk) : (H.put b B).next = H.next := (rfl)
@[simp] theorem kill_m (H : AH) (b i : Nat) : (H.kill b).m i = if i = b then none else H.m i := (rfl)
@[simp] theorem kill_next (H : AH) (b : Nat) : (H.kill b).next = H.next := (rfl)
@[simp] theorem ldOne_ptr (b k : Nat) (H : AH) : ldOne (.ptr (some (b, k))) H = (H.m b).bind fun B => B.cells[k]? := (rfl)
@[simp] theorem ldAgg_ptr (b k n : Nat) (H : AH) : ldAgg (.ptr (some (b, k))) n H = ((H.m b).bind fun B => if k + n ≤ B.cells.length then some ((B.cells.drop k).take n) else none).map .agg := (rfl)
@[simp] theorem idxSl_at (b o n : Nat) (c : Cap) (k : IntKind) (i : Int) (sz : Nat) : idxSl (.slice (some (b, o)) n c) (.int k i) sz = if 0 ≤ i ∧ i < (n : Int) then some (.ptr (some (b, o + i.toNat * sz))) else none := (rfl)
@[simp] theorem idxPtr_at (b o : Nat) (k : IntKind) (i : Int) (n sz : Nat) : idxPtr (.ptr (some (b, o))) (.int k i) n sz = if 0 ≤ i ∧ i < (n : Int) then some (.ptr (some (b, o + i.toNat * sz))) else none := (rfl)
@[simp] theorem nBox_agg (e : TypeId) (cs : List AV) : nBox e (.agg cs) = some ⟨cs, e, ptrTo⟩ := (rfl)
@[simp] theorem nBox_int (e : TypeId) (k : IntKind) (n : Int) : nBox e (.int k n) = some ⟨[.int k n], e, ptrTo⟩ := (rfl)

theorem bft : (false == true) = false := by decide
theorem btf : (true == false) = false := by decide
theorem btt : (true == true) = true := by decide
theorem bff : (false == false) = true := by decide
theorem updL_nil' (T : Tm) (d : Nat) : updL T [] d = T d := (rfl)
theorem updL_cons' (T : Tm) (e : Nat) (v : AV) (l : List (Nat × AV)) (d : Nat) : updL T ((e, v) :: l) d = updL (upd T e v) l d := (rfl)
theorem upd_same (T : Tm) (e : Nat) (v : AV) : upd T e v e = v := if_pos rfl
theorem upd_ne (T : Tm) (e d : Nat) (v : AV) (h : (d == e) = false) : upd T e v d = T d := if_neg (by simpa using h)
theorem T0_at (l : List AV) (d : Nat) : T0 l d = l.getD d (.tuple []) := (rfl)
theorem aExtract_at (vs : List AV) (i : Nat) : aExtract (.tuple vs) i = vs[i]? := (rfl)
theorem nilC_at (p : Nat × Nat) : nilC (.ptr (some p)) = some (.ptr (some p)) := (rfl)
theorem ptrAdd_at (b o n : Nat) : ptrAdd (.ptr (some (b, o))) n = some (.ptr (some (b, o + n))) := (rfl)
theorem ptrTo_at (b : Nat) : ptrTo b = .ptr (some (b, 0)) := (rfl)
theorem slTo_at (n c b : Nat) : slTo n c b = .slice (some (b, 0)) n (.kn c) := (rfl)
theorem aUn_not (b : Bool) : aUn .not (.bool b) = some (.bool (!b)) := (rfl)
theorem aUn_neg (k : IntKind) (n : Int) : aUn .neg (.int k n) = some (.int k (k.wrap (0 - n))) := (rfl)

theorem cast2 : ((2 : Nat) : Int) = 2 := (rfl)
theorem cast26 : ((26 : Nat) : Int) = 26 := (rfl)
theorem cast20 : ((20 : Nat) : Int) = 20 := (rfl)
@[simp] theorem res_m (H : AH) (n i : Nat) : (H.res n).m i = H.m i := (rfl)
@[simp] theorem res_next (H : AH) (n : Nat) : (H.res n).next = H.next + n := (rfl)
theorem chkL_nil {α : Type} (x : Option α) : chkL [] x = x := (rfl)
theorem chkL_same {α : Type} (a : Option AV) (l : List (Option AV × Option AV)) (x : Option α) : chkL ((a, a) :: l) x = chkL l x := by
  rw [chkL_eq, chkL_eq]
  have : allEq ((a, a) :: l) ↔ allEq l := ⟨fun h => h.2, fun h => ⟨rfl, h⟩⟩
  by_cases h : allEq l
  · rw [chk_pos h, chk_pos (this.2 h)]
  · unfold chk
    rw [if_neg h, if_neg (fun e => h (this.1 e))]

theorem aStore_one {P : Program} {t : TypeId} (hi : (P.info? t).isSome = true) (hc : P.cellsOf t = 1) {v : AV} (hv : v.cells = some [v]) (b k : Nat) (H : AH) :
    aStore P t (.ptr (some (b, k))) v H = (H.m b).bind fun B => if B.rw_ = true ∧ k < B.cells.length then some (H.put b ⟨B.cells.set k v, B.elem, B.rw_⟩) else none := by
  unfold aStore
  rw [if_pos hi, hv, hc]
  simp only [Option.bind_some, List.length_cons, List.length_nil, if_true, stV, AH.st]
  cases H.m b with
  | none => rfl
  | some B =>
    simp only [Option.bind_some, Nat.zero_add]
    by_cases h : B.rw_ = true ∧ k < B.cells.length
    · rw [if_pos h, if_pos ⟨h.1, by omega⟩]
      simp only [AH.put]
      congr 2
      rw [List.set_eq_take_append_cons_drop, if_pos h.2]
      simp
    · rw [if_neg h, if_neg (fun e => h ⟨e.1, by omega⟩)]
theorem aStore_agg {P : Program} {t : TypeId} (hi : (P.info? t).isSome = true) {n : Nat} (hc : P.cellsOf t = n) (b k : Nat) (cs : List AV) (H : AH) :
    aStore P t (.ptr (some (b, k))) (.agg cs) H = if cs.length = n then (H.m b).bind fun B => if B.rw_ = true ∧ k + n ≤ B.cells.length then some (H.put b ⟨B.cells.take k ++ cs ++ B.cells.drop (k + n), B.elem, B.rw_⟩) else none else none := by
  unfold aStore
  rw [if_pos hi, hc]
  simp only [AV.cells, Option.bind_some]
  by_cases hl : cs.length = n
  · rw [if_pos hl, if_pos hl]
    subst hl
    simp only [stV, AH.st]
    rfl
  · rw [if_neg hl, if_neg hl]

@[simp] theorem ret_some {R : Type} (r : R) (Q : R → Prop) : Ret (some r) Q ↔ Q r := ⟨fun ⟨_, h, q⟩ => by cases h; exact q, fun h => ⟨_, rfl, h⟩⟩
@[simp] theorem ret_none {R : Type} (Q : R → Prop) : Ret (none : Option R) Q ↔ False := ⟨fun h => (by obtain ⟨_, h, _⟩ := h; cases h), False.elim⟩
theorem ret_bind {A R : Type} {x : Option A} {f : A → Option R} {Q : R → Prop} (h : Ret x fun a => Ret (f a) Q) : Ret (x.bind f) Q := by
  obtain ⟨a, rfl, h⟩ := h
  exact h

structure Row (H : AH) (s : AV) (k : Nat) (l : List (List AV)) : Prop where
  len : ∀ x ∈ l, x.length = k
  is : (s = .empty ∧ l = []) ∨ ∃ a c, s = .slice a l.length c ∧ (l = [] ∨ ∃ b o B, a = some (b, o) ∧ H.m b = some B ∧ o + l.length * k ≤ B.cells.length ∧ ∀ i (h : i < l.length), (B.cells.drop (o + i * k)).take k = l[i])
theorem Row.mono {H H' : AH} {s : AV} {k : Nat} {l : List (List AV)} (h : Row H s k l) (hs : H.sub H') : Row H' s k l := by
  rcases h.is with h1 | ⟨a, c, h1, h2⟩
  · exact ⟨h.len, .inl h1⟩
  refine ⟨h.len, .inr ⟨a, c, h1, h2.imp id ?_⟩⟩
  rintro ⟨b, o, B, e, hB, r⟩
  exact ⟨b, o, B, e, hs _ _ hB, r⟩
theorem Row.at {H : AH} {s : AV} {k : Nat} {l : List (List AV)} (h : Row H s k l) {i : Nat} (hi : i < l.length) :
    ∃ b o, (∀ kd, idxSl s (.int kd (i : Nat)) k = some (.ptr (some (b, o)))) ∧ ldAgg (.ptr (some (b, o))) k H = some (.agg l[i]) ∧ (∀ j, j < k → ldOne (.ptr (some (b, o + j))) H = l[i][j]?) := by
  rcases h.is with ⟨_, rfl⟩ | ⟨a, c, rfl, h2⟩
  · simp at hi
  rcases h2 with rfl | ⟨b, o, B, rfl, hB, hl, hr⟩
  · simp at hi
  · have e := hr i hi
    have hik : i * k + k ≤ l.length * k := by rw [← Nat.succ_mul]; exact Nat.mul_le_mul_right k hi
    refine ⟨b, o + i * k, fun kd => ?_, ?_, fun j hj => ?_⟩
    · simp [idxSl]; omega
    · simp only [ldAgg_ptr, hB, Option.bind_some]
      rw [if_pos (by omega), e]
      rfl
    · simp only [ldOne_ptr, hB, Option.bind_some, ← e]
      rw [List.getElem?_take, if_pos hj, List.getElem?_drop]
theorem Row.alen {P : Program} {t e : TypeId} (hu : P.underlying t = some (.slice e)) {H : AH} {s : AV} {k : Nat} {l : List (List AV)} (h : Row H s k l) : aLen P t s = some (.int .i64 (l.length : Nat)) := by
  unfold aLen
  rw [hu]
  rcases h.is with ⟨rfl, rfl⟩ | ⟨a, c, rfl, h2⟩ <;> rfl
theorem Row.nil (H : AH) (k : Nat) : Row H (.slice none 0 (.kn 0)) k [] := ⟨by simp, .inr ⟨none, _, rfl, .inl rfl⟩⟩
attribute [go_sem] cast2 cast26 cast20 res_m res_next chkL_nil chkL_same aBin_add aBin_sub aBin_mul aBin_lss aBin_leq aBin_gtr aBin_geq aBin_eql aBin_neq cvInt_int asB_bool gdv_bool jn_inl jn_inr Option.bind_some Option.map_some Option.bind_none Option.map_none ptrTo_at slTo_at nilC_at ptrAdd_at aUn_not aUn_neg aExtract_at idxSl_at idxPtr_at ldOne_ptr ldAgg_ptr new_m new_next put_m put_next kill_m kill_next nBox_agg nBox_int bft btf btt bff updL_nil' updL_cons' upd_same upd_ne T0_at if_true if_false ite_true ite_false Bool.false_eq_true Bool.true_eq_false decide_true decide_false Bool.not_true Bool.not_false beq_self_eq_true Nat.zero_add Nat.add_zero Nat.left_eq_add Nat.add_eq_left Nat.add_left_cancel_iff List.getElem?_cons_zero List.getElem?_cons_succ List.getD_cons_zero List.getD_cons_succ List.getD_nil List.length_cons List.length_nil List.drop_zero List.drop_succ_cons List.take_succ_cons List.take_zero List.set_cons_zero List.set_cons_succ List.cons_append List.nil_append and_self and_true true_and not_true_eq_false not_false_eq_true Nat.le_refl Nat.lt_irrefl Nat.zero_lt_succ Nat.mul_one Nat.one_mul Int.toNat_natCast Int.toNat_zero Int.toNat_one Nat.zero_mul
end Go.Ri
set_option linter.unusedVariables false
set_option linter.unusedSimpArgs false
namespace Go.Ri

structure SlT (P : Program) (t e n b : Nat) : Prop where
  under : P.underlying t = some (.slice e)
  info : ∃ i, P.info? e = some i ∧ i.size = n ∧ i.bytes = b
  zero : ∃ z, zeroL P e = some z ∧ z.length = n
  pos : 0 < n
  seq : seqT P t = true
  bpos : 0 < b
theorem slT_info {P : Program} {e n b : Nat} (h : (P.info? e).isSome = true) (h1 : ((P.info? e).map (·.size)).getD 0 = n) (h2 : ((P.info? e).map (·.bytes)).getD 0 = b) : ∃ i, P.info? e = some i ∧ i.size = n ∧ i.bytes = b := by
  obtain ⟨i, hi⟩ := Option.isSome_iff_exists.1 h
  rw [hi] at h1 h2
  exact ⟨i, hi, h1, h2⟩

def Own (N sz : Nat) (e : TypeId) (H : AH) (s : AV) (cs : List AV) : Prop :=
  (s = .slice none 0 (.kn 0) ∧ cs = []) ∨ ∃ b n c B, s = .slice (some (b, 0)) n c ∧ (c = .op sz ∨ ∃ m, c = .kn m ∧ n ≤ m ∧ m * sz ≤ B.cells.length) ∧ cs.length = n * sz ∧ H.m b = some B ∧ B.elem = e ∧ B.rw_ = true ∧ n * sz ≤ B.cells.length ∧ B.cells.take (n * sz) = cs ∧ N ≤ b
theorem Own.nil (N sz : Nat) (e : TypeId) (H : AH) : Own N sz e H (.slice none 0 (.kn 0)) [] := .inl ⟨rfl, rfl⟩
theorem Own.mono {N sz : Nat} {e : TypeId} {H H' : AH} {s : AV} {cs : List AV} (h : Own N sz e H s cs) (hs : ∀ b, (∀ n c, s = .slice (some (b, 0)) n c → H'.m b = H.m b)) : Own N sz e H' s cs := by
  rcases h with h | ⟨b, n, c, B, rfl, h2, h3, h4, h5⟩
  · exact .inl h
  · exact .inr ⟨b, n, c, B, rfl, h2, h3, by rw [hs b n c rfl]; exact h4, h5⟩
theorem Own.new {N sz : Nat} {e : TypeId} {H : AH} {s : AV} {cs : List AV} (h : Own N sz e H s cs) (hw : H.wf) (cells : List AV) (e' : TypeId) : Own N sz e (H.new cells e') s cs := by
  rcases h with h | ⟨b, n, c, B, rfl, h2, h3, h4, h5⟩
  · exact .inl h
  · have : b ≠ H.next := by have := hw b _ h4; omega
    exact .inr ⟨b, n, c, B, rfl, h2, h3, by simp [this, h4], h5⟩
theorem Own.made {N sz : Nat} {e : TypeId} {H : AH} {cs : List AV} {n : Nat} (hN : N ≤ H.next) (hl : cs.length = n * sz) : Own N sz e (H.new cs e) (.slice (some (H.next, 0)) n (.kn n)) cs :=
  .inr ⟨H.next, n, _, ⟨cs, e, true⟩, rfl, .inr ⟨n, rfl, Nat.le_refl _, by simp [hl]⟩, hl, by simp, rfl, rfl, by simp [hl], by simp [← hl], hN⟩
theorem Own.low {N M sz : Nat} {e : TypeId} {H : AH} {s : AV} {cs : List AV} (h : Own N sz e H s cs) (hM : M ≤ N) : Own M sz e H s cs := by
  rcases h with h | ⟨b, n, c, B, h1, h2, h3, h4, h5, h6, h7, h8, h9⟩
  · exact .inl h
  · exact .inr ⟨b, n, c, B, h1, h2, h3, h4, h5, h6, h7, h8, Nat.le_trans hM h9⟩
theorem Own.keep {N sz : Nat} {e : TypeId} {H H' : AH} {s : AV} {cs : List AV} (h : Own N sz e H s cs) (hw : H.wf) (hs : ∀ b, b < H.next → H'.m b = H.m b) : Own N sz e H' s cs := by
  rcases h with h | ⟨b, n, c, B, rfl, h2, h3, h4, h5⟩
  · exact .inl h
  · exact .inr ⟨b, n, c, B, rfl, h2, h3, by rw [hs b (hw _ _ h4)]; exact h4, h5⟩
theorem Ext.put {N : Nat} {H0 H : AH} (h : Ext N H0 H) {b : Nat} (hb : N ≤ b) (hb' : b < H.next) (B : Blk) : Ext N H0 (H.put b B) := by
  refine ⟨fun i hi => ?_, h.next, fun i B' hB => ?_⟩
  · have : i ≠ b := by omega
    simp only [put_m, if_neg this]
    exact h.low i hi
  · simp only [put_m, put_next] at hB ⊢
    split at hB
    · omega
    · exact h.wf i B' hB
def At (s : AV) (b : Nat) : Prop := ∃ n c, s = .slice (some (b, 0)) n c
theorem At.one {s : AV} {b b' : Nat} (h : At s b) (h' : At s b') : b = b' := by
  obtain ⟨n, c, rfl⟩ := h
  obtain ⟨n', c', h'⟩ := h'
  cases h'
  rfl
theorem Own.at {N sz : Nat} {e : TypeId} {H : AH} {s : AV} {cs : List AV} (h : Own N sz e H s cs) {b : Nat} (ha : At s b) : ∃ B, H.m b = some B ∧ N ≤ b := by
  obtain ⟨n, c, rfl⟩ := ha
  rcases h with ⟨h, _⟩ | ⟨b', n', c', B, h1, h2, h3, h4, h5, h6, h7, h8, h9⟩
  · cases h
  · cases h1
    exact ⟨B, h4, h9⟩

theorem app_own {P : Program} {t xt e sz by_ : Nat} (T : SlT P t e sz by_) (hq : seqT P xt = true)
    {N : Nat} {H0 H : AH} {s x : AV} {cs ds : List AV} {n : Nat} (hs : Own N sz e H s cs) (he : Ext N H0 H) (hx : aLenOf x = some n) (hd : srcN sz n x H = some ds) (hdl : ds.length = n * sz)
    (hlim : (cs.length + ds.length) * by_ ≤ 140737488355328 * sz) :
    Ret (aAppend P t xt s x H) fun r => Own N sz e r.2 r.1 (cs ++ ds) ∧ Ext N H0 r.2 ∧ H.next ≤ r.2.next ∧ (∀ b, b < H.next → ¬ At s b → r.2.m b = H.m b) ∧ ∀ b, At r.1 b → At s b ∨ (H.next ≤ b ∧ b < r.2.next) := by
  obtain ⟨i, hi, rfl, rfl⟩ := T.info
  obtain ⟨z, hz, hzl⟩ := T.zero
  have hzp := T.pos
  have hsl : isSl s = true := by
    rcases hs with ⟨rfl, _⟩ | ⟨b, m, c, B, rfl, _⟩ <;> rfl
  unfold aAppend
  simp only [T.under, hi, hz, Option.bind_some]
  rw [if_pos ⟨hq, by omega, hzl, hsl⟩]
  simp only [hx, hd, Option.bind_some]
  have bound : ∀ m : Nat, m * i.size = cs.length + ds.length → m * i.bytes ≤ 140737488355328 ∧ m ≤ 9223372036854775807 := by
    intro m hm
    rw [← hm, Nat.mul_right_comm] at hlim
    have h1 := Nat.le_of_mul_le_mul_right hlim hzp
    have h2 : m ≤ m * i.bytes := Nat.le_mul_of_pos_right m T.bpos
    omega
  cases n with
  | zero =>
    have : ds = [] := List.eq_nil_of_length_eq_zero (by simpa using hdl)
    subst this
    exact .mk ⟨by simpa using hs, he, Nat.le_refl _, fun _ _ _ => rfl, fun b hb => .inl hb⟩
  | succ n =>
    -- a new block
    have fin : ∀ (H1 : AH) (need : Nat), need * i.size = cs.length + ds.length → H1.next = H.next → Ext N H0 H1 → (∀ b, b < H.next → ¬ At s b → H1.m b = H.m b) →
        Ret (grow i.size i.bytes e cs ds need H1) fun r => Own N i.size e r.2 r.1 (cs ++ ds) ∧ Ext N H0 r.2 ∧ H.next ≤ r.2.next ∧ (∀ b, b < H.next → ¬ At s b → r.2.m b = H.m b) ∧ ∀ b, At r.1 b → At s b ∨ (H.next ≤ b ∧ b < r.2.next) := by
      intro H1 need hneed hn1 he1 hk
      simp only [grow]
      rw [if_pos (bound need hneed)]
      refine .mk ⟨.inr ⟨H1.next, need, _, ⟨cs ++ ds, e, true⟩, rfl, .inl rfl, by simp [hneed], by simp, rfl, rfl, by simp [hneed], ?_, he1.next⟩, he1.new _ _, by simp [hn1], fun b hb hne => ?_, fun b hb => .inr ?_⟩
      · exact List.take_of_length_le (by simp [hneed])
      · have : b ≠ H1.next := by omega
        simp only [new_m, if_neg this]
        exact hk b hb hne
      · obtain ⟨n', c', h'⟩ := hb
        cases h'
        simp only [new_next]
        omega
    rcases hs with ⟨rfl, rfl⟩ | ⟨b, m, c, B, rfl, hc, hcl, hb, hbe, hbr, hbl, htk, hN⟩
    · simp only [appTo]
      rw [if_neg (by omega)]
      simp only [oldN, Option.bind_some]
      exact fin H _ (by simp at hdl ⊢; omega) rfl he fun _ _ _ => rfl
    · have hold : oldN i.size m (some (b, 0)) H = some cs := by
        cases m with
        | zero =>
          have : cs = [] := List.eq_nil_of_length_eq_zero (by omega)
          subst this
          rfl
        | succ m =>
          simp only [oldN, AH.ldN, hb, Option.bind_some]
          rw [if_pos (by omega)]
          simp only [List.drop_zero, htk]
      rcases hc with rfl | ⟨mc, rfl, hmc, hmcl⟩
      · simp only [appTo, hb, Option.bind_some]
        rw [if_pos ⟨trivial, hbr, hbe⟩]
        simp only [hold, Option.bind_some]
        refine fin _ _ (by rw [Nat.add_mul, hcl, hdl]) rfl (he.kill hN) fun b' hb' hne => ?_
        have : b' ≠ b := fun e => hne ⟨m, .op i.size, by rw [e]⟩
        simp [this]
      · simp only [appTo]
        by_cases hfit : m + (n + 1) ≤ mc
        · rw [if_pos hfit]
          have hmul : (m + (n + 1)) * i.size ≤ mc * i.size := Nat.mul_le_mul_right _ hfit
          rw [Nat.add_mul] at hmul
          have hst : stAt (b, 0 + m * i.size) ds H = some (H.put b ⟨B.cells.take (m * i.size) ++ ds ++ B.cells.drop (m * i.size + ds.length), B.elem, B.rw_⟩) := by
            cases ds with
            | nil => simp at hdl; have : 0 < (n + 1) * i.size := Nat.mul_pos (by omega) hzp; omega
            | cons y ds =>
              simp only [stAt, AH.st, hb, Option.bind_some, Nat.zero_add]
              rw [if_pos ⟨hbr, by omega⟩]
              rfl
          simp only [hst, Option.map_some]
          refine .mk ⟨.inr ⟨b, m + (n + 1), _, ⟨B.cells.take (m * i.size) ++ ds ++ B.cells.drop (m * i.size + ds.length), B.elem, B.rw_⟩, rfl, .inr ⟨mc, rfl, hfit, ?_⟩, by simp [hcl, hdl, Nat.add_mul], by simp, hbe, hbr, ?_, ?_, hN⟩, he.put hN (he.wf _ _ hb) _, Nat.le_refl _, fun b' hb' hne => ?_, fun b' hb' => .inl ?_⟩
          · rw [List.length_append, List.length_append, List.length_take, List.length_drop]; omega
          · rw [List.length_append, List.length_append, List.length_take, List.length_drop, Nat.add_mul]; omega
          · simp only [htk]
            rw [List.take_append_of_le_length (by simp [Nat.add_mul, hcl, hdl]), List.take_of_length_le (by simp [Nat.add_mul, hcl, hdl])]
          · have : b' ≠ b := fun e => hne ⟨m, .kn mc, by rw [e]⟩
            simp [this]
          · obtain ⟨n', c', h'⟩ := hb'
            cases h'
            exact ⟨m, _, rfl⟩
        · rw [if_neg hfit]
          simp only [hold, Option.bind_some]
          exact fin H _ (by rw [Nat.add_mul, hcl, hdl]) rfl he fun _ _ _ => rfl

theorem app_el {P : Program} {t e sz by_ : Nat} (T : SlT P t e sz by_) {N : Nat} {H0 H : AH} {s : AV} {cs ds : List AV} (hs : Own N sz e H s cs) (he : Ext N H0 H) (hdl : ds.length = sz)
    (hlim : (cs.length + sz) * by_ ≤ 140737488355328 * sz) :
    Ret (aAppend P t t s (.slice (some (H.next, 0)) 1 (.kn 1)) (H.new ds e)) fun r => Own N sz e r.2 r.1 (cs ++ ds) ∧ Ext N H0 r.2 ∧ H.next < r.2.next ∧ (∀ b, b < H.next → ¬ At s b → r.2.m b = H.m b) ∧ ∀ b, At r.1 b → At s b ∨ (H.next < b ∧ b < r.2.next) := by
  have hpos := T.pos
  refine (app_own (n := 1) (ds := ds) T T.seq (hs.new he.wf ds e) (he.new ds e) rfl ?_ (by omega) (by rw [hdl]; exact hlim)).mono ?_
  · simp only [srcN, AH.ldN, new_m, if_true, Option.bind_some]
    rw [if_pos (by omega)]
    simp [← hdl]
  · rintro r ⟨h1, h2, h3, h4, h5⟩
    refine ⟨h1, h2, h3, fun b hb hne => ?_, fun b hb => (h5 b hb).imp id fun h => by simp only [new_next] at h; omega⟩
    rw [h4 b (Nat.lt_succ_of_lt hb) hne]
    have : b ≠ H.next := by omega
    simp [this]

theorem slSl_ptr (p : Nat × Nat) (n : Nat) (c : Cap) (sz : Nat) (lo hi mx : Option AV) (h : c = .op sz ∨ c.known.isSome = true) : slSl (.slice (some p) n c) sz lo hi mx = (bnds n c.known lo hi mx).bind fun x => some (cutAt p sz x.1 x.2.1 x.2.2) := if_pos h
theorem bnd_nat (k : IntKind) {j y : Nat} (h : j ≤ y) : bnd (.int k (j : Nat)) y = some j := by
  unfold bnd
  split
  · rename_i i he
    cases he
    rw [if_pos (by omega)]
    rfl
  · rename_i h'
    exact absurd rfl (h' k (j : Nat))
theorem Own.cut {N sz : Nat} {e : TypeId} {H : AH} {s : AV} {cs : List AV} (h : Own N sz e H s cs) {n j : Nat} (hn : cs.length = n * sz) (hpos : 0 < sz) (hj : j ≤ n) (k : IntKind) :
    ∃ s', slSl s sz none (some (.int k (j : Nat))) none = some s' ∧ Own N sz e H s' (cs.take (j * sz)) ∧ ∀ b, At s' b → At s b := by
  rcases h with ⟨rfl, rfl⟩ | ⟨b, m, c, B, rfl, hc, hcl, hb, hbe, hbr, hbl, htk, hN⟩
  · have : n = 0 := by
      have h : n * sz = 0 := hn.symm
      rcases Nat.mul_eq_zero.1 h with h | h
      · exact h
      · omega
    subst this
    have : j = 0 := by omega
    subst this
    exact ⟨.slice none 0 (.kn 0), rfl, .inl ⟨rfl, by simp⟩, fun b h => h⟩
  · have hmn : m = n := Nat.eq_of_mul_eq_mul_right hpos (hcl.symm.trans hn)
    subst hmn
    have hjm : j * sz ≤ m * sz := Nat.mul_le_mul_right _ hj
    refine ⟨.slice (some (b, 0)) j c, ?_, .inr ⟨b, j, c, B, rfl, ?_, by rw [List.length_take, hcl]; omega, hb, hbe, hbr, by omega, ?_, hN⟩, fun b' hb' => ?_⟩
    · rcases hc with rfl | ⟨mc, rfl, hmc, _⟩
      · have h1 : bnds m (Cap.op sz).known none (some (.int k (j : Nat))) none = some (0, j, none) := by
          show (bnd (.int k (j : Nat)) m).bind _ = _
          rw [bnd_nat k hj]
          rfl
        rw [slSl_ptr _ _ _ _ _ _ _ (.inl rfl), h1]
        rfl
      · have h1 : bnds m (Cap.kn mc).known none (some (.int k (j : Nat))) none = some (0, j, some mc) := by
          show (bnd (.int k (j : Nat)) mc).bind _ = _
          rw [bnd_nat k (by omega)]
          rfl
        rw [slSl_ptr _ _ _ _ _ _ _ (.inr rfl), h1]
        rfl
    · rcases hc with rfl | ⟨mc, rfl, hmc, hml⟩
      · exact .inl rfl
      · exact .inr ⟨mc, rfl, by omega, hml⟩
    · rw [← htk, List.take_take]
      congr 1
      omega
    · obtain ⟨n', c', h'⟩ := hb'
      cases h'
      exact ⟨m, c, rfl⟩

theorem Row.src {H : AH} {s : AV} {k : Nat} {l : List (List AV)} (h : Row H s k l) : aLenOf s = some l.length ∧ srcN k l.length s H = some l.flatten := by
  rcases h.is with ⟨rfl, rfl⟩ | ⟨a, c, rfl, h2⟩
  · exact ⟨rfl, rfl⟩
  refine ⟨rfl, ?_⟩
  rcases h2 with rfl | ⟨b, o, B, rfl, hB, hl, hr⟩
  · rfl
  · cases hn : l.length with
    | zero =>
      have : l = [] := List.eq_nil_of_length_eq_zero hn
      subst this
      rfl
    | succ n =>
      simp only [srcN, AH.ldN, hB, Option.bind_some]
      rw [← hn, if_pos hl]
      congr 1
      have key : ∀ (l : List (List AV)) (o : Nat), (∀ x ∈ l, x.length = k) → (∀ i (h : i < l.length), (B.cells.drop (o + i * k)).take k = l[i]) → (B.cells.drop o).take (l.length * k) = l.flatten := by
        intro l
        induction l with
        | nil => intro o _ _; simp
        | cons x l ih =>
          intro o hx hr
          have h0 : (B.cells.drop o).take k = x := by
            have := hr 0 (by simp)
            rw [Nat.zero_mul, Nat.add_zero] at this
            exact this
          have ih' := ih (o + k) (fun y hy => hx y (by simp [hy])) fun i hi => by
            have := hr (i + 1) (by simp; omega)
            rw [Nat.add_mul, Nat.one_mul] at this
            rw [show o + k + i * k = o + (i * k + k) by omega]
            simpa using this
          rw [List.flatten_cons, List.length_cons, Nat.succ_mul, Nat.add_comm (l.length * k) k, List.take_add, h0, List.drop_drop, ih']
      exact key l o h.len hr
theorem flat_at {k : Nat} : ∀ (l : List (List AV)), (∀ x ∈ l, x.length = k) → ∀ i (h : i < l.length), (l.flatten.drop (i * k)).take k = l[i]
  | [], _, i, h => by simp at h
  | x :: l, hx, 0, h => by
    have h1 := hx x (by simp)
    rw [List.flatten_cons, Nat.zero_mul, List.drop_zero, List.take_append_of_le_length (by omega), List.take_of_length_le (by omega)]
    rfl
  | x :: l, hx, i + 1, h => by
    have := flat_at l (fun y hy => hx y (by simp [hy])) i (by simpa using h)
    have h1 := hx x (by simp)
    rw [List.flatten_cons, Nat.succ_mul, Nat.add_comm, ← List.drop_drop, ← h1, List.drop_left, h1, this]
    rfl
theorem flat_len {k : Nat} : ∀ (l : List (List AV)), (∀ x ∈ l, x.length = k) → l.flatten.length = l.length * k
  | [], _ => by simp
  | x :: l, hx => by
    have := flat_len l fun y hy => hx y (by simp [hy])
    simp [this, hx x (by simp), Nat.succ_mul, Nat.add_comm]
theorem Own.row {N sz : Nat} {e : TypeId} {H : AH} {s : AV} {l : List (List AV)} (hpos : 0 < sz) (h : Own N sz e H s l.flatten) (hl : ∀ x ∈ l, x.length = sz) : Row H s sz l := by
  refine ⟨hl, ?_⟩
  have hfl := flat_len l hl
  rcases h with ⟨rfl, h⟩ | ⟨b, n, c, B, rfl, hc, hcl, hb, hbe, hbr, hbl, htk, hN⟩
  · have : l.length * sz = 0 := by rw [← hfl, h]; rfl
    have hl0 : l.length = 0 := by
      rcases Nat.mul_eq_zero.1 this with h | h
      · exact h
      · omega
    have : l = [] := List.eq_nil_of_length_eq_zero hl0
    subst this
    exact .inr ⟨none, _, rfl, .inl rfl⟩
  · have hn : n = l.length := by
      rw [hcl] at hfl
      exact Nat.eq_of_mul_eq_mul_right hpos hfl
    subst hn
    refine .inr ⟨some (b, 0), c, rfl, .inr ⟨b, 0, B, rfl, hb, by omega, fun i hi => ?_⟩⟩
    rw [← flat_at l hl i hi, ← htk, Nat.zero_add, List.drop_take, List.take_take]
    congr 1
    have : i * sz + sz ≤ l.length * sz := by rw [← Nat.succ_mul]; exact Nat.mul_le_mul_right sz hi
    omega
end Go.Ri
set_option linter.unusedVariables false
set_option maxRecDepth 100000
namespace Go.Proofs.YthiflgncldmkjaaDoor
open Go.Ri
@[simp] theorem ylen22 (p : Option (Nat × Nat)) (n : Nat) (c : Cap) : aLen Tryd.prog 22 (.slice p n c) = some (.int .i64 (n : Nat)) := by kernel_rfl
@[simp] theorem ylen36 (p : Option (Nat × Nat)) (n : Nat) (c : Cap) : aLen Tryd.prog 36 (.slice p n c) = some (.int .i64 (n : Nat)) := by kernel_rfl
@[simp] theorem ylen40 (p : Option (Nat × Nat)) (n : Nat) (c : Cap) : aLen Tryd.prog 40 (.slice p n c) = some (.int .i64 (n : Nat)) := by kernel_rfl
@[simp] theorem ylen51 (p : Option (Nat × Nat)) (n : Nat) (c : Cap) : aLen Tryd.prog 51 (.slice p n c) = some (.int .i64 (n : Nat)) := by kernel_rfl
@[simp] theorem ylen61 (p : Option (Nat × Nat)) (n : Nat) (c : Cap) : aLen Tryd.prog 61 (.slice p n c) = some (.int .i64 (n : Nat)) := by kernel_rfl
@[simp] theorem ylen73 (p : Option (Nat × Nat)) (n : Nat) (c : Cap) : aLen Tryd.prog 73 (.slice p n c) = some (.int .i64 (n : Nat)) := by kernel_rfl
@[simp] theorem ylen90 (p : Option (Nat × Nat)) (n : Nat) (c : Cap) : aLen Tryd.prog 90 (.slice p n c) = some (.int .i64 (n : Nat)) := by kernel_rfl
@[simp] theorem ylen112 (p : Option (Nat × Nat)) (n : Nat) (c : Cap) : aLen Tryd.prog 112 (.slice p n c) = some (.int .i64 (n : Nat)) := by kernel_rfl
@[simp] theorem ylen139 (p : Option (Nat × Nat)) (n : Nat) (c : Cap) : aLen Tryd.prog 139 (.slice p n c) = some (.int .i64 (n : Nat)) := by kernel_rfl
@[simp] theorem ylen9 (s : ByteArray) : aLen Tryd.prog 9 (.str s) = some (.int .i64 (s.size : Nat)) := by kernel_rfl
@[simp] theorem yalloc24 : nAlloc Tryd.prog 24 = some ⟨[.slice none 0 (.kn 0), .int .i64 0, .int .i64 0, .bool false], 24, ptrTo⟩ := by kernel_rfl
@[simp] theorem yalloc29 : nAlloc Tryd.prog 29 = some ⟨[.int .i64 0, .int .i64 0, .int .i64 0], 29, ptrTo⟩ := by kernel_rfl
@[simp] theorem yalloc64 : nAlloc Tryd.prog 64 = some ⟨[.int .i64 0, .int .i64 0], 64, ptrTo⟩ := by kernel_rfl
@[simp] theorem yalloc75 : nAlloc Tryd.prog 75 = some ⟨[.int .i64 0, .int .i64 0, .int .i64 0, .int .i64 0], 75, ptrTo⟩ := by kernel_rfl
@[simp] theorem yalloc108 : nAlloc Tryd.prog 108 = some ⟨[.int .i64 0, .int .i64 0, .slice none 0 (.kn 0)], 108, ptrTo⟩ := by kernel_rfl
@[simp] theorem yalloc114 : nAlloc Tryd.prog 114 = some ⟨[.slice none 0 (.kn 0), .slice none 0 (.kn 0), .slice none 0 (.kn 0), .int .i64 0, .int .i64 0, .int .i64 0, .int .i64 0, .int .i64 0, .int .i64 0, .int .i64 0, .slice none 0 (.kn 0), .bool false], 114, ptrTo⟩ := by kernel_rfl
@[simp] theorem yalloc120 : nAlloc Tryd.prog 120 = some ⟨[.int .i64 0, .int .i64 0, .int .i64 0, .slice none 0 (.kn 0), .slice none 0 (.kn 0)], 120, ptrTo⟩ := by kernel_rfl
@[simp] theorem yalloc127 : nAlloc Tryd.prog 127 = some ⟨[.int .i64 0, .int .i64 0, .int .i64 0, .slice none 0 (.kn 0), .slice none 0 (.kn 0)], 127, ptrTo⟩ := by kernel_rfl
@[simp] theorem yalloc133 : nAlloc Tryd.prog 133 = some ⟨[.str ⟨#[]⟩, .int .i64 0, .int .i64 0, .int .i64 0], 133, ptrTo⟩ := by kernel_rfl
@[simp] theorem yalloc141 : nAlloc Tryd.prog 141 = some ⟨[.slice none 0 (.kn 0), .slice none 0 (.kn 0), .slice none 0 (.kn 0)], 141, ptrTo⟩ := by kernel_rfl
@[simp] theorem ybs22 (a b c : AV) : nBuildSlice Tryd.prog 22 1 [(0, .agg [a, b, c])] = some ⟨[a, b, c], 29, slTo 1 1⟩ := by kernel_rfl
@[simp] theorem ybs22_2 (a b c d e f : AV) : nBuildSlice Tryd.prog 22 2 [(0, .agg [a, b, c]), (1, .agg [d, e, f])] = some ⟨[a, b, c, d, e, f], 29, slTo 2 2⟩ := by kernel_rfl
@[simp] theorem ybs36 (a b c d : AV) : nBuildSlice Tryd.prog 36 1 [(0, .agg [a, b, c, d])] = some ⟨[a, b, c, d], 24, slTo 1 1⟩ := by kernel_rfl
@[simp] theorem ybs61 (a b : AV) : nBuildSlice Tryd.prog 61 1 [(0, .agg [a, b])] = some ⟨[a, b], 64, slTo 1 1⟩ := by kernel_rfl
@[simp] theorem ybs73 (a b c d e : AV) : nBuildSlice Tryd.prog 73 1 [(0, .agg [a, b, c, d, e])] = some ⟨[a, b, c, d, e], 127, slTo 1 1⟩ := by kernel_rfl
@[simp] theorem ybs40 (k : IntKind) (n : Int) : nBuildSlice Tryd.prog 40 1 [(0, .int k n)] = some ⟨[.int k n], 3, slTo 1 1⟩ := by kernel_rfl
@[simp] theorem ybs40_2 (k k2 : IntKind) (n m : Int) : nBuildSlice Tryd.prog 40 2 [(0, .int k n), (1, .int k2 m)] = some ⟨[.int k n, .int k2 m], 3, slTo 2 2⟩ := by kernel_rfl
@[simp] theorem ybs51 (k : IntKind) (n : Int) : nBuildSlice Tryd.prog 51 1 [(0, .int k n)] = some ⟨[.int k n], 2, slTo 1 1⟩ := by kernel_rfl
@[simp] theorem ybs51_2 (k k2 : IntKind) (n m : Int) : nBuildSlice Tryd.prog 51 2 [(0, .int k n), (1, .int k2 m)] = some ⟨[.int k n, .int k2 m], 2, slTo 2 2⟩ := by kernel_rfl
@[simp] theorem ybs112 (p : Option (Nat × Nat)) : nBuildSlice Tryd.prog 112 1 [(0, .ptr p)] = some ⟨[.ptr p], 116, slTo 1 1⟩ := by kernel_rfl
theorem yinf2 : (Tryd.prog.info? 2).isSome = true := by kernel_rfl
theorem ycel2 : Tryd.prog.cellsOf 2 = 1 := by kernel_rfl
theorem yinf3 : (Tryd.prog.info? 3).isSome = true := by kernel_rfl
theorem ycel3 : Tryd.prog.cellsOf 3 = 1 := by kernel_rfl
theorem yinf4 : (Tryd.prog.info? 4).isSome = true := by kernel_rfl
theorem ycel4 : Tryd.prog.cellsOf 4 = 1 := by kernel_rfl
theorem yinf5 : (Tryd.prog.info? 5).isSome = true := by kernel_rfl
theorem ycel5 : Tryd.prog.cellsOf 5 = 1 := by kernel_rfl
theorem yinf22 : (Tryd.prog.info? 22).isSome = true := by kernel_rfl
theorem ycel22 : Tryd.prog.cellsOf 22 = 1 := by kernel_rfl
theorem yinf36 : (Tryd.prog.info? 36).isSome = true := by kernel_rfl
theorem ycel36 : Tryd.prog.cellsOf 36 = 1 := by kernel_rfl
theorem yinf40 : (Tryd.prog.info? 40).isSome = true := by kernel_rfl
theorem ycel40 : Tryd.prog.cellsOf 40 = 1 := by kernel_rfl
theorem yinf51 : (Tryd.prog.info? 51).isSome = true := by kernel_rfl
theorem ycel51 : Tryd.prog.cellsOf 51 = 1 := by kernel_rfl
theorem yinf61 : (Tryd.prog.info? 61).isSome = true := by kernel_rfl
theorem ycel61 : Tryd.prog.cellsOf 61 = 1 := by kernel_rfl
theorem yinf73 : (Tryd.prog.info? 73).isSome = true := by kernel_rfl
theorem ycel73 : Tryd.prog.cellsOf 73 = 1 := by kernel_rfl
theorem yinf112 : (Tryd.prog.info? 112).isSome = true := by kernel_rfl
theorem ycel112 : Tryd.prog.cellsOf 112 = 1 := by kernel_rfl
theorem yinf29 : (Tryd.prog.info? 29).isSome = true := by kernel_rfl
theorem ycel29 : Tryd.prog.cellsOf 29 = 3 := by kernel_rfl
theorem yinf24 : (Tryd.prog.info? 24).isSome = true := by kernel_rfl
theorem ycel24 : Tryd.prog.cellsOf 24 = 4 := by kernel_rfl
theorem yinf64 : (Tryd.prog.info? 64).isSome = true := by kernel_rfl
theorem ycel64 : Tryd.prog.cellsOf 64 = 2 := by kernel_rfl
theorem yinf75 : (Tryd.prog.info? 75).isSome = true := by kernel_rfl
theorem ycel75 : Tryd.prog.cellsOf 75 = 4 := by kernel_rfl
theorem yinf108 : (Tryd.prog.info? 108).isSome = true := by kernel_rfl
theorem ycel108 : Tryd.prog.cellsOf 108 = 3 := by kernel_rfl
theorem yinf114 : (Tryd.prog.info? 114).isSome = true := by kernel_rfl
theorem ycel114 : Tryd.prog.cellsOf 114 = 12 := by kernel_rfl
theorem yinf120 : (Tryd.prog.info? 120).isSome = true := by kernel_rfl
theorem ycel120 : Tryd.prog.cellsOf 120 = 5 := by kernel_rfl
theorem yinf127 : (Tryd.prog.info? 127).isSome = true := by kernel_rfl
theorem ycel127 : Tryd.prog.cellsOf 127 = 5 := by kernel_rfl
theorem yinf133 : (Tryd.prog.info? 133).isSome = true := by kernel_rfl
theorem ycel133 : Tryd.prog.cellsOf 133 = 4 := by kernel_rfl
theorem yinf141 : (Tryd.prog.info? 141).isSome = true := by kernel_rfl
theorem ycel141 : Tryd.prog.cellsOf 141 = 3 := by kernel_rfl
@[simp] theorem ystore2 (b i : Nat) (k : IntKind) (x : Int) (H : AH) : aStore Tryd.prog 2 (.ptr (some (b, i))) (.int k x) H = (H.m b).bind fun B => if B.rw_ = true ∧ i < B.cells.length then some (H.put b ⟨B.cells.set i (.int k x), B.elem, B.rw_⟩) else none := aStore_one yinf2 ycel2 rfl b i H
@[simp] theorem ystore3 (b i : Nat) (k : IntKind) (x : Int) (H : AH) : aStore Tryd.prog 3 (.ptr (some (b, i))) (.int k x) H = (H.m b).bind fun B => if B.rw_ = true ∧ i < B.cells.length then some (H.put b ⟨B.cells.set i (.int k x), B.elem, B.rw_⟩) else none := aStore_one yinf3 ycel3 rfl b i H
@[simp] theorem ystore5 (b i : Nat) (k : IntKind) (x : Int) (H : AH) : aStore Tryd.prog 5 (.ptr (some (b, i))) (.int k x) H = (H.m b).bind fun B => if B.rw_ = true ∧ i < B.cells.length then some (H.put b ⟨B.cells.set i (.int k x), B.elem, B.rw_⟩) else none := aStore_one yinf5 ycel5 rfl b i H
@[simp] theorem ystore4 (b i : Nat) (x : Bool) (H : AH) : aStore Tryd.prog 4 (.ptr (some (b, i))) (.bool x) H = (H.m b).bind fun B => if B.rw_ = true ∧ i < B.cells.length then some (H.put b ⟨B.cells.set i (.bool x), B.elem, B.rw_⟩) else none := aStore_one yinf4 ycel4 rfl b i H
@[simp] theorem ystore22 (b i : Nat) (p : Option (Nat × Nat)) (n : Nat) (c : Cap) (H : AH) : aStore Tryd.prog 22 (.ptr (some (b, i))) (.slice p n c) H = (H.m b).bind fun B => if B.rw_ = true ∧ i < B.cells.length then some (H.put b ⟨B.cells.set i (.slice p n c), B.elem, B.rw_⟩) else none := aStore_one yinf22 ycel22 rfl b i H
@[simp] theorem ystore36 (b i : Nat) (p : Option (Nat × Nat)) (n : Nat) (c : Cap) (H : AH) : aStore Tryd.prog 36 (.ptr (some (b, i))) (.slice p n c) H = (H.m b).bind fun B => if B.rw_ = true ∧ i < B.cells.length then some (H.put b ⟨B.cells.set i (.slice p n c), B.elem, B.rw_⟩) else none := aStore_one yinf36 ycel36 rfl b i H
@[simp] theorem ystore40 (b i : Nat) (p : Option (Nat × Nat)) (n : Nat) (c : Cap) (H : AH) : aStore Tryd.prog 40 (.ptr (some (b, i))) (.slice p n c) H = (H.m b).bind fun B => if B.rw_ = true ∧ i < B.cells.length then some (H.put b ⟨B.cells.set i (.slice p n c), B.elem, B.rw_⟩) else none := aStore_one yinf40 ycel40 rfl b i H
@[simp] theorem ystore51 (b i : Nat) (p : Option (Nat × Nat)) (n : Nat) (c : Cap) (H : AH) : aStore Tryd.prog 51 (.ptr (some (b, i))) (.slice p n c) H = (H.m b).bind fun B => if B.rw_ = true ∧ i < B.cells.length then some (H.put b ⟨B.cells.set i (.slice p n c), B.elem, B.rw_⟩) else none := aStore_one yinf51 ycel51 rfl b i H
@[simp] theorem ystore61 (b i : Nat) (p : Option (Nat × Nat)) (n : Nat) (c : Cap) (H : AH) : aStore Tryd.prog 61 (.ptr (some (b, i))) (.slice p n c) H = (H.m b).bind fun B => if B.rw_ = true ∧ i < B.cells.length then some (H.put b ⟨B.cells.set i (.slice p n c), B.elem, B.rw_⟩) else none := aStore_one yinf61 ycel61 rfl b i H
@[simp] theorem ystore73 (b i : Nat) (p : Option (Nat × Nat)) (n : Nat) (c : Cap) (H : AH) : aStore Tryd.prog 73 (.ptr (some (b, i))) (.slice p n c) H = (H.m b).bind fun B => if B.rw_ = true ∧ i < B.cells.length then some (H.put b ⟨B.cells.set i (.slice p n c), B.elem, B.rw_⟩) else none := aStore_one yinf73 ycel73 rfl b i H
@[simp] theorem ystore112 (b i : Nat) (p : Option (Nat × Nat)) (n : Nat) (c : Cap) (H : AH) : aStore Tryd.prog 112 (.ptr (some (b, i))) (.slice p n c) H = (H.m b).bind fun B => if B.rw_ = true ∧ i < B.cells.length then some (H.put b ⟨B.cells.set i (.slice p n c), B.elem, B.rw_⟩) else none := aStore_one yinf112 ycel112 rfl b i H
@[simp] theorem ystore29 (b i : Nat) (cs : List AV) (H : AH) : aStore Tryd.prog 29 (.ptr (some (b, i))) (.agg cs) H = if cs.length = 3 then (H.m b).bind fun B => if B.rw_ = true ∧ i + 3 ≤ B.cells.length then some (H.put b ⟨B.cells.take i ++ cs ++ B.cells.drop (i + 3), B.elem, B.rw_⟩) else none else none := aStore_agg yinf29 ycel29 b i cs H
@[simp] theorem ystore24 (b i : Nat) (cs : List AV) (H : AH) : aStore Tryd.prog 24 (.ptr (some (b, i))) (.agg cs) H = if cs.length = 4 then (H.m b).bind fun B => if B.rw_ = true ∧ i + 4 ≤ B.cells.length then some (H.put b ⟨B.cells.take i ++ cs ++ B.cells.drop (i + 4), B.elem, B.rw_⟩) else none else none := aStore_agg yinf24 ycel24 b i cs H
@[simp] theorem ystore64 (b i : Nat) (cs : List AV) (H : AH) : aStore Tryd.prog 64 (.ptr (some (b, i))) (.agg cs) H = if cs.length = 2 then (H.m b).bind fun B => if B.rw_ = true ∧ i + 2 ≤ B.cells.length then some (H.put b ⟨B.cells.take i ++ cs ++ B.cells.drop (i + 2), B.elem, B.rw_⟩) else none else none := aStore_agg yinf64 ycel64 b i cs H
@[simp] theorem ystore75 (b i : Nat) (cs : List AV) (H : AH) : aStore Tryd.prog 75 (.ptr (some (b, i))) (.agg cs) H = if cs.length = 4 then (H.m b).bind fun B => if B.rw_ = true ∧ i + 4 ≤ B.cells.length then some (H.put b ⟨B.cells.take i ++ cs ++ B.cells.drop (i + 4), B.elem, B.rw_⟩) else none else none := aStore_agg yinf75 ycel75 b i cs H
@[simp] theorem ystore108 (b i : Nat) (cs : List AV) (H : AH) : aStore Tryd.prog 108 (.ptr (some (b, i))) (.agg cs) H = if cs.length = 3 then (H.m b).bind fun B => if B.rw_ = true ∧ i + 3 ≤ B.cells.length then some (H.put b ⟨B.cells.take i ++ cs ++ B.cells.drop (i + 3), B.elem, B.rw_⟩) else none else none := aStore_agg yinf108 ycel108 b i cs H
@[simp] theorem ystore114 (b i : Nat) (cs : List AV) (H : AH) : aStore Tryd.prog 114 (.ptr (some (b, i))) (.agg cs) H = if cs.length = 12 then (H.m b).bind fun B => if B.rw_ = true ∧ i + 12 ≤ B.cells.length then some (H.put b ⟨B.cells.take i ++ cs ++ B.cells.drop (i + 12), B.elem, B.rw_⟩) else none else none := aStore_agg yinf114 ycel114 b i cs H
@[simp] theorem ystore120 (b i : Nat) (cs : List AV) (H : AH) : aStore Tryd.prog 120 (.ptr (some (b, i))) (.agg cs) H = if cs.length = 5 then (H.m b).bind fun B => if B.rw_ = true ∧ i + 5 ≤ B.cells.length then some (H.put b ⟨B.cells.take i ++ cs ++ B.cells.drop (i + 5), B.elem, B.rw_⟩) else none else none := aStore_agg yinf120 ycel120 b i cs H
@[simp] theorem ystore127 (b i : Nat) (cs : List AV) (H : AH) : aStore Tryd.prog 127 (.ptr (some (b, i))) (.agg cs) H = if cs.length = 5 then (H.m b).bind fun B => if B.rw_ = true ∧ i + 5 ≤ B.cells.length then some (H.put b ⟨B.cells.take i ++ cs ++ B.cells.drop (i + 5), B.elem, B.rw_⟩) else none else none := aStore_agg yinf127 ycel127 b i cs H
@[simp] theorem ystore133 (b i : Nat) (cs : List AV) (H : AH) : aStore Tryd.prog 133 (.ptr (some (b, i))) (.agg cs) H = if cs.length = 4 then (H.m b).bind fun B => if B.rw_ = true ∧ i + 4 ≤ B.cells.length then some (H.put b ⟨B.cells.take i ++ cs ++ B.cells.drop (i + 4), B.elem, B.rw_⟩) else none else none := aStore_agg yinf133 ycel133 b i cs H
@[simp] theorem ystore141 (b i : Nat) (cs : List AV) (H : AH) : aStore Tryd.prog 141 (.ptr (some (b, i))) (.agg cs) H = if cs.length = 3 then (H.m b).bind fun B => if B.rw_ = true ∧ i + 3 ≤ B.cells.length then some (H.put b ⟨B.cells.take i ++ cs ++ B.cells.drop (i + 3), B.elem, B.rw_⟩) else none else none := aStore_agg yinf141 ycel141 b i cs H
@[simp] theorem ybuild29_  : aBuild Tryd.prog 29 [] = some (.agg [.int .i64 0, .int .i64 0, .int .i64 0]) := by kernel_rfl
@[simp] theorem ybuild29_0i (k0 : IntKind) (a0 : Int) : aBuild Tryd.prog 29 [(0, .int k0 a0)] = some (.agg [.int k0 a0, .int .i64 0, .int .i64 0]) := by kernel_rfl
@[simp] theorem ybuild29_0i1i (k0 : IntKind) (a0 : Int) (k1 : IntKind) (a1 : Int) : aBuild Tryd.prog 29 [(0, .int k0 a0), (1, .int k1 a1)] = some (.agg [.int k0 a0, .int k1 a1, .int .i64 0]) := by kernel_rfl
@[simp] theorem ybuild29_0i2i (k0 : IntKind) (a0 : Int) (k2 : IntKind) (a2 : Int) : aBuild Tryd.prog 29 [(0, .int k0 a0), (2, .int k2 a2)] = some (.agg [.int k0 a0, .int .i64 0, .int k2 a2]) := by kernel_rfl
@[simp] theorem ybuild29_0i1i2i (k0 : IntKind) (a0 : Int) (k1 : IntKind) (a1 : Int) (k2 : IntKind) (a2 : Int) : aBuild Tryd.prog 29 [(0, .int k0 a0), (1, .int k1 a1), (2, .int k2 a2)] = some (.agg [.int k0 a0, .int k1 a1, .int k2 a2]) := by kernel_rfl
@[simp] theorem ybuild24_  : aBuild Tryd.prog 24 [] = some (.agg [.slice none 0 (.kn 0), .int .i64 0, .int .i64 0, .bool false]) := by kernel_rfl
@[simp] theorem ybuild24_0s (p0 : Option (Nat × Nat)) (n0 : Nat) (c0 : Cap) : aBuild Tryd.prog 24 [(0, .slice p0 n0 c0)] = some (.agg [.slice p0 n0 c0, .int .i64 0, .int .i64 0, .bool false]) := by kernel_rfl
@[simp] theorem ybuild24_1i (k1 : IntKind) (a1 : Int) : aBuild Tryd.prog 24 [(1, .int k1 a1)] = some (.agg [.slice none 0 (.kn 0), .int k1 a1, .int .i64 0, .bool false]) := by kernel_rfl
@[simp] theorem ybuild64_  : aBuild Tryd.prog 64 [] = some (.agg [.int .i64 0, .int .i64 0]) := by kernel_rfl
@[simp] theorem ybuild64_0i (k0 : IntKind) (a0 : Int) : aBuild Tryd.prog 64 [(0, .int k0 a0)] = some (.agg [.int k0 a0, .int .i64 0]) := by kernel_rfl
@[simp] theorem ybuild64_0i1i (k0 : IntKind) (a0 : Int) (k1 : IntKind) (a1 : Int) : aBuild Tryd.prog 64 [(0, .int k0 a0), (1, .int k1 a1)] = some (.agg [.int k0 a0, .int k1 a1]) := by kernel_rfl
@[simp] theorem ybuild75_  : aBuild Tryd.prog 75 [] = some (.agg [.int .i64 0, .int .i64 0, .int .i64 0, .int .i64 0]) := by kernel_rfl
@[simp] theorem ybuild75_0i1i2i3i (k0 : IntKind) (a0 : Int) (k1 : IntKind) (a1 : Int) (k2 : IntKind) (a2 : Int) (k3 : IntKind) (a3 : Int) : aBuild Tryd.prog 75 [(0, .int k0 a0), (1, .int k1 a1), (2, .int k2 a2), (3, .int k3 a3)] = some (.agg [.int k0 a0, .int k1 a1, .int k2 a2, .int k3 a3]) := by kernel_rfl
@[simp] theorem ybuild108_  : aBuild Tryd.prog 108 [] = some (.agg [.int .i64 0, .int .i64 0, .slice none 0 (.kn 0)]) := by kernel_rfl
@[simp] theorem ybuild108_0i1i2s (k0 : IntKind) (a0 : Int) (k1 : IntKind) (a1 : Int) (p2 : Option (Nat × Nat)) (n2 : Nat) (c2 : Cap) : aBuild Tryd.prog 108 [(0, .int k0 a0), (1, .int k1 a1), (2, .slice p2 n2 c2)] = some (.agg [.int k0 a0, .int k1 a1, .slice p2 n2 c2]) := by kernel_rfl
@[simp] theorem ybuild118_0i2i (k0 : IntKind) (a0 : Int) (k2 : IntKind) (a2 : Int) : aBuild Tryd.prog 118 [(0, .int k0 a0), (2, .int k2 a2)] = some (.agg [.int k0 a0, .int .i64 0, .int k2 a2]) := by kernel_rfl
@[simp] theorem ybuild114_2s4i (p2 : Option (Nat × Nat)) (n2 : Nat) (c2 : Cap) (k4 : IntKind) (a4 : Int) : aBuild Tryd.prog 114 [(2, .slice p2 n2 c2), (4, .int k4 a4)] = some (.agg [.slice none 0 (.kn 0), .slice none 0 (.kn 0), .slice p2 n2 c2, .int .i64 0, .int k4 a4, .int .i64 0, .int .i64 0, .int .i64 0, .int .i64 0, .int .i64 0, .slice none 0 (.kn 0), .bool false]) := by kernel_rfl
@[simp] theorem ybuild100 (p : Option (Nat × Nat)) (n : Nat) (c : Cap) (a b d e : AV) : aBuild Tryd.prog 100 [(0, .slice p n c), (1, .agg [a, b, d, e])] = some (.agg [.slice p n c, a, b, d, e, .slice none 0 (.kn 0)]) := by kernel_rfl
@[simp] theorem ybuild120 (a b d : AV) (p : Option (Nat × Nat)) (n : Nat) (c : Cap) : aBuild Tryd.prog 120 [(0, .agg [a, b, d]), (1, .slice p n c)] = some (.agg [a, b, d, .slice p n c, .slice none 0 (.kn 0)]) := by kernel_rfl
@[simp] theorem ybuild127 (k j : IntKind) (a b : Int) (p : Option (Nat × Nat)) (n : Nat) (c : Cap) : aBuild Tryd.prog 127 [(0, .int k a), (2, .int j b), (3, .slice p n c)] = some (.agg [.int k a, .int .i64 0, .int j b, .slice p n c, .slice none 0 (.kn 0)]) := by kernel_rfl
@[simp] theorem ybuild141 (p q r : Option (Nat × Nat)) (n m l : Nat) (c d e : Cap) : aBuild Tryd.prog 141 [(0, .slice p n c), (1, .slice q m d), (2, .slice r l e)] = some (.agg [.slice p n c, .slice q m d, .slice r l e]) := by kernel_rfl
@[simp] theorem ybuild141_0 : aBuild Tryd.prog 141 [] = some (.agg [.slice none 0 (.kn 0), .slice none 0 (.kn 0), .slice none 0 (.kn 0)]) := by kernel_rfl
@[simp] theorem ybuild148 (p q r : Option (Nat × Nat)) (n m l : Nat) (c d e : Cap) : aBuild Tryd.prog 148 [(0, .slice p n c), (1, .slice q m d), (2, .slice r l e)] = some (.agg [.slice p n c, .slice q m d, .slice r l e]) := by kernel_rfl
@[simp] theorem ybuild91 (k j : IntKind) (n m : Int) : aBuild Tryd.prog 91 [(0, .int k n), (1, .int j m)] = some (.agg [.int k n, .int j m]) := by kernel_rfl
@[simp] theorem yfld108_0 (a b c : AV) : aField Tryd.prog 108 0 (.agg [a, b, c]) = some a := by kernel_rfl
@[simp] theorem yfld133_2 (a b c d : AV) : aField Tryd.prog 133 2 (.agg [a, b, c, d]) = some c := by kernel_rfl
theorem ysl22 : SlT Tryd.prog 22 29 3 24 :=
  ⟨by kernel_rfl, slT_info (by kernel_rfl) (by kernel_rfl) (by kernel_rfl), ⟨[.int .i64 0, .int .i64 0, .int .i64 0], by kernel_rfl, rfl⟩, by decide, by kernel_rfl, by decide⟩
theorem ysl36 : SlT Tryd.prog 36 24 4 48 :=
  ⟨by kernel_rfl, slT_info (by kernel_rfl) (by kernel_rfl) (by kernel_rfl), ⟨[.slice none 0 (.kn 0), .int .i64 0, .int .i64 0, .bool false], by kernel_rfl, rfl⟩, by decide, by kernel_rfl, by decide⟩
theorem ysl40 : SlT Tryd.prog 40 3 1 8 :=
  ⟨by kernel_rfl, slT_info (by kernel_rfl) (by kernel_rfl) (by kernel_rfl), ⟨[.int .i64 0], by kernel_rfl, rfl⟩, by decide, by kernel_rfl, by decide⟩
theorem ysl87 : SlT Tryd.prog 87 5 1 1 :=
  ⟨by kernel_rfl, slT_info (by kernel_rfl) (by kernel_rfl) (by kernel_rfl), ⟨[.int .u8 0], by kernel_rfl, rfl⟩, by decide, by kernel_rfl, by decide⟩
theorem ysl90 : SlT Tryd.prog 90 9 1 16 :=
  ⟨by kernel_rfl, slT_info (by kernel_rfl) (by kernel_rfl) (by kernel_rfl), ⟨[.str ⟨#[]⟩], by kernel_rfl, rfl⟩, by decide, by kernel_rfl, by decide⟩
attribute [go_sem] ylen22 ylen36 ylen40 ylen51 ylen61 ylen73 ylen90 ylen112 ylen139 ylen9 yalloc24 yalloc29 yalloc64 yalloc75 yalloc108 yalloc114 yalloc120 yalloc127 yalloc133 yalloc141 ybs22 ybs22_2 ybs36 ybs61 ybs73 ybs40 ybs40_2 ybs51 ybs51_2 ybs112 ystore2 ystore3 ystore5 ystore4 ystore22 ystore36 ystore40 ystore51 ystore61 ystore73 ystore112 ystore29 ystore24 ystore64 ystore75 ystore108 ystore114 ystore120 ystore127 ystore133 ystore141 ybuild29_ ybuild29_0i ybuild29_0i1i ybuild29_0i2i ybuild29_0i1i2i ybuild24_ ybuild24_0s ybuild24_1i ybuild64_ ybuild64_0i ybuild64_0i1i ybuild75_ ybuild75_0i1i2i3i ybuild108_ ybuild108_0i1i2s ybuild118_0i2i ybuild114_2s4i ybuild100 ybuild120 ybuild127 ybuild141 ybuild141_0 ybuild148 ybuild91 yfld108_0 yfld133_2
end Go.Proofs.YthiflgncldmkjaaDoor
set_option linter.unusedVariables false
set_option linter.unusedSimpArgs false
namespace Go.Ri

def wV (n : Nat) (v : Value) : Option AV := match v with
  | .bool b => some (.bool b)
  | .int k m => some (.int k m)
  | .string s => some (.str s)
  | .pointer none => some (.ptr none)
  | .pointer (some ⟨b, o, none⟩) => if b < n then some (.ptr (some (b, o))) else none
  | .slice none l c => if l ≤ c then some (.slice none l (.kn c)) else none
  | .slice (some _) 0 _ => some .empty
  | .slice (some ⟨b, o, none⟩) l c => if b < n ∧ l ≤ c then some (.slice (some (b, o)) l (.kn c)) else none
  | v => if v.oneCell' = true then some (.other v) else none
def wL (n : Nat) : List Value → Option (List AV)
  | [] => some []
  | v :: vs => (wV n v).bind fun c => (wL n vs).map fun cs => c :: cs
def absH (w : World) : AH := ⟨fun b => match w.heap[b]? with
  | some (.cells cs e fr) => (wL w.heap.size cs.toList).map fun l => ⟨l, e, false⟩
  | _ => none, w.heap.size⟩
def absRo (w : World) : Ro := fun b => if b < w.heap.size then some ⟨b, 0, match w.heap[b]? with
  | some (.cells cs _ _) => cs.size
  | _ => 0⟩ else none

theorem absRo_some {w : World} {b : Nat} (h : b < w.heap.size) : ∃ l, absRo w b = some ⟨b, 0, l⟩ := ⟨_, if_pos h⟩
theorem wV_rel {w : World} {v : Value} {c : AV} (h : wV w.heap.size v = some c) : rel (absRo w) c v ∧ c.isOne = true := by
  unfold wV at h
  split at h
  · cases h; exact ⟨rfl, rfl⟩
  · cases h; exact ⟨rfl, rfl⟩
  · cases h; exact ⟨rfl, rfl⟩
  · cases h; exact ⟨⟨none, rfl, rfl⟩, rfl⟩
  · split at h
    · rename_i b o hb
      cases h
      obtain ⟨l, hl⟩ := absRo_some hb
      exact ⟨⟨some ⟨b, 0 + o, none⟩, by simp [cAddr, hl], by simp⟩, rfl⟩
    · cases h
  · split at h
    · cases h; rename_i hlc; exact ⟨⟨none, _, rfl, rfl, hlc, rfl⟩, rfl⟩
    · cases h
  · cases h
    exact ⟨⟨_, _, rfl⟩, rfl⟩
  · split at h
    · rename_i b o l c _ hb
      cases h
      obtain ⟨l', hl⟩ := absRo_some hb.1
      exact ⟨⟨some ⟨b, 0 + o, none⟩, c, by simp [cAddr, hl], rfl, hb.2, by simp⟩, rfl⟩
    · cases h
  · split at h
    · rename_i hv; cases h; exact ⟨rfl, hv⟩
    · cases h
theorem wL_rel {w : World} : ∀ {vs : List Value} {cs : List AV}, wL w.heap.size vs = some cs → relL (absRo w) cs vs ∧ cs.all AV.isOne = true
  | [], cs, h => by cases h; exact ⟨relL_nil _, rfl⟩
  | v :: vs, cs, h => by
    simp only [wL, Option.bind_eq_some_iff, Option.map_eq_some_iff] at h
    obtain ⟨c, hc, ds, hds, rfl⟩ := h
    obtain ⟨h1, h2⟩ := wV_rel hc
    obtain ⟨h3, h4⟩ := wL_rel hds
    exact ⟨relL_cons h1 h3, by simp [h2, h4]⟩
theorem absH_sim (P : Program) {w : World} (hg : P.globals.size ≤ w.heap.size) : Sim P (absRo w) (absH w) w := by
  refine ⟨fun b B hB => ?_, fun b b' B B' r r' hB hB' _ hr hr' he => ?_, fun b hb => if_neg (by simp only [absH] at hb; omega), fun g hgl => ?_⟩
  · simp only [absH] at hB
    split at hB
    · rename_i cs e fr hcs
      simp only [Option.map_eq_some_iff] at hB
      obtain ⟨l, hl, rfl⟩ := hB
      have hlt : b < w.heap.size := (Array.getElem?_eq_some_iff.1 hcs).1
      obtain ⟨h1, h2⟩ := wL_rel hl
      refine ⟨⟨b, 0, cs.size⟩, cs, fr, cs.toList, ?_, hcs, by simp, fun h => by simp at h, h1, by simp, fun i v hi => by simpa using hi, h2⟩
      simp only [absRo, if_pos hlt, hcs]
    · cases hB
  · unfold absRo at hr hr'
    split at hr
    · split at hr'
      · cases hr; cases hr'; exact he
      · cases hr'
    · cases hr
  · obtain ⟨l, hl⟩ := absRo_some (w := w) (b := g) (by omega)
    exact ⟨l, hl⟩
open Go.RowKit in
theorem below_of_run {P : Program} {call : CallF} (hcall : CallOk P call) {f : FuncId} {vs : List AV} {v : AV} {H1 : AH} {W : World} {us : List Value} (hg : P.globals.size ≤ W.heap.size)
    (hrun : call f vs (absH W) = some (v, H1)) (hus : relL (absRo W) vs us) :
    Calls P f us.toArray W fun e W' => ∃ ρ' v', e = .returned v' ∧ rel ρ' v v' ∧ Below W.heap.size W W' := by
  obtain ⟨_, h⟩ := hcall f vs (absH W) v H1 hrun
  refine (h (absRo W) W us (absH_sim P hg) hus).mono ?_
  rintro e W' ⟨ρ', v', rfl, hr, hout⟩
  refine ⟨ρ', v', rfl, hr, hout.os, hout.tape, hout.output, hout.size, fun k hk => hout.keep k hk fun b B r hB hrw _ => ?_⟩
  simp only [absH] at hB
  split at hB
  · simp only [Option.map_eq_some_iff] at hB
    obtain ⟨l, _, rfl⟩ := hB
    simp at hrw
  · cases hB
end Go.Ri
namespace Go.Proofs.YthiflgncldmkjaaDoor
open Go.Ri Go.ChangeShapes Go.WideShapes Go.ChangeAt Go.RowKit

section
variable {H : Type} {enc : TypeId × Value → H} {P : Program}
theorem post_of_below {f : Func} {s : ChangeSpec} {apart fresh handsOn again : Bool} {W W' : World} {args : Array Value} {v : Value} {ds gs : List (DataW H)} {before pa pv : List MemPlace}
    (hW : DataW.Whole enc P f.params.toList s.vars apart W args.toList ds gs before)
    (hres : ∀ (b : Nat) (sp : Nat → Bool) (hd : Bool), DataW.TrodAll enc P W' b sp hd f.resultTypes.toList (v.resultList f.resultTypes.size) (s.fn H (ds ++ gs)).results [])
    (hargs : ∀ sp : Nat → Bool, (∀ p ∈ before, sp p.block = true) → DataW.TrodAll enc P W' 0 sp true f.params.toList args.toList (s.fn H (ds ++ gs)).args pa)
    (hvars : ∀ sp : Nat → Bool, (∀ p ∈ before, sp p.block = true) → DataW.TrodVars enc P W' sp s.vars (s.fn H (ds ++ gs)).vars pv)
    (hps : before = pa ++ pv) (hb : Below W.heap.size W W')
    (hok : ∀ (j : Nat) (t : TypeId) (r : Value), f.resultTypes[j]? = some t → (v.resultList f.resultTypes.size)[j]? = some r → Value.okWide P W' .any 0 t r) :
    s.post enc P f apart fresh handsOn again W args v W' := by
  have hlt : ∀ p ∈ before, p.block < W.heap.size := fun p hp => hW.lt p hp
  have hold : ∀ p ∈ before, (fun b => decide (b < W.heap.size)) p.block = true := fun p hp => by simpa using hlt p hp
  refine ⟨ds, gs, before, [], pa, pv, hW, hres _ _ _, hargs _ hold, hvars _ hold, World.keptBut_mono (fun p hp => ⟨hp, ?_⟩) (hb.frame (· ∈ before)), fun _ => ?_⟩
  · rw [hps, List.mem_append] at hp
    exact Or.inr hp
  · obtain ⟨_, _, _, _, _, hz, hn⟩ := hW
    refine ⟨hok, _, _, ([] ++ pa) ++ pv, ⟨[] ++ pa, pv, trodAll_append (hargs _ (fun _ _ => rfl)) (hres _ _ _), hvars _ (fun _ _ => rfl), rfl, ?_, ?_⟩, ?_⟩
    · intro b off hp
      have hin : MemPlace.cell b off ∈ before := by rw [hps]; simpa using hp
      rw [hb.frozen (hlt _ hin)]
      exact hz b off hin
    · intro ha
      have := hn ha
      rw [hps] at this
      simpa using this
    · intro p hp _
      rw [hps]
      simpa using hp
end

def wordsA : List AV := [.str ⟨#[]⟩, .str ⟨#[112, 117, 115, 104]⟩, .str ⟨#[108, 111, 97, 100]⟩, .str ⟨#[115, 116, 111, 114, 101]⟩, .str ⟨#[105, 110, 100, 101, 120]⟩, .str ⟨#[112, 117, 116]⟩, .str ⟨#[99, 108, 101, 97, 114]⟩, .str ⟨#[97, 100, 100]⟩, .str ⟨#[115, 117, 98]⟩, .str ⟨#[109, 117, 108]⟩, .str ⟨#[100, 105, 118]⟩, .str ⟨#[109, 111, 100]⟩, .str ⟨#[108, 101, 115, 115]⟩, .str ⟨#[109, 111, 115, 116]⟩, .str ⟨#[115, 97, 109, 101]⟩, .str ⟨#[110, 111, 116]⟩, .str ⟨#[110, 101, 103]⟩, .str ⟨#[106, 117, 109, 112]⟩, .str ⟨#[122, 101, 114, 111]⟩, .str ⟨#[99, 97, 108, 108]⟩, .str ⟨#[108, 101, 97, 118, 101]⟩, .str ⟨#[112, 114, 105, 110, 116]⟩, .str ⟨#[114, 101, 97, 100]⟩, .str ⟨#[116, 101, 115, 116]⟩, .str ⟨#[109, 97, 114, 107]⟩, .str ⟨#[100, 114, 111, 112]⟩]
def stackN : List Int := [0,0,0,1,0,1,1,0,1,1,2,0,0,0,2,1,2,1,2,1,2,1,2,1,2,1,2,1,2,1,1,1,1,1,0,0,1,0,0,0,0,0,1,0,0,1,1,0,0,0,1,0]
def stackA : List AV := stackN.map (.int .i64)
structure Tabs (H : AH) : Prop where
  words : ∃ e, H.m 0 = some ⟨wordsA, e, false⟩
  stack : ∃ e, H.m 1 = some ⟨stackA, e, false⟩
  two : 2 ≤ H.next

theorem gWords : Tryd.prog.globalNamed "parallax/code.words" = some 0 := by kernel_rfl
theorem gStack : Tryd.prog.globalNamed "parallax/code.stack" = some 1 := by kernel_rfl
theorem globals2 : Tryd.prog.globals.size = 2 := by kernel_rfl
theorem tWords : (Tryd.prog.globals[0]?).map (·.type) = some 89 := by kernel_rfl
theorem tStack : (Tryd.prog.globals[1]?).map (·.type) = some 173 := by kernel_rfl
theorem under89 : Tryd.prog.underlying 89 = some (.array 26 9) := by kernel_rfl
theorem under9 : Tryd.prog.underlying 9 = some .string := by kernel_rfl
theorem under173 : Tryd.prog.underlying 173 = some (.array 26 172) := by kernel_rfl
theorem under172 : Tryd.prog.underlying 172 = some (.array 2 3) := by kernel_rfl
theorem under3 : Tryd.prog.underlying 3 = some (.int .i64) := by kernel_rfl
theorem cells89 : Tryd.prog.cellsOf 89 = 26 := by kernel_rfl
theorem cells9 : Tryd.prog.cellsOf 9 = 1 := by kernel_rfl
theorem cells173 : Tryd.prog.cellsOf 173 = 52 := by kernel_rfl
theorem cells172 : Tryd.prog.cellsOf 172 = 2 := by kernel_rfl
theorem cells3 : Tryd.prog.cellsOf 3 = 1 := by kernel_rfl

theorem cells_of_strs {W : World} {m : Nat} {cs : List Value} {ls : List (List UInt8)} {p : List MemPlace}
    (h : DataW.trod (fun _ => ()) Tryd.prog W 0 (fun _ => true) false m 89 cs = some (.agg (ls.map fun s => .lit (.string s)), p)) : cs = ls.map fun s => .string ⟨s.toArray⟩ := by
  obtain ⟨xs, m', _, hx, hl, hn, hel⟩ := DataW.trod_array under89 h
  simp only [Prod.mk.injEq, DataW.agg.injEq] at hx
  have hxl : ls.length = 26 := by have := congrArg List.length hx.1; simp at this; omega
  rw [cells89] at hl
  apply List.ext_getElem?
  intro i
  by_cases hi : i < 26
  · have h1 := hel i hi
    rw [cells9, Nat.mul_one, List.getElem?_eq_getElem (by omega)] at h1
    obtain ⟨s, hs, hxs, _⟩ := DataW.trod_string under9 h1
    have e1 : cs[i]? = some (.string s) := by
      have := congrArg (·[0]?) hs
      simpa [List.getElem?_take, List.getElem?_drop] using this
    have e2 : (xs.map (·.1))[i]? = some (DataW.lit (.string s.data.toList) : DataW Unit) := by
      rw [List.getElem?_map, List.getElem?_eq_getElem (by omega), hxs]; rfl
    rw [← hx.1, List.getElem?_map, Option.map_eq_some_iff] at e2
    obtain ⟨z, hz, hz2⟩ := e2
    simp only [DataW.lit.injEq, Lit.string.injEq] at hz2
    rw [e1, List.getElem?_map, hz, hz2]
    rfl
  · rw [List.getElem?_eq_none (by omega), List.getElem?_eq_none (by simp; omega)]
theorem cells_of_pairs {W : World} {m : Nat} {cs : List Value} {ls : List (Int × Int)} {p : List MemPlace}
    (h : DataW.trod (fun _ => ()) Tryd.prog W 0 (fun _ => true) false m 173 cs = some (.agg (ls.map fun s => .agg [.lit (.int .i64 s.1), .lit (.int .i64 s.2)]), p)) : cs = ls.flatMap fun s => [.int .i64 s.1, .int .i64 s.2] := by
  obtain ⟨xs, m', _, hx, hl, hn, hel⟩ := DataW.trod_array under173 h
  simp only [Prod.mk.injEq, DataW.agg.injEq] at hx
  have hxl : ls.length = 26 := by have := congrArg List.length hx.1; simp at this; omega
  rw [cells173] at hl
  have key : ∀ i, i < 26 → ∃ a b, ls[i]? = some (a, b) ∧ cs[i * 2]? = some (.int .i64 a) ∧ cs[i * 2 + 1]? = some (.int .i64 b) := by
    intro i hi
    have h1 := hel i hi
    rw [cells172, List.getElem?_eq_getElem (by omega)] at h1
    obtain ⟨a, b, hab⟩ : ∃ a b, ls[i]? = some (a, b) := ⟨_, _, List.getElem?_eq_getElem (by omega)⟩
    have e2 : (xs.map (·.1))[i]? = some (DataW.agg [.lit (.int .i64 a), .lit (.int .i64 b)] : DataW Unit) := by
      rw [← hx.1, List.getElem?_map, hab]; rfl
    rw [List.getElem?_map, List.getElem?_eq_getElem (by omega)] at e2
    have e3 : xs[i] = (Lib.tabData .i64 [a, b], xs[i].2) := by
      simp only [Option.map_some, Option.some.injEq] at e2
      exact Prod.ext e2 rfl
    rw [e3] at h1
    have := Lib.cells_of_tab under172 under3 cells3 cells172 h1
    refine ⟨a, b, hab, ?_, ?_⟩
    · have := congrArg (·[0]?) this
      simpa [List.getElem?_take, List.getElem?_drop] using this
    · have := congrArg (·[1]?) this
      simpa [List.getElem?_take, List.getElem?_drop] using this
  have hfl : ∀ (l : List (Int × Int)) (i : Nat), (l.flatMap fun s => [Value.int .i64 s.1, Value.int .i64 s.2])[i]? = (l[i / 2]?).map fun s => if i % 2 = 0 then Value.int .i64 s.1 else Value.int .i64 s.2 := by
    intro l
    induction l with
    | nil => intro i; simp
    | cons s l ih =>
      intro i
      match i with
      | 0 => simp
      | 1 => simp
      | i + 2 =>
        have := ih i
        rw [show (i + 2) / 2 = i / 2 + 1 by omega, show (i + 2) % 2 = i % 2 by omega]
        simpa using this
  apply List.ext_getElem?
  intro i
  rw [hfl]
  by_cases hi : i < 52
  · obtain ⟨a, b, h1, h2, h3⟩ := key (i / 2) (by omega)
    rw [h1]
    by_cases hp : i % 2 = 0
    · rw [show i / 2 * 2 = i by omega] at h2
      simp [h2, hp]
    · rw [show i / 2 * 2 + 1 = i by omega] at h3
      simp [h3, hp]
  · rw [List.getElem?_eq_none (by omega), List.getElem?_eq_none (by omega)]
    rfl

def laidTabs : List (String × DataW Unit) := [("parallax/code.words", Rows.laid_parallax_code_words), ("parallax/code.stack", Rows.laid_parallax_code_stack)]
def wordsV : List Value := [.string ⟨#[]⟩, .string ⟨#[112, 117, 115, 104]⟩, .string ⟨#[108, 111, 97, 100]⟩, .string ⟨#[115, 116, 111, 114, 101]⟩, .string ⟨#[105, 110, 100, 101, 120]⟩, .string ⟨#[112, 117, 116]⟩, .string ⟨#[99, 108, 101, 97, 114]⟩, .string ⟨#[97, 100, 100]⟩, .string ⟨#[115, 117, 98]⟩, .string ⟨#[109, 117, 108]⟩, .string ⟨#[100, 105, 118]⟩, .string ⟨#[109, 111, 100]⟩, .string ⟨#[108, 101, 115, 115]⟩, .string ⟨#[109, 111, 115, 116]⟩, .string ⟨#[115, 97, 109, 101]⟩, .string ⟨#[110, 111, 116]⟩, .string ⟨#[110, 101, 103]⟩, .string ⟨#[106, 117, 109, 112]⟩, .string ⟨#[122, 101, 114, 111]⟩, .string ⟨#[99, 97, 108, 108]⟩, .string ⟨#[108, 101, 97, 118, 101]⟩, .string ⟨#[112, 114, 105, 110, 116]⟩, .string ⟨#[114, 101, 97, 100]⟩, .string ⟨#[116, 101, 115, 116]⟩, .string ⟨#[109, 97, 114, 107]⟩, .string ⟨#[100, 114, 111, 112]⟩]
theorem wL_wordsV (n : Nat) : wL n wordsV = some wordsA := rfl
theorem wL_ints (n : Nat) : ∀ l : List Int, wL n (l.map fun z => .int .i64 z) = some (l.map (.int .i64))
  | [] => rfl
  | z :: l => by simp [wL, wV, wL_ints n l]

theorem tabs_of_laid {W : World} (h : laidMetH Tryd.prog laidTabs W) : Tabs (absH W) := by
  rw [MakeChecks.laidMetH_plain _ _ _ (by rfl)] at h
  obtain ⟨ps, ⟨g0, t0, cs0, f0, p0, q0, hg0, ht0, hv0, hd0, ⟨g1, t1, cs1, f1, p1, q1, hg1, ht1, hv1, hd1, _, _⟩, _⟩, _, _⟩ := h
  obtain rfl := Option.some.inj (gWords.symm.trans hg0)
  obtain rfl := Option.some.inj (gStack.symm.trans hg1)
  obtain rfl := Option.some.inj (tWords.symm.trans ht0)
  obtain rfl := Option.some.inj (tStack.symm.trans ht1)
  simp only [World.var?, hg0, Option.bind_some] at hv0
  simp only [World.var?, hg1, Option.bind_some] at hv1
  split at hv0
  · rename_i c0 e0 fr0 hc0
    split at hv1
    · rename_i c1 e1 fr1 hc1
      cases hv0
      cases hv1
      have k0 := cells_of_strs (ls := [[], [112, 117, 115, 104], [108, 111, 97, 100], [115, 116, 111, 114, 101], [105, 110, 100, 101, 120], [112, 117, 116], [99, 108, 101, 97, 114], [97, 100, 100], [115, 117, 98], [109, 117, 108], [100, 105, 118], [109, 111, 100], [108, 101, 115, 115], [109, 111, 115, 116], [115, 97, 109, 101], [110, 111, 116], [110, 101, 103], [106, 117, 109, 112], [122, 101, 114, 111], [99, 97, 108, 108], [108, 101, 97, 118, 101], [112, 114, 105, 110, 116], [114, 101, 97, 100], [116, 101, 115, 116], [109, 97, 114, 107], [100, 114, 111, 112]]) hd0
      have k1 := cells_of_pairs (ls := [(0,0),(0,1),(0,1),(1,0),(1,1),(2,0),(0,0),(2,1),(2,1),(2,1),(2,1),(2,1),(2,1),(2,1),(2,1),(1,1),(1,1),(0,0),(1,0),(0,0),(0,0),(1,0),(0,1),(1,0),(0,0),(1,0)]) hd1
      refine ⟨⟨e0, ?_⟩, ⟨e1, ?_⟩, ?_⟩
      · simp only [absH, hc0, k0]
        exact congrArg (Option.map _) (wL_wordsV _)
      · simp only [absH, hc1, k1]
        exact congrArg (Option.map _) (wL_ints _ stackN)
      · have := (Array.getElem?_eq_some_iff.1 hc1).1
        simp only [absH]
        omega
    · cases hv1
  · cases hv0
end Go.Proofs.YthiflgncldmkjaaDoor
set_option linter.unusedVariables false
set_option maxRecDepth 100000
namespace Go.Proofs.YthiflgncldmkjaaDoor
open Go.Ri
def mTabs (e0 e1 : TypeId) : Nat → Option Blk := fun b => if b = 0 then some ⟨wordsA, e0, false⟩ else if b = 1 then some ⟨stackA, e1, false⟩ else none
def saysTrue : Option (AV × AH) → Bool
  | some (.bool true, _) => true
  | _ => false
theorem saysTrue_some {x : Option (AV × AH)} (h : saysTrue x = true) : ∃ H1, x = some (.bool true, H1) := by
  unfold saysTrue at h
  split at h
  · exact ⟨_, rfl⟩
  · cases h
theorem wordsA_flat : wordsA.all flat = true := by decide
theorem stackA_flat : stackA.all flat = true := by decide
theorem mTabs_ok (e0 e1 : TypeId) : ∀ b B, mTabs e0 e1 b = some B → b < 2 ∧ B.rw_ = false ∧ B.cells.all flat = true := by
  intro b B h
  unfold mTabs at h
  split at h
  · cases h; exact ⟨by omega, rfl, wordsA_flat⟩
  · split at h
    · cases h; exact ⟨by omega, rfl, stackA_flat⟩
    · cases h
end Go.Proofs.YthiflgncldmkjaaDoor
set_option linter.unusedVariables false
set_option linter.unusedSimpArgs false
set_option maxRecDepth 100000
namespace Go.Proofs.YthiflgncldmkjaaDoor
open Go.Ri Go.ChangeShapes Go.WideShapes Go.ChangeAt Go.RowKit

theorem small_sub {H : AH} (h : Tabs H) : ∃ e0 e1, ∀ b B, mTabs e0 e1 b = some B → H.m b = some B := by
  obtain ⟨⟨e0, h0⟩, ⟨e1, h1⟩, _⟩ := h
  refine ⟨e0, e1, fun b B hb => ?_⟩
  unfold mTabs at hb
  split at hb
  · rename_i e; subst e; rw [← hb]; exact h0
  · split at hb
    · rename_i e; subst e; rw [← hb]; exact h1
    · cases hb

theorem own : ownKnob Tryd.prog.godebug = none := by kernel_rfl
theorem under4 : Tryd.prog.underlying 4 = some .bool := by kernel_rfl

def setCells (cs : Array Value) : Obj → Obj
  | .cells _ t frozen => .cells cs t frozen
  | o => o
noncomputable def laidWorld (os : Os) : World :=
  { World.holding Tryd.prog os ⟨#[], #[], []⟩ with heap := ((World.holding Tryd.prog os ⟨#[], #[], []⟩).heap.modify 0 (setCells wordsV.toArray)).modify 1 (setCells (stackN.map fun z => Value.int .i64 z).toArray) }
theorem laid_met (os : Os) (args : Array Value) : laidMet Tryd.prog laidTabs ((laidWorld os).forCall (fun _ _ => 0) ⟨#[], args, []⟩).memory :=
  laidMet_of_run' 8 (by kernel_rfl) (by kernel_rfl)
end Go.Proofs.YthiflgncldmkjaaDoor
set_option linter.unusedVariables false
set_option linter.unusedSimpArgs false
set_option maxRecDepth 100000
namespace Go.Proofs.YthiflgncldmkjaaDoor
open Go.Ri

theorem wordOf_size (op : Int) : (wordOf op).size < 10 := by
  have h : wordsL.all (fun s => decide (s.size < 10)) = true := by decide
  unfold wordOf
  rw [List.getD_eq_getElem?_getD]
  cases he : wordsL[op.toNat]? with
  | none => exact (by decide)
  | some s => simpa using List.all_eq_true.1 h s (List.mem_of_getElem? he)
theorem lineWords_size {op n m : Int} : ∀ s ∈ lineWords op n m, s.size < 30 := by
  intro s hs
  have h1 := txt_length n
  have h2 := txt_length m
  have h3 := wordOf_size op
  have e : ∀ l : List Int, (strOfNums l).size = l.length := fun l => strOfNums_size l
  simp only [lineWords, List.mem_cons, List.mem_append] at hs
  rcases hs with rfl | hs | hs
  · omega
  · split at hs
    · simp only [List.mem_cons, List.not_mem_nil, or_false] at hs
      subst hs
      rw [e]; omega
    · simp at hs
  · split at hs
    · simp only [List.mem_cons, List.not_mem_nil, or_false] at hs
      subst hs
      rw [e]; omega
    · simp at hs

theorem line_spec {op n m : Int} (hn : InI n) (hm : InI m) {H : AH} (hw : H.wf) (hW : Words H) (k : Nat) (hk : 3 ≤ k) :
    Ret (F23 S23 (iter k) (.agg [.int .i64 op, .int .i64 n, .int .i64 m]) H) fun r => r.1 = lineAV op n m ∧ H.sub r.2 := by
  unfold F23
  have hbox : nBox 29 (.agg [.int .i64 op, .int .i64 n, .int .i64 m]) = some ⟨[.int .i64 op, .int .i64 n, .int .i64 m], 29, ptrTo⟩ := rfl
  have x1 : Ext H.next H (H.new [.int .i64 op, .int .i64 n, .int .i64 m] 29) := (Ext.refl hw).new _ _
  simp only [hbox, Option.bind_some, ptrTo, ptrAdd, Nat.zero_add, ld_new, List.getElem?_cons_zero, aBin_lss, gdv_bool, asB_bool]
  by_cases h1 : op < 1
  · simp only [h1, decide_true, show (true == false) = false from rfl, Bool.false_eq_true, if_false, if_true, Option.bind_some, asB_bool]
    refine .mk ⟨?_, x1.sub hw⟩
    simp only [lineAV, lineOf]
    rw [if_pos (.inl h1)]
  · simp only [h1, decide_false, show (false == false) = true from rfl, Bool.false_eq_true, if_false, if_true, Option.bind_some, asB_bool, ld_new, List.getElem?_cons_zero, aBin_gtr]
    by_cases h2 : op > 25
    · simp only [h2, decide_true, if_true]
      refine .mk ⟨?_, x1.sub hw⟩
      simp only [lineAV, lineOf]
      rw [if_pos (.inr h2)]
    · simp only [h2, decide_false, Bool.false_eq_true, if_false]
      obtain ⟨e, rw_, hW0⟩ := hW
      have h0n : 0 < H.next := hw 0 _ hW0
      have hop : 1 ≤ op ∧ op ≤ 25 := by omega
      have hidx : idxPtr (.ptr (some (0, 0))) (.int .i64 op) 26 1 = some (.ptr (some (0, op.toNat))) := by
        simp only [idxPtr, ptrAdd]
        rw [if_pos (by omega)]
        simp
      have hwl : wordsL.length = 26 := by simp [wordsL]
      have hword : ldOne (.ptr (some (0, op.toNat))) (H.new [.int .i64 op, .int .i64 n, .int .i64 m] 29) = some (.str (wordOf op)) := by
        rw [ld_old (by omega)]
        simp only [ldOne, AH.ld, hW0, Option.bind_some, List.getElem?_map, wordOf, List.getD_eq_getElem?_getD]
        rw [List.getElem?_eq_getElem (show op.toNat < wordsL.length by omega)]
        rfl
      simp only [hidx, hword, Option.bind_some, bs90]
      have hne : H.next ≠ (H.new [.int .i64 op, .int .i64 n, .int .i64 m] 29).next := by simp [AH.new]
      simp only [ld_old hne, ld_new, List.getElem?_cons_zero, List.getElem?_cons_succ, Option.bind_some, S23_65 hop, aBin_lss, gdv_bool, asB_bool]
      -- the numbers that must be nothing
      have x2 : Ext H.next H ((H.new [.int .i64 op, .int .i64 n, .int .i64 m] 29).new [.str (wordOf op)] 9) := x1.new _ _
      have no : (nums op < 1 ∧ n ≠ 0) ∨ (nums op < 2 ∧ m ≠ 0) → lineAV op n m = .tuple [.str ⟨#[]⟩, .int .i64 61] := fun h => by
        simp only [lineAV, lineOf]
        rw [if_neg (by omega), if_pos h]
      have cont : ∀ T : Tm, T 4 = slTo 1 1 (H.new [.int .i64 op, .int .i64 n, .int .i64 m] 29).next → T 5 = .int .i64 (nums op) → T 44 = .agg [.int .i64 n, .int .i64 m] → T 45 = .int .i64 0 → ¬ ((nums op < 1 ∧ n ≠ 0) ∨ (nums op < 2 ∧ m ≠ 0)) →
          Ret ((iter k (body23 S23) (T, (H.new [.int .i64 op, .int .i64 n, .int .i64 m] 29).new [.str (wordOf op)] 9)).bind fun r55 => match r55.1 with
            | .normal => none
            | .exit j56 => if j56 = 0 then ((S23 66 [(r55.2.1 4)] r55.2.2).bind fun r68 => some ((.tuple [r68.1, (.int .i64 0)]), r68.2)) else none
            | .ret => some ((.tuple [(r55.2.1 2), (r55.2.1 3)]), r55.2.2)) fun r => r.1 = lineAV op n m ∧ H.sub r.2 := by
        intro T a4 a5 a44 a45 hok
        refine Ret.then (loop23 hn hm x2 ⟨_, _, ?_, a4, .inl rfl, by simp, by simp [AH.new, setM_same]⟩ a5 a44 a45 k hk) ?_
        · simp [AH.new]
        · rintro ⟨e, T1, H1⟩ ⟨he, hws, hx⟩
          simp only at he
          subst he
          obtain ⟨b, c, hb, hs4, hc, hpos, hm4⟩ := hws
          have t4 : T1 4 = _ := hs4
          have hx' : Ext H.next H H1 := hx
          have hm4' : H1.m b = _ := hm4
          have hsz : ∀ s ∈ lineWords op n m, s.size < 1000 := fun s hs => by have := lineWords_size s hs; omega
          have hll : (lineWords op n m).length < 1000000 := by rcases nums_three op with h | h | h <;> simp [lineWords, h]
          have hld : H1.ldN (b, 0) (lineWords op n m).length = some ((lineWords op n m).map .str) := by
            simp only [AH.ldN, hm4', Option.bind_some]
            rw [if_pos (by simp)]
            rw [List.drop_zero, List.take_of_length_le (by simp)]
          simp only [if_true, t4, S23_66 hld rfl hll hsz, Option.bind_some]
          refine .mk ⟨?_, hx'.sub hw⟩
          simp only [lineAV, lineOf]
          rw [if_neg (by omega), if_neg hok]
      have hb91 := build91 n m
      clear hword hidx
      by_cases h3 : (nums op < 1 ∧ n ≠ 0) ∨ (nums op < 2 ∧ m ≠ 0)
      · have hno := no h3
        clear cont no
        have hs2 := x2.sub hw
        rcases nums_three op with hnm | hnm | hnm <;> rw [hnm] at h3 ⊢
        · rcases Decidable.em (n = 0) with hn0 | hn0
          · rcases Decidable.em (m = 0) with hm0 | hm0
            · exact absurd h3 (by simp [hn0, hm0])
            · simp -implicitDefEqProofs only [go_sem, Nat.reduceAdd, Nat.reduceMul, Nat.reduceLT, Nat.reduceLeDiff, Nat.reduceEqDiff, Nat.reduceBEq, reduceCtorEq, Int.reduceLT, Int.reduceLE, Int.reduceEq, Int.reduceGT, Int.reduceGE, Int.reduceToNat, Int.reduceNeg, decide_eq_true hn0, decide_eq_false hm0]
              exact .mk ⟨hno.symm, hs2⟩
          · simp -implicitDefEqProofs only [go_sem, Nat.reduceAdd, Nat.reduceMul, Nat.reduceLT, Nat.reduceLeDiff, Nat.reduceEqDiff, Nat.reduceBEq, reduceCtorEq, Int.reduceLT, Int.reduceLE, Int.reduceEq, Int.reduceGT, Int.reduceGE, Int.reduceToNat, Int.reduceNeg, decide_eq_false hn0]
            exact .mk ⟨hno.symm, hs2⟩
        · rcases Decidable.em (m = 0) with hm0 | hm0
          · exact absurd h3 (by simp [hm0])
          · simp -implicitDefEqProofs only [go_sem, Nat.reduceAdd, Nat.reduceMul, Nat.reduceLT, Nat.reduceLeDiff, Nat.reduceEqDiff, Nat.reduceBEq, reduceCtorEq, Int.reduceLT, Int.reduceLE, Int.reduceEq, Int.reduceGT, Int.reduceGE, Int.reduceToNat, Int.reduceNeg, decide_eq_false hm0]
            exact .mk ⟨hno.symm, hs2⟩
        · exact absurd h3 (by simp)
      · have hc := fun T a4 a5 a44 a45 => cont T a4 a5 a44 a45 h3
        clear cont no
        rcases nums_three op with hnm | hnm | hnm <;> rw [hnm] at h3 hc ⊢
        · have hn0 : n = 0 := Classical.byContradiction fun h => h3 (.inl ⟨by omega, h⟩)
          have hm0 : m = 0 := Classical.byContradiction fun h => h3 (.inr ⟨by omega, h⟩)
          simp -implicitDefEqProofs only [go_sem, Nat.reduceAdd, Nat.reduceMul, Nat.reduceLT, Nat.reduceLeDiff, Nat.reduceEqDiff, Nat.reduceBEq, reduceCtorEq, Int.reduceLT, Int.reduceLE, Int.reduceEq, Int.reduceGT, Int.reduceGE, Int.reduceToNat, Int.reduceNeg, decide_eq_true hn0, decide_eq_true hm0]
          refine hc _ ?_ ?_ ?_ ?_ <;> simp -implicitDefEqProofs only [go_sem, Nat.reduceAdd, Nat.reduceMul, Nat.reduceLT, Nat.reduceLeDiff, Nat.reduceEqDiff, Nat.reduceBEq, reduceCtorEq, Int.reduceLT, Int.reduceLE, Int.reduceEq, Int.reduceGT, Int.reduceGE, Int.reduceToNat, Int.reduceNeg]
        · have hm0 : m = 0 := Classical.byContradiction fun h => h3 (.inr ⟨by omega, h⟩)
          simp -implicitDefEqProofs only [go_sem, Nat.reduceAdd, Nat.reduceMul, Nat.reduceLT, Nat.reduceLeDiff, Nat.reduceEqDiff, Nat.reduceBEq, reduceCtorEq, Int.reduceLT, Int.reduceLE, Int.reduceEq, Int.reduceGT, Int.reduceGE, Int.reduceToNat, Int.reduceNeg, decide_eq_true hm0]
          refine hc _ ?_ ?_ ?_ ?_ <;> simp -implicitDefEqProofs only [go_sem, Nat.reduceAdd, Nat.reduceMul, Nat.reduceLT, Nat.reduceLeDiff, Nat.reduceEqDiff, Nat.reduceBEq, reduceCtorEq, Int.reduceLT, Int.reduceLE, Int.reduceEq, Int.reduceGT, Int.reduceGE, Int.reduceToNat, Int.reduceNeg]
        · simp -implicitDefEqProofs only [go_sem, Nat.reduceEqDiff, Nat.reduceBEq, reduceCtorEq]
          refine hc _ ?_ ?_ ?_ ?_ <;> simp -implicitDefEqProofs only [go_sem, Nat.reduceAdd, Nat.reduceMul, Nat.reduceLT, Nat.reduceLeDiff, Nat.reduceEqDiff, Nat.reduceBEq, reduceCtorEq, Int.reduceLT, Int.reduceLE, Int.reduceEq, Int.reduceGT, Int.reduceGE, Int.reduceToNat, Int.reduceNeg]

theorem wordsA_eq : wordsA = wordsL.map .str := by rfl
theorem Tabs.Words {H : AH} (h : Tabs H) : Words H := by
  obtain ⟨e, he⟩ := h.words
  exact ⟨e, false, by rw [he, wordsA_eq]⟩
theorem lineAV_flat (op n m : Int) : flatT (lineAV op n m) = true := by
  unfold lineAV
  split <;> rfl
noncomputable def gLine (vs : List AV) (H : AH) : Option (AV × AH) := match vs with
  | [.agg [.int .i64 op, .int .i64 n, .int .i64 m]] => chk (InI n ∧ InI m ∧ Tabs H) (some (lineAV op n m, H))
  | _ => none
theorem ok23 : Ok1 Tryd.prog 23 gLine := by
  refine ok1_flat S23_ok ⟨_, Tryd.func23, by kernel_rfl, by kernel_rfl⟩ fun vs H v H' hg => ?_
  unfold gLine at hg
  split at hg
  · rename_i op n m
    obtain ⟨⟨hn, hm, hT⟩, hg⟩ := chk_some hg
    cases hg
    refine ⟨rfl, lineAV_flat op n m, fun hw => Ret.run (n := 3) ?_⟩
    rw [F23_eq]
    exact line_spec hn hm hw hT.Words 3 (by omega)
  · cases hg
end Go.Proofs.YthiflgncldmkjaaDoor
set_option linter.unusedVariables false
set_option linter.unusedSimpArgs false
set_option maxRecDepth 100000
namespace Go.Proofs.YthiflgncldmkjaaDoor
open Go.Ri

def takes (op : Int) : Int := stackN.getD (op.toNat * 2) 0
def leaves (op : Int) : Int := stackN.getD (op.toNat * 2 + 1) 0
theorem op_cases {op : Int} (h : 1 ≤ op ∧ op ≤ 25) : op = 1 ∨ op = 2 ∨ op = 3 ∨ op = 4 ∨ op = 5 ∨ op = 6 ∨ op = 7 ∨ op = 8 ∨ op = 9 ∨ op = 10 ∨ op = 11 ∨ op = 12 ∨ op = 13 ∨ op = 14 ∨ op = 15 ∨ op = 16 ∨ op = 17 ∨ op = 18 ∨ op = 19 ∨ op = 20 ∨ op = 21 ∨ op = 22 ∨ op = 23 ∨ op = 24 ∨ op = 25 := by omega
theorem rowAt_in {op : Int} (h : 1 ≤ op ∧ op ≤ 25) : rowAt op = [.str (wordOf op), .int .i64 (nums op), .int .i64 (takes op), .int .i64 (leaves op)] := by
  rcases op_cases h with rfl | rfl | rfl | rfl | rfl | rfl | rfl | rfl | rfl | rfl | rfl | rfl | rfl | rfl | rfl | rfl | rfl | rfl | rfl | rfl | rfl | rfl | rfl | rfl | rfl <;> rfl
theorem rowAt_out {op : Int} (h : ¬ (1 ≤ op ∧ op ≤ 25)) : rowAt op = [.str ⟨#[]⟩, .int .i64 0, .int .i64 0, .int .i64 0] := by
  unfold rowAt
  rw [if_neg (by omega)]
  rfl
theorem wordOf_ne {op : Int} (h : 1 ≤ op ∧ op ≤ 25) : ((wordOf op).toList == (⟨#[]⟩ : ByteArray).toList) = false := by
  rw [toList_data, toList_data]
  rcases op_cases h with rfl | rfl | rfl | rfl | rfl | rfl | rfl | rfl | rfl | rfl | rfl | rfl | rfl | rfl | rfl | rfl | rfl | rfl | rfl | rfl | rfl | rfl | rfl | rfl | rfl <;> rfl
noncomputable def S63 : CallF := addT (addT noT 64 gText) 92 g92
theorem S63_ok : CallOk Tryd.prog S63 := addT_ok (addT_ok (noT_ok _) ok64) ok92
theorem S63_64 {n : Int} (h : InI n) (H : AH) : S63 64 [.int .i64 n] H = some (.str (strOfNums (txt n)), H) := chk_pos h _
theorem S63_92 (op : Int) (H : AH) : S63 92 [.int .i64 op] H = some (.agg (rowAt op), H) := rfl
theorem cat_str (t : TypeId) (x y : ByteArray) (h : x.size + y.size ≤ 1000000000000) : aBin Tryd.prog .add t (.str x) (.str y) = some (.str (x ++ y)) := aBin_cat _ _ _ _ (by omega)
theorem txt_size (n : Int) : (strOfNums (txt n)).size ≤ 20 := by rw [strOfNums_size]; exact txt_length n
theorem size_append (x y : ByteArray) : (x ++ y).size = x.size + y.size := ByteArray.size_append

theorem lineAV_bad {op n m : Int} (h : op < 1 ∨ 25 < op ∨ (nums op < 1 ∧ n ≠ 0) ∨ (nums op < 2 ∧ m ≠ 0)) : lineAV op n m = .tuple [.str ⟨#[]⟩, .int .i64 61] := by
  simp only [lineAV, lineOf]
  by_cases h1 : op < 1 ∨ 25 < op
  · rw [if_pos h1]
  · rw [if_neg h1, if_pos (by rcases h with h | h | h <;> simp_all)]
theorem lineAV_good {op n m : Int} (hop : 1 ≤ op ∧ op ≤ 25) (h : ¬ ((nums op < 1 ∧ n ≠ 0) ∨ (nums op < 2 ∧ m ≠ 0))) : lineAV op n m = .tuple [.str (strOfNums (joinL 0 (lineWords op n m))), .int .i64 0] := by
  simp only [lineAV, lineOf]
  rw [if_neg (by omega), if_neg h]
theorem blank_cat (x : ByteArray) (l : List Int) : x ++ ⟨#[32]⟩ ++ strOfNums l = strOfNums (byteL x ++ 32 :: l) := by
  rw [show (⟨#[32]⟩ : ByteArray) = strOfNums [32] from rfl]
  conv => lhs; rw [← str_byteL x]
  rw [str_append, str_append]
  simp
theorem byteL_str (l : List Int) (h : ∀ n ∈ l, 0 ≤ n ∧ n < 256) : byteL (strOfNums l) = l := by
  simp only [byteL, strOfNums, List.map_map]
  conv => rhs; rw [← List.map_id l]
  apply List.map_congr_left
  intro n hn
  have := h n hn
  simp only [Function.comp, id]
  rw [UInt8.toNat_ofNat']
  omega
theorem dg_small : ∀ (f u : Nat) (acc : List Int), (∀ n ∈ acc, 0 ≤ n ∧ n < 256) → ∀ n ∈ dg f u acc, 0 ≤ n ∧ n < 256
  | 0, u, acc, h => h
  | f + 1, u, acc, h => by
    have h' : ∀ n ∈ ((48 + u % 10 : Nat) : Int) :: acc, 0 ≤ n ∧ n < 256 := by
      intro n hn
      simp only [List.mem_cons] at hn
      rcases hn with rfl | hn
      · omega
      · exact h n hn
    rw [dg]
    split
    · exact h'
    · exact dg_small f _ _ h'
theorem txt_small (n : Int) : ∀ x ∈ txt n, 0 ≤ x ∧ x < 256 := by
  have h := dg_small 19 n.natAbs [] (by simp)
  unfold txt
  split
  · intro x hx
    simp only [List.mem_cons] at hx
    rcases hx with rfl | hx
    · omega
    · exact h x hx
  · exact h
theorem join_one (op n m : Int) (h : nums op = 0) : strOfNums (joinL 0 (lineWords op n m)) = wordOf op := by
  simp [lineWords, h, joinL, str_byteL]
theorem join_two (op n m : Int) (h : nums op = 1) : strOfNums (joinL 0 (lineWords op n m)) = wordOf op ++ ⟨#[32]⟩ ++ strOfNums (txt n) := by
  rw [blank_cat]
  simp [lineWords, h, joinL, byteL_str _ (txt_small n)]
theorem join_three (op n m : Int) (h : nums op = 2) : strOfNums (joinL 0 (lineWords op n m)) = wordOf op ++ ⟨#[32]⟩ ++ strOfNums (txt n) ++ ⟨#[32]⟩ ++ strOfNums (txt m) := by
  rw [blank_cat, blank_cat]
  have e : byteL (strOfNums (byteL (wordOf op) ++ 32 :: txt n)) = byteL (wordOf op) ++ 32 :: txt n := by
    apply byteL_str
    intro x hx
    simp only [List.mem_append, List.mem_cons] at hx
    rcases hx with hx | rfl | hx
    · simp only [byteL, List.mem_map] at hx
      obtain ⟨y, _, rfl⟩ := hx
      have := y.toNat_lt
      omega
    · omega
    · exact txt_small n x hx
  rw [e]
  simp [lineWords, h, joinL, byteL_str _ (txt_small n), byteL_str _ (txt_small m)]

theorem line_ref {op n m : Int} (hn : InI n) (hm : InI m) {H : AH} (hw : H.wf) (k : Nat) :
    Ret (F63 S63 (iter k) (.agg [.int .i64 op, .int .i64 n, .int .i64 m]) H) fun r => r.1 = lineAV op n m ∧ H.sub r.2 := by
  unfold F63
  have hx : ∀ cs, Ext H.next H (((H.new [.int .i64 op, .int .i64 n, .int .i64 m] 29).new [.str ⟨#[]⟩, .int .i64 0, .int .i64 0, .int .i64 0] 133).put (H.next + 1) ⟨cs, 133, true⟩) :=
    fun cs => Ext.put (((Ext.refl hw).new _ _).new _ _) (by omega) (by simp only [new_next]; omega) _
  have hsub := fun cs => (hx cs).sub hw
  by_cases hop : 1 ≤ op ∧ op ≤ 25
  · have hr := rowAt_in hop
    have hwz := wordOf_size op
    have hc1 : ∀ t, aBin Tryd.prog .add t (.str (wordOf op)) (.str ⟨#[32]⟩) = some (.str (wordOf op ++ ⟨#[32]⟩)) := fun t => cat_str t _ _ (by have : (⟨#[32]⟩ : ByteArray).size = 1 := rfl; omega)
    have s1 : (wordOf op ++ ⟨#[32]⟩).size ≤ 11 := by rw [size_append]; have : (⟨#[32]⟩ : ByteArray).size = 1 := rfl; omega
    have hc2 : ∀ t, aBin Tryd.prog .add t (.str (wordOf op ++ ⟨#[32]⟩)) (.str (strOfNums (txt n))) = some (.str (wordOf op ++ ⟨#[32]⟩ ++ strOfNums (txt n))) := fun t => cat_str t _ _ (by have := txt_size n; omega)
    have s2 : (wordOf op ++ ⟨#[32]⟩ ++ strOfNums (txt n)).size ≤ 31 := by rw [size_append]; have := txt_size n; omega
    have hc3 : ∀ t, aBin Tryd.prog .add t (.str (wordOf op ++ ⟨#[32]⟩ ++ strOfNums (txt n))) (.str ⟨#[32]⟩) = some (.str (wordOf op ++ ⟨#[32]⟩ ++ strOfNums (txt n) ++ ⟨#[32]⟩)) := fun t => cat_str t _ _ (by have : (⟨#[32]⟩ : ByteArray).size = 1 := rfl; omega)
    have s3 : (wordOf op ++ ⟨#[32]⟩ ++ strOfNums (txt n) ++ ⟨#[32]⟩).size ≤ 32 := by rw [size_append]; have : (⟨#[32]⟩ : ByteArray).size = 1 := rfl; omega
    have hc4 : ∀ t, aBin Tryd.prog .add t (.str (wordOf op ++ ⟨#[32]⟩ ++ strOfNums (txt n) ++ ⟨#[32]⟩)) (.str (strOfNums (txt m))) = some (.str (wordOf op ++ ⟨#[32]⟩ ++ strOfNums (txt n) ++ ⟨#[32]⟩ ++ strOfNums (txt m))) := fun t => cat_str t _ _ (by have := txt_size m; omega)
    simp -implicitDefEqProofs only [go_sem, Nat.reduceAdd, Nat.reduceMul, Nat.reduceLT, Nat.reduceLeDiff, Nat.reduceEqDiff, Nat.reduceBEq, reduceCtorEq, Int.reduceLT, Int.reduceLE, Int.reduceEq, Int.reduceGT, Int.reduceGE, Int.reduceToNat, Int.reduceNeg, S63_92, hr, aBin_same, wordOf_ne hop, F63_J1, F63_J0]
    rcases nums_three op with hnm | hnm | hnm
    · rcases Decidable.em (n = 0) with hn0 | hn0
      · rcases Decidable.em (m = 0) with hm0 | hm0
        · simp -implicitDefEqProofs only [go_sem, Nat.reduceAdd, Nat.reduceMul, Nat.reduceLT, Nat.reduceLeDiff, Nat.reduceEqDiff, Nat.reduceBEq, reduceCtorEq, Int.reduceLT, Int.reduceLE, Int.reduceEq, Int.reduceGT, Int.reduceGE, Int.reduceToNat, Int.reduceNeg, F63_J1, F63_J0, hnm, decide_eq_true hn0, decide_eq_true hm0]
          exact .mk ⟨by rw [lineAV_good hop (by omega), join_one _ _ _ hnm], hsub _⟩
        · simp -implicitDefEqProofs only [go_sem, Nat.reduceAdd, Nat.reduceMul, Nat.reduceLT, Nat.reduceLeDiff, Nat.reduceEqDiff, Nat.reduceBEq, reduceCtorEq, Int.reduceLT, Int.reduceLE, Int.reduceEq, Int.reduceGT, Int.reduceGE, Int.reduceToNat, Int.reduceNeg, F63_J1, F63_J0, hnm, decide_eq_true hn0, decide_eq_false hm0]
          exact .mk ⟨(lineAV_bad (by omega)).symm, hsub _⟩
      · simp -implicitDefEqProofs only [go_sem, Nat.reduceAdd, Nat.reduceMul, Nat.reduceLT, Nat.reduceLeDiff, Nat.reduceEqDiff, Nat.reduceBEq, reduceCtorEq, Int.reduceLT, Int.reduceLE, Int.reduceEq, Int.reduceGT, Int.reduceGE, Int.reduceToNat, Int.reduceNeg, F63_J1, F63_J0, hnm, decide_eq_false hn0]
        exact .mk ⟨(lineAV_bad (by omega)).symm, hsub _⟩
    · rcases Decidable.em (m = 0) with hm0 | hm0
      · simp -implicitDefEqProofs only [go_sem, Nat.reduceAdd, Nat.reduceMul, Nat.reduceLT, Nat.reduceLeDiff, Nat.reduceEqDiff, Nat.reduceBEq, reduceCtorEq, Int.reduceLT, Int.reduceLE, Int.reduceEq, Int.reduceGT, Int.reduceGE, Int.reduceToNat, Int.reduceNeg, F63_J1, F63_J0, hnm, decide_eq_true hm0, S63_64 hn, hc1, hc2]
        exact .mk ⟨by rw [lineAV_good hop (by omega), join_two _ _ _ hnm], hsub _⟩
      · simp -implicitDefEqProofs only [go_sem, Nat.reduceAdd, Nat.reduceMul, Nat.reduceLT, Nat.reduceLeDiff, Nat.reduceEqDiff, Nat.reduceBEq, reduceCtorEq, Int.reduceLT, Int.reduceLE, Int.reduceEq, Int.reduceGT, Int.reduceGE, Int.reduceToNat, Int.reduceNeg, F63_J1, F63_J0, hnm, decide_eq_false hm0]
        exact .mk ⟨(lineAV_bad (by omega)).symm, hsub _⟩
    · simp -implicitDefEqProofs only [go_sem, Nat.reduceAdd, Nat.reduceMul, Nat.reduceLT, Nat.reduceLeDiff, Nat.reduceEqDiff, Nat.reduceBEq, reduceCtorEq, Int.reduceLT, Int.reduceLE, Int.reduceEq, Int.reduceGT, Int.reduceGE, Int.reduceToNat, Int.reduceNeg, F63_J1, F63_J0, hnm, S63_64 hn, S63_64 hm, hc1, hc2, hc3, hc4]
      exact .mk ⟨by rw [lineAV_good hop (by omega), join_three _ _ _ hnm], hsub _⟩
  · have hr := rowAt_out hop
    simp -implicitDefEqProofs only [go_sem, Nat.reduceAdd, Nat.reduceMul, Nat.reduceLT, Nat.reduceLeDiff, Nat.reduceEqDiff, Nat.reduceBEq, reduceCtorEq, Int.reduceLT, Int.reduceLE, Int.reduceEq, Int.reduceGT, Int.reduceGE, Int.reduceToNat, Int.reduceNeg, S63_92, hr, aBin_same]
    exact .mk ⟨(lineAV_bad (by omega)).symm, hsub _⟩
theorem ok63 : Ok1 Tryd.prog 63 gLine := by
  refine ok1_flat S63_ok ⟨_, Tryd.func63, by kernel_rfl, by kernel_rfl⟩ fun vs H v H' hg => ?_
  unfold gLine at hg
  split at hg
  · rename_i op n m
    obtain ⟨⟨hn, hm, hT⟩, hg⟩ := chk_some hg
    cases hg
    refine ⟨rfl, lineAV_flat op n m, fun hw => Ret.run (n := 3) ?_⟩
    rw [F63_eq]
    exact line_ref hn hm hw 3
  · cases hg
end Go.Proofs.YthiflgncldmkjaaDoor
set_option linter.unusedVariables false
set_option linter.unusedSimpArgs false
set_option maxRecDepth 100000
namespace Go.Proofs.YthiflgncldmkjaaDoor
open Go.Ri

noncomputable def gTrue (vs : List AV) (H : AH) : Option (AV × AH) := chk (vs = [] ∧ Tabs H) (some (.bool true, H))
theorem ok_true {f : FuncId} (h : ∀ e0 e1, saysTrue (aCall Tryd.prog (drawB Tryd.prog) 60 f [] ⟨mTabs e0 e1, 2⟩) = true) (hf : Fn1 Tryd.prog f) : Ok1 Tryd.prog f gTrue := by
  intro vs H v H' hg
  refine ⟨hf, ?_⟩
  obtain ⟨⟨rfl, hT⟩, _⟩ := chk_some hg
  obtain ⟨e0, e1, hsub⟩ := small_sub hT
  obtain ⟨H1, h1⟩ := saysTrue_some (h e0 e1)
  refine (ok1_small rfl (by simp) (by rw [globals2]; omega) (mTabs_ok e0 e1) h1 [] H v H' ?_).2
  exact (chk_pos (⟨rfl, hT.two, hsub⟩ : [] = ([] : List AV) ∧ 2 ≤ H.next ∧ ∀ b B, mTabs e0 e1 b = some B → H.m b = some B) _).trans (chk_some hg).2
theorem run22 (e0 e1 : TypeId) : saysTrue (aCall Tryd.prog (drawB Tryd.prog) 60 22 [] ⟨mTabs e0 e1, 2⟩) = true := by kernel_rfl
theorem ok22 : Ok1 Tryd.prog 22 gTrue := ok_true run22 ⟨_, Tryd.func22, by kernel_rfl, by kernel_rfl⟩

def big : Nat := 18446744073709551616
noncomputable def S0 : CallF := addT (addT (addT (addT (addT (addT (addT (addT (addT (addT (addT noT 131 g131) 115 g115) 93 g93) 62 gText) 64 gText) 65 g65) 66 g66) 92 g92) 23 gLine) 63 gLine) 22 gTrue
theorem S0_ok : CallOk Tryd.prog S0 := addT_ok (addT_ok (addT_ok (addT_ok (addT_ok (addT_ok (addT_ok (addT_ok (addT_ok (addT_ok (addT_ok (noT_ok _) ok131) ok115) ok93) ok62) ok64) ok65) ok66) ok92) ok23) ok63) ok22
def isFlat (f : FuncId) : Bool := f == 131 || f == 115 || f == 93 || f == 62 || f == 64 || f == 65 || f == 66 || f == 92 || f == 23 || f == 63 || f == 22
noncomputable def RT : Nat → CallF
  | 0 => S0
  | d + 1 => fun f vs H => if isFlat f = true then S0 f vs H else aFun Tryd.prog (drawA Tryd.prog) (RT d) (iter big) f vs H
theorem RT_ok : ∀ d, CallOk Tryd.prog (RT d)
  | 0 => S0_ok
  | d + 1 => by
    intro f vs H v H' h
    simp only [RT] at h
    split at h
    · exact S0_ok f vs H v H' h
    · exact aFun_sound (draw := drawA Tryd.prog) (n := big) (RT_ok d) (fun nt => drawA_ok (RT_ok d)) f vs H v H' h
theorem RT_flat {f : FuncId} (h : isFlat f = true) (d : Nat) (vs : List AV) (H : AH) : RT d f vs H = S0 f vs H := by
  cases d with
  | zero => rfl
  | succ d => simp only [RT]; rw [if_pos h]
theorem RT_run {f : FuncId} (h : isFlat f = false) (d : Nat) (vs : List AV) (H : AH) : RT (d + 1) f vs H = aFun Tryd.prog (drawA Tryd.prog) (RT d) (iter big) f vs H := by
  simp only [RT]
  rw [if_neg (by rw [h]; simp)]
theorem RT_23 (d : Nat) {op n m : Int} {H : AH} (hn : InI n) (hm : InI m) (hT : Tabs H) : RT d 23 [.agg [.int .i64 op, .int .i64 n, .int .i64 m]] H = some (lineAV op n m, H) := (RT_flat rfl d _ H).trans (chk_pos ⟨hn, hm, hT⟩ _)
theorem Tabs.ext {N : Nat} {H H1 : AH} (h : Tabs H) (hx : Ext N H H1) (hN : 2 ≤ N) : Tabs H1 := by
  obtain ⟨⟨e, he⟩, ⟨e', he'⟩, h2⟩ := h
  exact ⟨⟨e, by rw [hx.low 0 (by omega)]; exact he⟩, ⟨e', by rw [hx.low 1 (by omega)]; exact he'⟩, Nat.le_trans hN hx.next⟩
theorem R26 (d : Nat) (x0 : AV) (x1 : AV) (H : AH) : RT (d + 1) 26 [x0, x1] H = F26 (RT d) (iter big) x0 x1 H := (RT_run rfl d _ H).trans (F26_eq _ _ x0 x1 H)
theorem R27 (d : Nat) (x0 : AV) (x1 : AV) (H : AH) : RT (d + 1) 27 [x0, x1] H = F27 (RT d) (iter big) x0 x1 H := (RT_run rfl d _ H).trans (F27_eq _ _ x0 x1 H)
theorem R28 (d : Nat) (x0 : AV) (x1 : AV) (H : AH) : RT (d + 1) 28 [x0, x1] H = F28 (RT d) (iter big) x0 x1 H := (RT_run rfl d _ H).trans (F28_eq _ _ x0 x1 H)
theorem R31 (d : Nat) (x0 : AV) (H : AH) : RT (d + 1) 31 [x0] H = F31 (RT d) (iter big) x0 H := (RT_run rfl d _ H).trans (F31_eq _ _ x0 H)
theorem R33 (d : Nat) (x0 : AV) (x1 : AV) (H : AH) : RT (d + 1) 33 [x0, x1] H = F33 (RT d) (iter big) x0 x1 H := (RT_run rfl d _ H).trans (F33_eq _ _ x0 x1 H)
theorem R35 (d : Nat) (x0 : AV) (x1 : AV) (H : AH) : RT (d + 1) 35 [x0, x1] H = F35 (RT d) (iter big) x0 x1 H := (RT_run rfl d _ H).trans (F35_eq _ _ x0 x1 H)
theorem R49 (d : Nat) (x0 : AV) (x1 : AV) (H : AH) : RT (d + 1) 49 [x0, x1] H = F49 (RT d) (iter big) x0 x1 H := (RT_run rfl d _ H).trans (F49_eq _ _ x0 x1 H)
theorem R69 (d : Nat) (x0 : AV) (H : AH) : RT (d + 1) 69 [x0] H = F69 (RT d) (iter big) x0 H := (RT_run rfl d _ H).trans (F69_eq _ _ x0 H)
theorem R73 (d : Nat) (x0 : AV) (H : AH) : RT (d + 1) 73 [x0] H = F73 (RT d) (iter big) x0 H := (RT_run rfl d _ H).trans (F73_eq _ _ x0 H)
theorem R75 (d : Nat) (x0 : AV) (H : AH) : RT (d + 1) 75 [x0] H = F75 (RT d) (iter big) x0 H := (RT_run rfl d _ H).trans (F75_eq _ _ x0 H)
theorem R76 (d : Nat) (x0 : AV) (x1 : AV) (H : AH) : RT (d + 1) 76 [x0, x1] H = F76 (RT d) (iter big) x0 x1 H := (RT_run rfl d _ H).trans (F76_eq _ _ x0 x1 H)
theorem R94 (d : Nat) (x0 : AV) (x1 : AV) (H : AH) : RT (d + 1) 94 [x0, x1] H = F94 (RT d) (iter big) x0 x1 H := (RT_run rfl d _ H).trans (F94_eq _ _ x0 x1 H)
theorem R95 (d : Nat) (x0 : AV) (H : AH) : RT (d + 1) 95 [x0] H = F95 (RT d) (iter big) x0 H := (RT_run rfl d _ H).trans (F95_eq _ _ x0 H)
theorem R97 (d : Nat) (x0 : AV) (x1 : AV) (x2 : AV) (H : AH) : RT (d + 1) 97 [x0, x1, x2] H = F97 (RT d) (iter big) x0 x1 x2 H := (RT_run rfl d _ H).trans (F97_eq _ _ x0 x1 x2 H)
theorem R101 (d : Nat) (x0 : AV) (H : AH) : RT (d + 1) 101 [x0] H = F101 (RT d) (iter big) x0 H := (RT_run rfl d _ H).trans (F101_eq _ _ x0 H)
theorem R102 (d : Nat) (x0 : AV) (x1 : AV) (H : AH) : RT (d + 1) 102 [x0, x1] H = F102 (RT d) (iter big) x0 x1 H := (RT_run rfl d _ H).trans (F102_eq _ _ x0 x1 H)
theorem R103 (d : Nat) (x0 : AV) (x1 : AV) (H : AH) : RT (d + 1) 103 [x0, x1] H = F103 (RT d) (iter big) x0 x1 H := (RT_run rfl d _ H).trans (F103_eq _ _ x0 x1 H)
theorem R104 (d : Nat) (x0 : AV) (x1 : AV) (x2 : AV) (H : AH) : RT (d + 1) 104 [x0, x1, x2] H = F104 (RT d) (iter big) x0 x1 x2 H := (RT_run rfl d _ H).trans (F104_eq _ _ x0 x1 x2 H)
theorem R105 (d : Nat) (x0 : AV) (x1 : AV) (H : AH) : RT (d + 1) 105 [x0, x1] H = F105 (RT d) (iter big) x0 x1 H := (RT_run rfl d _ H).trans (F105_eq _ _ x0 x1 H)
theorem R106 (d : Nat) (x0 : AV) (x1 : AV) (H : AH) : RT (d + 1) 106 [x0, x1] H = F106 (RT d) (iter big) x0 x1 H := (RT_run rfl d _ H).trans (F106_eq _ _ x0 x1 H)
theorem R107 (d : Nat) (x0 : AV) (x1 : AV) (H : AH) : RT (d + 1) 107 [x0, x1] H = F107 (RT d) (iter big) x0 x1 H := (RT_run rfl d _ H).trans (F107_eq _ _ x0 x1 H)
theorem R108 (d : Nat) (x0 : AV) (x1 : AV) (H : AH) : RT (d + 1) 108 [x0, x1] H = F108 (RT d) (iter big) x0 x1 H := (RT_run rfl d _ H).trans (F108_eq _ _ x0 x1 H)
theorem R111 (d : Nat) (x0 : AV) (H : AH) : RT (d + 1) 111 [x0] H = F111 (RT d) (iter big) x0 H := (RT_run rfl d _ H).trans (F111_eq _ _ x0 H)
theorem R116 (d : Nat) (x0 : AV) (x1 : AV) (x2 : AV) (H : AH) : RT (d + 1) 116 [x0, x1, x2] H = F116 (RT d) (iter big) x0 x1 x2 H := (RT_run rfl d _ H).trans (F116_eq _ _ x0 x1 x2 H)
theorem R117 (d : Nat) (x0 : AV) (x1 : AV) (H : AH) : RT (d + 1) 117 [x0, x1] H = F117 (RT d) (iter big) x0 x1 H := (RT_run rfl d _ H).trans (F117_eq _ _ x0 x1 H)
theorem R118 (d : Nat) (x0 : AV) (x1 : AV) (H : AH) : RT (d + 1) 118 [x0, x1] H = F118 (RT d) (iter big) x0 x1 H := (RT_run rfl d _ H).trans (F118_eq _ _ x0 x1 H)
theorem R124 (d : Nat) (x0 : AV) (x1 : AV) (x2 : AV) (H : AH) : RT (d + 1) 124 [x0, x1, x2] H = F124 (RT d) (iter big) x0 x1 x2 H := (RT_run rfl d _ H).trans (F124_eq _ _ x0 x1 x2 H)
theorem R125 (d : Nat) (x0 : AV) (x1 : AV) (H : AH) : RT (d + 1) 125 [x0, x1] H = F125 (RT d) (iter big) x0 x1 H := (RT_run rfl d _ H).trans (F125_eq _ _ x0 x1 H)
theorem R126 (d : Nat) (x0 : AV) (x1 : AV) (H : AH) : RT (d + 1) 126 [x0, x1] H = F126 (RT d) (iter big) x0 x1 H := (RT_run rfl d _ H).trans (F126_eq _ _ x0 x1 H)
theorem R127 (d : Nat) (x0 : AV) (x1 : AV) (H : AH) : RT (d + 1) 127 [x0, x1] H = F127 (RT d) (iter big) x0 x1 H := (RT_run rfl d _ H).trans (F127_eq _ _ x0 x1 H)
theorem R128 (d : Nat) (x0 : AV) (x1 : AV) (H : AH) : RT (d + 1) 128 [x0, x1] H = F128 (RT d) (iter big) x0 x1 H := (RT_run rfl d _ H).trans (F128_eq _ _ x0 x1 H)
theorem R129 (d : Nat) (x0 : AV) (x1 : AV) (H : AH) : RT (d + 1) 129 [x0, x1] H = F129 (RT d) (iter big) x0 x1 H := (RT_run rfl d _ H).trans (F129_eq _ _ x0 x1 H)
theorem R136 (d : Nat) (x0 : AV) (H : AH) : RT (d + 1) 136 [x0] H = F136 (RT d) (iter big) x0 H := (RT_run rfl d _ H).trans (F136_eq _ _ x0 H)
end Go.Proofs.YthiflgncldmkjaaDoor
set_option linter.unusedVariables false
set_option linter.unusedSimpArgs false
set_option maxRecDepth 100000
namespace Go.Ri
theorem Ret.upTo {g : St → Option (Ex × St)} {n m : Nat} {s : St} {Q : Ex × St → Prop} (I : Nat → St → Prop) (hm : n < m) (h0 : I 0 s)
    (hs : ∀ i s, i < n → I i s → Ret (g s) fun r => (r.1 = .normal ∧ I (i + 1) r.2) ∨ (r.1 ≠ .normal ∧ Q r)) (he : ∀ s, I n s → Ret (g s) fun r => r.1 ≠ .normal ∧ Q r) : Ret (Ri.iter m g s) Q := by
  refine Ret.iter (fun f s => ∃ i, i ≤ n ∧ f = n + 1 - i ∧ I i s) Q ?_ (fun s ⟨i, h1, h2, _⟩ => by omega) (n + 1) m s (by omega) ⟨0, by omega, by omega, h0⟩
  rintro j s ⟨i, hi, hj, hI⟩
  by_cases h : i < n
  · refine (hs i s h hI).mono ?_
    rintro r (⟨h1, h2⟩ | h)
    · exact .inl ⟨h1, i + 1, by omega, by omega, h2⟩
    · exact .inr h
  · have : i = n := by omega
    subst this
    exact (he s hI).mono fun r h => .inr h
theorem byteInts_map (l : List Int) : byteInts (l.map (.int .u8)) = some l := by
  induction l with
  | nil => rfl
  | cons x l ih => simp [byteInts, ih]
end Go.Ri
namespace Go.Proofs.YthiflgncldmkjaaDoor
open Go.Ri

structure Ins where
  op : Int
  n : Int
  m : Int
  deriving DecidableEq
structure Ins.Ok (i : Ins) : Prop where
  op : InI i.op
  n : InI i.n
  m : InI i.m
def insC (i : Ins) : List AV := [.int .i64 i.op, .int .i64 i.n, .int .i64 i.m]
theorem insC_len (l : List Ins) : ∀ x ∈ l.map insC, x.length = 3 := by
  intro x hx
  simp only [List.mem_map] at hx
  obtain ⟨i, _, rfl⟩ := hx
  rfl
def InsRow (H : AH) (s : AV) (l : List Ins) : Prop := Row H s 3 (l.map insC) ∧ ∀ i ∈ l, i.Ok
theorem wrapS {i : Nat} (h : i < 9223372036854775807) : IntKind.i64.wrap ((i : Nat) + 1) = ((i + 1 : Nat) : Int) := by
  rw [wrap_id (by unfold InI; omega)]
  omega
def Bytes (N : Nat) (H : AH) (s : AV) (l : List Int) : Prop := Own N 1 5 H s (U8 l)
theorem Bytes.one {N : Nat} {H0 H : AH} {s : AV} {l : List Int} {x : Int} (hs : Bytes N H s l) (he : Ext N H0 H) (hlim : l.length < 1000000000000) :
    Ret (aAppend Tryd.prog 87 87 s (.slice (some (H.next, 0)) 1 (.kn 1)) (H.new [.int .u8 x] 5)) fun r => Bytes N r.2 r.1 (l ++ [x]) ∧ Ext N H0 r.2 := by
  refine (app_el (ds := [.int .u8 x]) ysl87 hs he rfl (by simp [U8]; omega)).mono ?_
  rintro r ⟨h1, h2, _⟩
  exact ⟨by simpa [Bytes, U8] using h1, h2⟩
theorem Bytes.str {N : Nat} {H0 H : AH} {s : AV} {l : List Int} {x : ByteArray} (hs : Bytes N H s l) (he : Ext N H0 H) (hlim : l.length + x.size < 1000000000000) :
    Ret (aAppend Tryd.prog 87 9 s (.str x) H) fun r => Bytes N r.2 r.1 (l ++ byteL x) ∧ Ext N H0 r.2 := by
  have hlen : (strCells x).length = x.size := by rw [strCells_eq, U8, List.length_map, byteL_length]
  refine (app_own (n := x.size) (ds := strCells x) ysl87 seq9 hs he rfl ?_ (by omega) (by rw [hlen]; simp [U8]; omega)).mono ?_
  · unfold srcN
    cases hx : x.size with
    | zero =>
      simp only []
      congr 1
      exact (List.eq_nil_of_length_eq_zero (by rw [hlen, hx])).symm
    | succ n =>
      simp only []
      rw [if_pos ⟨hx.symm, trivial⟩]
  · rintro r ⟨h1, h2, _⟩
    rw [strCells_eq] at h1
    exact ⟨by simpa [Bytes, U8] using h1, h2⟩
theorem Bytes.read {N : Nat} {H : AH} {s : AV} {l : List Int} (hs : Bytes N H s l) : cvBytes s H = some (.str (strOfNums l)) := by
  rcases hs with ⟨rfl, h⟩ | ⟨b, n, c, B, rfl, _, hl, hb, _, _, hbl, ht, _⟩
  · have : l = [] := by simpa [U8] using h
    subst this
    rfl
  · rw [Nat.mul_one] at *
    simp only [cvBytes, AH.ldN, hb, Option.bind_some, Nat.zero_add, if_pos hbl, List.drop_zero, ht, U8, byteInts_map, Option.map_some]

end Go.Proofs.YthiflgncldmkjaaDoor
set_option linter.unusedVariables false
set_option linter.unusedSimpArgs false
set_option maxRecDepth 100000
namespace Go.Proofs.YthiflgncldmkjaaDoor
open Go.Ri

end Go.Proofs.YthiflgncldmkjaaDoor
set_option linter.unusedVariables false
set_option linter.unusedSimpArgs false
set_option maxRecDepth 100000
namespace Go.Ri

def AH.ro (H : AH) : Prop := ∀ b B, H.m b = some B → B.rw_ = false
def AH.win (H : AH) (cells : List AV) (e : TypeId) : AH := ⟨setM H.m H.next (some ⟨cells, e, false⟩), H.next + 1⟩
def winRo (ρ : Ro) (n blk base lim : Nat) : Ro := fun b => if b = n then some ⟨blk, base, lim⟩ else ρ b
theorem win_sound {P : Program} {ρ : Ro} {H : AH} {w : World} (h : Sim P ρ H w) (hro : H.ro) {blk base : Nat} {cs : Array Value} {e : TypeId} {fr : Nat × Nat} (hb : w.heap[blk]? = some (.cells cs e fr))
    {cells : List AV} {vs : List Value} (hr : relL ρ cells vs) (h1 : cells.all AV.isOne = true) (hv : ∀ i v, vs[i]? = some v → cs[base + i]? = some v) (hl : base + vs.length ≤ cs.size) :
    Sim P (winRo ρ H.next blk base (cs.size - base)) (H.win cells e) w ∧ ρ.le (winRo ρ H.next blk base (cs.size - base)) ∧ (H.win cells e).ro ∧ H.sub (H.win cells e) := by
  have hle : ρ.le (winRo ρ H.next blk base (cs.size - base)) := by
    intro b r hb
    have : b ≠ H.next := by have := h.lt hb; omega
    simp [winRo, this, hb]
  have hro' : (H.win cells e).ro := by
    intro b B hB
    simp only [AH.win, setM] at hB
    split at hB
    · cases hB; rfl
    · exact hro b B hB
  refine ⟨⟨fun b B hB => ?_, fun b b' B B' r r' hB hB' hor => ?_, fun b hb' => ?_, fun g hg => ?_⟩, hle, hro', fun b B hB => ?_⟩
  · by_cases hbn : b = H.next
    · subst hbn
      simp only [AH.win, setM_same] at hB
      cases hB
      exact ⟨⟨blk, base, cs.size - base⟩, cs, fr, vs, by simp [winRo], hb, by simp only; omega, fun hh => by simp at hh, relL_mono hle _ hr, by simp only; omega, hv, h1⟩
    · simp only [AH.win, setM_other _ _ hbn] at hB
      obtain ⟨r, cs', fr', vs', g1, g2, g3, g4, g5, g6⟩ := h.blk b B hB
      exact ⟨r, cs', fr', vs', hle _ _ g1, g2, g3, g4, relL_mono hle _ g5, g6⟩
  · rcases hor with hh | hh
    · rw [hro' b B hB] at hh; cases hh
    · rw [hro' b' B' hB'] at hh; cases hh
  · simp only [AH.win] at hb'
    have : b ≠ H.next := by omega
    simp only [winRo, this, if_false]
    exact h.fresh b (by omega)
  · obtain ⟨l, hl⟩ := h.glob g hg
    exact ⟨l, hle _ _ hl⟩
  · have : b ≠ H.next := by have := h.dom hB; omega
    simp only [AH.win, setM_other _ _ this]
    exact hB

theorem cell_add {w : World} {a : Addr} {n : Nat} {v : Value} (h : w.cell? (a.add n) = some v) : ∃ c e fr, w.heap[a.block]? = some (.cells c e fr) ∧ c[a.off + n]? = some v ∧ (n = 0 → a.spot = none) := by
  by_cases hn : n = 0
  · subst hn
    simp only [Addr.add, if_true, World.cell?] at h
    split at h
    · rename_i c e fr hc
      split at h
      · cases h
      · rename_i hs
        exact ⟨c, e, fr, hc, by simpa using h, fun _ => by simpa using hs⟩
    · cases h
  · simp only [Addr.add, if_neg hn, World.cell?] at h
    split at h
    · rename_i c e fr hc
      exact ⟨c, e, fr, hc, by simpa using h, fun h => absurd h hn⟩
    · cases h
theorem cells_some {w : World} {base k : Nat} {a : Addr} {cs : List Value} (h : w.cells? base a k = some cs) : cs.length = k ∧ ∀ j, j < k → ∃ v, cs[j]? = some v ∧ w.cell? (a.add j) = some v := by
  unfold World.cells? at h
  split at h
  · have hl := Lib.mapM_length h
    simp at hl
    refine ⟨hl, fun j hj => ?_⟩
    obtain ⟨b, hb, hf⟩ := Lib.mapM_at h j j (by simp [hj])
    exact ⟨b, hb, hf⟩
  · cases h
theorem add_add (a : Addr) (m n : Nat) : (a.add m).add n = a.add (m + n) := by
  unfold Addr.add
  by_cases hm : m = 0 <;> by_cases hn : n = 0 <;> simp [hm, hn, Nat.add_assoc]
def lens {H : Type} : DataW H → Nat
  | .slice es _ => es.length
  | _ => 0
theorem trod_sl {H : Type} {enc : TypeId × Value → H} {P : Program} {w : World} {base : Nat} {sp : Nat → Bool} {held : Bool} {fuel : Nat} {t e : TypeId} {cs : List Value} {x : DataW H × List MemPlace}
    (ht : P.underlying t = some (.slice e)) (h : DataW.trod enc P w base sp held fuel t cs = some x) :
    (cs = [.slice none 0 0] ∧ lens x.1 = 0) ∨ ∃ a len cap m, cs = [.slice (some a) len cap] ∧ lens x.1 = len ∧ len ≤ cap ∧ cap ≤ maxLen ∧ ∀ i, i < len → ∃ ci y, w.cells? base (a.add (i * P.cellsOf e)) (P.cellsOf e) = some ci ∧ DataW.trod enc P w base sp held m e ci = some y := by
  cases fuel with
  | zero => simp [DataW.trod] at h
  | succ m =>
    unfold DataW.trod at h
    rw [ht] at h
    split at h <;> first | (simp_all; done) | (cases h; exact .inl ⟨rfl, rfl⟩) | skip
    rename_i e' a len cap he
    simp only [Option.some.injEq, TypeDesc.slice.injEq] at he
    subst he
    split at h
    · rename_i hc
      simp only [Option.bind_eq_some_iff] at h
      obtain ⟨elems, hel, hx⟩ := h
      have hlen : lens x.1 = len := by
        obtain ⟨rest, _, rfl⟩ := Option.map_eq_some_iff.1 hx
        simpa [lens] using Lib.mapM_length hel
      refine .inr ⟨a, len, cap, m, rfl, hlen, hc.2.1, hc.2.2, fun i hi => ?_⟩
      obtain ⟨y, _, hy⟩ := Lib.mapM_at hel i i (by simp [hi])
      simp only [Option.bind_eq_some_iff] at hy
      obtain ⟨ci, h1, h2⟩ := hy
      exact ⟨ci, y, h1, h2⟩
    · cases h

structure Lays (P : Program) (w : World) (ρ : Ro) (H : AH) (ρ' : Ro) (H' : AH) : Prop where
  sim : Sim P ρ' H' w
  le : ρ.le ρ'
  ro : H'.ro
  sub : H.sub H'
theorem Lays.refl {P : Program} {w : World} {ρ : Ro} {H : AH} (h : Sim P ρ H w) (hro : H.ro) : Lays P w ρ H ρ H := ⟨h, .refl ρ, hro, fun _ _ h => h⟩
theorem Lays.trans {P : Program} {w : World} {ρ ρ1 ρ2 : Ro} {H H1 H2 : AH} (h : Lays P w ρ H ρ1 H1) (k : Lays P w ρ1 H1 ρ2 H2) : Lays P w ρ H ρ2 H2 := ⟨k.sim, h.le.trans k.le, k.ro, fun b B hB => k.sub b B (h.sub b B hB)⟩

end Go.Ri

namespace Go.Proofs.YthiflgncldmkjaaDoor
open Go.Ri Go.ChangeShapes Go.WideShapes Go.ChangeAt Go.RowKit

theorem under2 : Tryd.prog.underlying 2 = some (.int .i64) := by kernel_rfl
theorem struct29 : ((Tryd.prog.underlying 29).map fun d => match d with | .struct fs => fs.toList.map fun f => (f.type, f.offset) | _ => []) = some [(3, 0), (2, 1), (2, 2)] := by kernel_rfl
theorem struct24 : ((Tryd.prog.underlying 24).map fun d => match d with | .struct fs => fs.toList.map fun f => (f.type, f.offset) | _ => []) = some [(22, 0), (3, 1), (3, 2), (4, 3)] := by kernel_rfl
theorem c2 : Tryd.prog.cellsOf 2 = 1 := by kernel_rfl
theorem c4 : Tryd.prog.cellsOf 4 = 1 := by kernel_rfl
theorem c22 : Tryd.prog.cellsOf 22 = 1 := by kernel_rfl
theorem c24 : Tryd.prog.cellsOf 24 = 4 := by kernel_rfl
theorem c29 : Tryd.prog.cellsOf 29 = 3 := by kernel_rfl
theorem inI_of_wf {n : Int} (h : (Lit.int .i64 n).wf = true) : InI n := by
  have := bounds_i64 h
  unfold InI
  omega
section
variable {Hh : Type} {enc : TypeId × Value → Hh} {W : World} {base : Nat} {sp : Nat → Bool} {held : Bool}
theorem trod_fields {P : Program} {t : TypeId} {l : List (TypeId × Nat)} {fuel : Nat} {cs : List Value} {x : DataW Hh × List MemPlace}
    (hs : ((P.underlying t).map fun d => match d with | .struct fs => fs.toList.map fun f => (f.type, f.offset) | _ => []) = some l) (hl : l ≠ [])
    (h : DataW.trod enc P W base sp held fuel t cs = some x) : cs.length = P.cellsOf t ∧ ∃ m, ∀ u o, (u, o) ∈ l → ∃ y, DataW.trod enc P W base sp held m u ((cs.drop o).take (P.cellsOf u)) = some y := by
  cases hu : P.underlying t with
  | none => rw [hu] at hs; cases hs
  | some d =>
    rw [hu] at hs
    simp only [Option.map_some, Option.some.injEq] at hs
    cases d with
    | struct fs =>
      simp only at hs
      obtain ⟨xs, m, _, _, hlen, hxs, hf⟩ := DataW.trod_struct hu h
      refine ⟨hlen, m, fun u o huo => ?_⟩
      rw [← hs, List.mem_map] at huo
      obtain ⟨f, hfm, hfe⟩ := huo
      obtain ⟨i, hi⟩ := List.mem_iff_getElem?.1 hfm
      have := hf i f (by simpa using hi)
      cases hfe
      have hil : i < xs.length := by
        have := (List.getElem?_eq_some_iff.1 hi).1
        simp at this
        omega
      exact ⟨xs[i], by rw [this, List.getElem?_eq_getElem hil]⟩
    | _ => simp only at hs; exact absurd hs.symm hl
theorem one_of_take {cs : List Value} {o : Nat} {v : Value} (h : (cs.drop o).take 1 = [v]) : cs[o]? = some v := by
  have := congrArg (·[0]?) h
  simpa [List.getElem?_take, List.getElem?_drop] using this
theorem trod_ins {fuel : Nat} {cs : List Value} {x : DataW Hh × List MemPlace} (h : DataW.trod enc Tryd.prog W base sp held fuel 29 cs = some x) :
    ∃ i : Ins, i.Ok ∧ cs = [.int .i64 i.op, .int .i64 i.n, .int .i64 i.m] := by
  obtain ⟨hl, m, hf⟩ := trod_fields struct29 (by simp) h
  obtain ⟨y0, h0⟩ := hf 3 0 (by simp)
  obtain ⟨y1, h1⟩ := hf 2 1 (by simp)
  obtain ⟨y2, h2⟩ := hf 2 2 (by simp)
  obtain ⟨a, ea, _, wa⟩ := DataW.trod_int under3 h0
  obtain ⟨b, eb, _, wb⟩ := DataW.trod_int under2 h1
  obtain ⟨c, ec, _, wc⟩ := DataW.trod_int under2 h2
  rw [cells3] at ea
  rw [c2] at eb ec
  have ea := one_of_take ea
  have eb := one_of_take eb
  have ec := one_of_take ec
  rw [c29] at hl
  refine ⟨⟨a, b, c⟩, ⟨inI_of_wf wa, inI_of_wf wb, inI_of_wf wc⟩, ?_⟩
  match cs, hl with
  | [p, q, r], _ => simp_all
structure Code where
  ins : List Ins
  cells : Int
  params : Int
  answers : Bool
  deriving DecidableEq
structure Code.Ok (c : Code) : Prop where
  ins : ∀ i ∈ c.ins, i.Ok
  cells : InI c.cells
  params : InI c.params
def CodeAt (H : AH) (x : List AV) (c : Code) : Prop := ∃ s, x = [s, .int .i64 c.cells, .int .i64 c.params, .bool c.answers] ∧ InsRow H s c.ins ∧ InI c.cells ∧ InI c.params ∧ c.ins.length ≤ 9223372036854775807
theorem CodeAt.mono {H H' : AH} {x : List AV} {c : Code} (h : CodeAt H x c) (hs : H.sub H') : CodeAt H' x c := by
  obtain ⟨s, h1, h2, h3⟩ := h
  exact ⟨s, h1, ⟨h2.1.mono hs, h2.2⟩, h3⟩
def CodesRow (H : AH) (s : AV) (l : List Code) : Prop := ∃ rows, Row H s 4 rows ∧ (rows.length = l.length ∧ l.length ≤ 9223372036854775807) ∧ ∀ i (h : i < rows.length) (h' : i < l.length), CodeAt H rows[i] l[i]
theorem CodesRow.mono {H H' : AH} {s : AV} {l : List Code} (h : CodesRow H s l) (hs : H.sub H') : CodesRow H' s l := by
  obtain ⟨rows, h1, h2, h3⟩ := h
  exact ⟨rows, h1.mono hs, h2, fun i h h' => (h3 i h h').mono hs⟩
theorem start {W : World} (h : laidMetH Tryd.prog laidTabs W) : ∃ ρ H, Sim Tryd.prog ρ H W ∧ H.ro ∧ Tabs H := by
  have hT := tabs_of_laid h
  obtain ⟨e0, e1, hsub⟩ := small_sub hT
  have hs := absH_sim Tryd.prog (w := W) (by rw [globals2]; exact hT.two)
  refine ⟨fun b => if b < 2 then absRo W b else none, ⟨mTabs e0 e1, 2⟩, ⟨fun b B hB => ?_, fun b b' B B' r r' hB hB' hor => ?_, fun b hb => if_neg (by simpa using hb), fun g hg => ?_⟩, fun b B hB => (mTabs_ok e0 e1 b B hB).2.1, ?_⟩
  · obtain ⟨h1, h2, h3⟩ := mTabs_ok e0 e1 b B hB
    obtain ⟨r, cs, fr, vs, g1, g2, g3, g4, g5, g6⟩ := hs.blk b B (hsub b B hB)
    exact ⟨r, cs, fr, vs, by simp only [if_pos h1]; exact g1, g2, g3, g4, relL_flat h3 g5, g6⟩
  · have h1 := (mTabs_ok e0 e1 b B hB).2.1
    have h2 := (mTabs_ok e0 e1 b' B' hB').2.1
    rw [h1, h2] at hor
    simp at hor
  · obtain ⟨l, hl⟩ := hs.glob g hg
    rw [globals2] at hg
    exact ⟨l, by simp only [if_pos hg]; exact hl⟩
  · exact ⟨⟨e0, rfl⟩, ⟨e1, rfl⟩, Nat.le_refl _⟩
theorem Tabs.sub {H H' : AH} (h : Tabs H) (hs : H.sub H') (hw : H'.wf) : Tabs H' := by
  obtain ⟨⟨e, he⟩, ⟨e', he'⟩, h2⟩ := h
  have := hw 1 _ (hs _ _ he')
  exact ⟨⟨e, hs _ _ he⟩, ⟨e', hs _ _ he'⟩, by omega⟩
theorem below_of_ro {P : Program} {W W' : World} {ρ ρ' : Ro} {H H' : AH} (hro : H.ro) (hout : Out P ρ H W ρ' H' W') : Below W.heap.size W W' := by
  refine ⟨hout.os, hout.tape, hout.output, hout.size, fun k hk => hout.keep k hk fun b B r hB hrw _ => ?_⟩
  rw [hro b B hB] at hrw
  cases hrw

theorem laidOut : laidOutB Tryd.prog = true := by kernel_rfl
theorem trodAll_stays {W W' : World} {sp : Nat → Bool} (hb : Below W.heap.size W W') : ∀ {ts : List TypeId} {vs : List Value} {ds : List (DataW Hh)} {ps : List MemPlace}, (∀ t ∈ ts, Tryd.prog.readableRec t = true ∧ t < Tryd.prog.types.size) →
    DataW.TrodAll enc Tryd.prog W 0 (fun _ => true) true ts vs ds ps → (∀ x ∈ ps, x.block < W.heap.size) → (∀ x ∈ ps, sp x.block = true) → DataW.TrodAll enc Tryd.prog W' 0 sp true ts vs ds ps
  | [], vs, ds, ps, _, h, _, _ => by
    obtain ⟨rfl, rfl, rfl⟩ := trodAll_nil h
    exact trodAll_mk0
  | t :: ts, vs, ds, ps, ht, h, hlt, hsp => by
    obtain ⟨v, vs', d, ds', p, q, rfl, rfl, rfl, h0, hr⟩ := trodAll_cons h
    have ht0 := ht t (by simp)
    refine trodAll_cons_mk ?_ (trodAll_stays hb (fun u hu => ht u (by simp [hu])) hr (fun x hx => hlt x (by simp [hx])) fun x hx => hsp x (by simp [hx]))
    exact WideElems.Trod_stays laidOut ht0.1 ht0.2 h0 (fun x hx => hb.same (hlt x (by simp [hx]))) fun x hx => hsp x (by simp [hx])

theorem under36 : Tryd.prog.underlying 36 = some (.slice 24) := by kernel_rfl
theorem slice_cells {t e : TypeId} {W : World} {r : Reach} {base : Nat} {v : Value} (ht : Tryd.prog.underlying t = some (.slice e)) (h : Value.okWide Tryd.prog W r base t v) : v.cells.toList = [v] := by
  cases v with
  | agg cs =>
    unfold Value.okWide at h
    rw [ht] at h
    simp only [Cell.okWide, ht, Cell.ok] at h
  | tuple cs =>
    unfold Value.okWide at h
    rw [ht] at h
    simp only [Cell.okWide, ht, Cell.ok] at h
  | _ => rfl
theorem weight_slice {H : Type} {t e : TypeId} {b : Nat} (hu : Tryd.prog.underlying t = some (.slice e)) (hb : Tryd.prog.bytesOf e = b) {d : DataW H} (h : (DataW.weights Tryd.prog t d).all (· ≤ reachBytes) = true) : lens d * b ≤ 140737488351232 := by
  have hr : reachBytes = 140737488351232 := (by decide)
  cases d with
  | slice es sp =>
    simp only [DataW.weights, hu, hb, List.all_cons, Bool.and_eq_true, decide_eq_true_eq] at h
    simp only [lens]
    have h1 := h.1
    rw [Nat.add_mul] at h1
    omega
  | _ => simp [lens]
end
end Go.Proofs.YthiflgncldmkjaaDoor
set_option linter.unusedVariables false
set_option linter.unusedSimpArgs false
set_option maxRecDepth 100000
namespace Go.Proofs.YthiflgncldmkjaaDoor
open Go.Ri

def within (c : Code) (n m : Int) : Bool := decide (0 ≤ n) && decide (1 ≤ m) && decide (n ≤ c.cells) && decide (m ≤ c.cells - n)
def paramsAt (l : List Code) (n : Int) : Int := ((l[n.toNat]?).map (·.params)).getD 0
def answersAt (l : List Code) (n : Int) : Bool := ((l[n.toNat]?).map (·.answers)).getD false
def mayI (l : List Code) (c : Code) (i : Ins) : Bool :=
  if (lineOf i.op i.n i.m).isNone = true then false
  else if i.op = 2 ∨ i.op = 3 then within c i.n 1
  else if i.op = 4 ∨ i.op = 5 ∨ i.op = 6 then decide (i.m ≤ 64) && within c i.n i.m
  else if i.op = 17 ∨ i.op = 18 then decide (0 ≤ i.n) && decide (i.n < (c.ins.length : Nat))
  else if i.op = 19 then decide (0 ≤ i.n) && decide (i.n < (l.length : Nat)) && decide (0 ≤ i.m) && decide (i.m ≤ 8) && decide (i.m = paramsAt l i.n)
  else if i.op = 20 then decide (i.n = if c.answers = true then 1 else 0)
  else if i.op = 24 then decide (0 ≤ i.n) && decide (1 ≤ i.m) && decide (i.m ≤ 3)
  else true
def tk (l : List Code) (i : Ins) : Int := if i.op = 19 then i.m else if i.op = 20 then i.n else takes i.op
def lv (l : List Code) (i : Ins) : Int := if i.op = 19 then (if answersAt l i.n = true then 1 else 0) else if i.op = 20 then 0 else leaves i.op
def nextI (i : Ins) (a : Nat) : List Int := if i.op = 17 then [i.n] else if i.op = 18 then [(a + 1 : Nat), i.n] else if i.op = 20 then [] else [((a + 1 : Nat) : Int)]
def okAt (l : List Code) (i : Ins) (x : Int) : Prop := tk l i ≤ x ∧ x ≤ 4096 ∧ (i.op = 20 → x = tk l i) ∧ (i.op = 24 → x = 0)
instance (l : List Code) (i : Ins) (x : Int) : Decidable (okAt l i x) := by unfold okAt; exact inferInstance
inductive Reach (c : Code) : Nat → Prop where
  | zero : Reach c 0
  | step {a q : Nat} {i : Ins} : Reach c a → c.ins[a]? = some i → ((q : Nat) : Int) ∈ nextI i a → Reach c q
def Done (l : List Code) (i : Ins) (a : Nat) (x : Int) (h : List Int) : Prop := okAt l i x ∧ ∀ p ∈ nextI i a, ∃ q : Nat, p = q ∧ h[q]? = some (x - tk l i + lv l i)
structure Good (l : List Code) (c : Code) (h : List Int) : Prop where
  len : h.length = c.ins.length
  zero : h[0]? = some 0
  step : ∀ a i x, c.ins[a]? = some i → h[a]? = some x → 0 ≤ x → Done l i a x h
  reach : ∀ a x, h[a]? = some x → x = -1 ∨ (0 ≤ x ∧ Reach c a)

theorem lineOf_op {op n m : Int} (h : (lineOf op n m).isNone = false) : 1 ≤ op ∧ op ≤ 25 := by
  unfold lineOf at h
  split at h
  · simp at h
  · omega
theorem mayI_op {l : List Code} {c : Code} {i : Ins} (h : mayI l c i = true) : 1 ≤ i.op ∧ i.op ≤ 25 := by
  unfold mayI at h
  split at h
  · cases h
  · rename_i h1
    exact lineOf_op (n := i.n) (m := i.m) (by cases hh : (lineOf i.op i.n i.m).isNone <;> simp_all)
theorem leaves_nonneg (op : Int) : 0 ≤ leaves op := by
  unfold leaves
  rw [List.getD_eq_getElem?_getD]
  have h : stackN.all (fun n => decide (0 ≤ n)) = true := by decide
  cases he : stackN[op.toNat * 2 + 1]? with
  | none => simp
  | some s => simpa using List.all_eq_true.1 h s (List.mem_of_getElem? he)
theorem takes_nonneg (op : Int) : 0 ≤ takes op := by
  unfold takes
  rw [List.getD_eq_getElem?_getD]
  have h : stackN.all (fun n => decide (0 ≤ n)) = true := by decide
  cases he : stackN[op.toNat * 2]? with
  | none => simp
  | some s => simpa using List.all_eq_true.1 h s (List.mem_of_getElem? he)
theorem leaves_le (op : Int) : leaves op ≤ 2 := by
  unfold leaves
  rw [List.getD_eq_getElem?_getD]
  have h : stackN.all (fun n => decide (n ≤ 2)) = true := by decide
  cases he : stackN[op.toNat * 2 + 1]? with
  | none => simp
  | some s => simpa using List.all_eq_true.1 h s (List.mem_of_getElem? he)
theorem lv_nonneg (l : List Code) (i : Ins) : 0 ≤ lv l i := by
  unfold lv
  split
  · split <;> omega
  · split
    · omega
    · exact leaves_nonneg _
theorem lv_le (l : List Code) (i : Ins) : lv l i ≤ 2 := by
  unfold lv
  split
  · split <;> omega
  · split
    · omega
    · exact leaves_le _
theorem Good.at_reach {l : List Code} {c : Code} {h : List Int} (g : Good l c h) {a : Nat} (hr : Reach c a) : ∃ x, h[a]? = some x ∧ 0 ≤ x := by
  induction hr with
  | zero => exact ⟨0, g.zero, by omega⟩
  | step hr hi hp ih =>
    obtain ⟨x, hx, h0⟩ := ih
    obtain ⟨ho, hn⟩ := g.step _ _ _ hi hx h0
    obtain ⟨q', hq, hh⟩ := hn _ hp
    have := Int.ofNat_inj.1 hq
    subst this
    have := lv_nonneg l ‹Ins›
    exact ⟨_, hh, by have := ho.1; omega⟩
theorem Good.same {l : List Code} {c : Code} {h h' : List Int} (g : Good l c h) (g' : Good l c h') {a : Nat} (hr : Reach c a) : h[a]? = h'[a]? := by
  induction hr with
  | zero => rw [g.zero, g'.zero]
  | step hr hi hp ih =>
    obtain ⟨x, hx, h0⟩ := g.at_reach hr
    obtain ⟨_, hn⟩ := g.step _ _ _ hi hx h0
    obtain ⟨_, hn'⟩ := g'.step _ _ _ hi (ih ▸ hx) h0
    obtain ⟨q1, e1, k1⟩ := hn _ hp
    obtain ⟨q2, e2, k2⟩ := hn' _ hp
    have := Int.ofNat_inj.1 e1
    subst this
    have := Int.ofNat_inj.1 e2
    subst this
    rw [k1, k2]
structure OwnOk (l : List Code) (c : Code) : Prop where
  some_ : 1 ≤ c.ins.length
  few : c.ins.length ≤ 65536
  cells : 0 ≤ c.cells ∧ c.cells ≤ 65536
  params : 0 ≤ c.params ∧ c.params ≤ 8 ∧ c.params ≤ c.cells
  may : ∀ i ∈ c.ins, mayI l c i = true
def Hts (l : List Code) (k : Int) (h : List Int) : Prop := ∃ c, 0 ≤ k ∧ l[k.toNat]? = some c ∧ OwnOk l c ∧ Good l c h
structure Way (l : List Code) (c : Code) (h : List Int) (w : List Nat) (ex : Nat → Prop) : Prop where
  len : h.length = c.ins.length
  zero : h[0]? = some 0
  known : ∀ a x, h[a]? = some x → x = -1 ∨ (0 ≤ x ∧ Reach c a ∧ ∀ g, Good l c g → g[a]? = some x)
  wait : ∀ a ∈ w, ∃ x, h[a]? = some x ∧ 0 ≤ x
  done : ∀ a i x, h[a]? = some x → 0 ≤ x → a ∉ w → ¬ ex a → c.ins[a]? = some i → Done l i a x h
def negs (h : List Int) : Nat := h.countP (· == -1)
theorem Done.set {l : List Code} {i : Ins} {a : Nat} {x : Int} {h : List Int} (hd : Done l i a x h) {q : Nat} {y : Int} (hq : h[q]? = some (-1)) : Done l i a x (h.set q y) := by
  refine ⟨hd.1, fun p hp => ?_⟩
  obtain ⟨r, e, hr⟩ := hd.2 p hp
  refine ⟨r, e, ?_⟩
  have hne : q ≠ r := by
    rintro rfl
    rw [hq] at hr
    have := Option.some.inj hr
    have h1 := hd.1.1
    have := lv_nonneg l i
    omega
  rw [List.getElem?_set_ne hne]
  exact hr
theorem Way.start {l : List Code} {c : Code} (h : 1 ≤ c.ins.length) : Way l c ((List.replicate c.ins.length (-1)).set 0 0) [0] (fun _ => False) := by
  have hl : ((List.replicate c.ins.length (-1 : Int)).set 0 0).length = c.ins.length := by simp
  have h0 : ((List.replicate c.ins.length (-1 : Int)).set 0 0)[0]? = some 0 := by rw [List.getElem?_set_self (by simp; omega)]
  have hk : ∀ a x, ((List.replicate c.ins.length (-1 : Int)).set 0 0)[a]? = some x → a ≠ 0 → x = -1 := by
    intro a x hx ha
    rw [List.getElem?_set_ne (Ne.symm ha), List.getElem?_replicate] at hx
    split at hx
    · exact (Option.some.inj hx).symm
    · cases hx
  refine ⟨hl, h0, fun a x hx => ?_, fun a ha => ?_, fun a i x hx hx0 ha _ _ => ?_⟩
  · by_cases ha : a = 0
    · subst ha
      rw [h0] at hx
      cases hx
      exact .inr ⟨by omega, .zero, fun g hg => hg.zero⟩
    · exact .inl (hk a x hx ha)
  · simp at ha
    subst ha
    exact ⟨0, h0, by omega⟩
  · have : a ≠ 0 := by simpa using ha
    have := hk a x hx this
    omega
theorem Way.take {l : List Code} {c : Code} {h : List Int} {w : List Nat} {a : Nat} (W : Way l c h (w ++ [a]) (fun _ => False)) : Way l c h w (fun b => b = a) :=
  ⟨W.len, W.zero, W.known, fun b hb => W.wait b (by simp [hb]), fun b i x hx h0 hb hne hi => W.done b i x hx h0 (by simp only [List.mem_append, List.mem_cons, List.not_mem_nil, or_false]; rintro (h | h); exact hb h; exact hne h) (fun h => h) hi⟩
theorem Way.put {l : List Code} {c : Code} {h : List Int} {w : List Nat} {ex : Nat → Prop} {a q : Nat} {i : Ins} {x : Int} (W : Way l c h w ex) (hi : c.ins[a]? = some i) (hx : h[a]? = some x) (h0 : 0 ≤ x) (ho : okAt l i x)
    (hq : ((q : Nat) : Int) ∈ nextI i a) (hn : h[q]? = some (-1)) : Way l c (h.set q (x - tk l i + lv l i)) (w ++ [q]) ex := by
  have hlt := (List.getElem?_eq_some_iff.1 hn).1
  have hy : 0 ≤ x - tk l i + lv l i := by have := ho.1; have := lv_nonneg l i; omega
  have hself : (h.set q (x - tk l i + lv l i))[q]? = some (x - tk l i + lv l i) := List.getElem?_set_self hlt
  obtain ⟨hr, hf⟩ : Reach c a ∧ ∀ g, Good l c g → g[a]? = some x := by
    rcases W.known a x hx with h | h
    · omega
    · exact h.2
  have h0q : q ≠ 0 := by
    rintro rfl
    rw [W.zero] at hn
    simp at hn
  refine ⟨by simp [W.len], by rw [List.getElem?_set_ne h0q]; exact W.zero, fun b y hb => ?_, fun b hb => ?_, fun b j y hb hy0 hbw hne hj => ?_⟩
  · by_cases hbq : b = q
    · subst hbq
      rw [hself] at hb
      cases hb
      refine .inr ⟨hy, .step hr hi hq, fun g hg => ?_⟩
      obtain ⟨_, hgn⟩ := hg.step a i x hi (hf g hg) h0
      obtain ⟨q', e, he⟩ := hgn _ hq
      have := Int.ofNat_inj.1 e
      subst this
      exact he
    · rw [List.getElem?_set_ne (Ne.symm hbq)] at hb
      exact W.known b y hb
  · simp only [List.mem_append, List.mem_cons, List.not_mem_nil, or_false] at hb
    by_cases hbq : b = q
    · subst hbq
      exact ⟨_, hself, hy⟩
    · rw [List.getElem?_set_ne (Ne.symm hbq)]
      exact W.wait b (hb.resolve_right hbq)
  · simp only [List.mem_append, List.mem_cons, List.not_mem_nil, or_false, not_or] at hbw
    rw [List.getElem?_set_ne (Ne.symm hbw.2)] at hb
    exact (W.done b j y hb hy0 hbw.1 hne hj).set hn
theorem Way.close {l : List Code} {c : Code} {h : List Int} {w : List Nat} {a : Nat} {i : Ins} {x : Int} (W : Way l c h w (fun b => b = a)) (hi : c.ins[a]? = some i) (hx : h[a]? = some x) (hd : Done l i a x h) : Way l c h w (fun _ => False) := by
  refine ⟨W.len, W.zero, W.known, W.wait, fun b j y hb hy hbw _ hj => ?_⟩
  by_cases hba : b = a
  · subst hba
    rw [hx] at hb
    cases hb
    rw [hi] at hj
    cases hj
    exact hd
  · exact W.done b j y hb hy hbw hba hj
theorem Way.good {l : List Code} {c : Code} {h : List Int} (W : Way l c h [] (fun _ => False)) : Good l c h :=
  ⟨W.len, W.zero, fun a i x hi hx h0 => W.done a i x hx h0 (by simp) (fun h => h) hi, fun a x hx => (W.known a x hx).imp id fun h => ⟨h.1, h.2.1⟩⟩
theorem Way.none {l : List Code} {c : Code} {h : List Int} {w : List Nat} {ex : Nat → Prop} {a : Nat} {i : Ins} {x : Int} (W : Way l c h w ex) (hi : c.ins[a]? = some i) (hx : h[a]? = some x) (h0 : 0 ≤ x)
    (hbad : ¬ okAt l i x ∨ ∃ p ∈ nextI i a, ∀ q : Nat, p = q → ∃ y, (h[q]? = some y ∧ y ≠ -1 ∧ y ≠ x - tk l i + lv l i) ∨ h.length ≤ q) : ¬ ∃ g, Good l c g := by
  rintro ⟨g, hg⟩
  have hga : g[a]? = some x := by
    rcases W.known a x hx with h | h
    · omega
    · exact h.2.2 g hg
  obtain ⟨ho, hn⟩ := hg.step a i x hi hga h0
  rcases hbad with h | ⟨p, hp, hb⟩
  · exact h ho
  · obtain ⟨q, e, hq⟩ := hn p hp
    obtain ⟨y, ⟨h1, h2, h3⟩ | h1⟩ := hb q e
    · rcases W.known q y h1 with h | h
      · exact h2 h
      · rw [h.2.2 g hg] at hq
        exact h3 (Option.some.inj hq)
    · rw [List.getElem?_eq_none (by rw [hg.len, ← W.len]; exact h1)] at hq
      cases hq
theorem negs_set {h : List Int} {q : Nat} {y : Int} (hq : h[q]? = some (-1)) (hy : 0 ≤ y) : negs (h.set q y) + 1 = negs h := by
  unfold negs
  induction h generalizing q with
  | nil => simp at hq
  | cons x h ih =>
    cases q with
    | zero =>
      simp at hq
      subst hq
      have : ((y == -1) : Bool) = false := by simp; omega
      simp [List.countP_cons, this]
    | succ q =>
      have := ih (q := q) (by simpa using hq)
      simp only [List.set_cons_succ, List.countP_cons]
      omega
theorem negs_le (h : List Int) : negs h ≤ h.length := List.countP_le_length
end Go.Proofs.YthiflgncldmkjaaDoor
set_option linter.unusedVariables false
set_option linter.unusedSimpArgs false
set_option maxRecDepth 100000
namespace Go.Proofs.YthiflgncldmkjaaDoor
open Go.Ri

structure Chk (H : AH) (k : Nat) (ls s hs : AV) (l : List Code) (c : Code) : Prop where
  blk : H.m k = some ⟨[ls, s, .int .i64 c.cells, .int .i64 c.params, .bool c.answers, hs], 100, true⟩
  codes : CodesRow H ls l
  ins : InsRow H s c.ins
  cells : InI c.cells
  params : InI c.params
theorem Chk.ext {H H' : AH} {k : Nat} {ls s hs : AV} {l : List Code} {c : Code} (h : Chk H k ls s hs l c) (hs' : H.sub H') : Chk H' k ls s hs l c :=
  ⟨hs' _ _ h.blk, h.codes.mono hs', ⟨h.ins.1.mono hs', h.ins.2⟩, h.cells, h.params⟩

theorem within_spec (d : Nat) {H : AH} {k : Nat} {ls s hs : AV} {l : List Code} {c : Code} (hk : Chk H k ls s hs l c) {n m : Int} (hn : InI n) (hm : InI m) :
    RT (d + 1) 116 [.ptr (some (k, 0)), .int .i64 n, .int .i64 m] H = some (.bool (within c n m), H) := by
  rw [R116]
  unfold F116
  by_cases h1 : n ≥ 0
  · by_cases h2 : m ≥ 1
    · simp -implicitDefEqProofs only [go_sem, Nat.reduceAdd, Nat.reduceMul, Nat.reduceLT, Nat.reduceLeDiff, Nat.reduceEqDiff, Nat.reduceBEq, reduceCtorEq, Int.reduceLT, Int.reduceLE, Int.reduceEq, Int.reduceGT, Int.reduceGE, Int.reduceToNat, Int.reduceNeg, decide_eq_true h1, decide_eq_true h2, hk.blk]
      by_cases h3 : n ≤ c.cells
      · have hw : IntKind.i64.wrap (c.cells - n) = c.cells - n := wrap_id (by have := hk.cells; unfold InI at *; omega)
        simp -implicitDefEqProofs only [go_sem, Nat.reduceAdd, Nat.reduceMul, Nat.reduceLT, Nat.reduceLeDiff, Nat.reduceEqDiff, Nat.reduceBEq, reduceCtorEq, Int.reduceLT, Int.reduceLE, Int.reduceEq, Int.reduceGT, Int.reduceGE, Int.reduceToNat, Int.reduceNeg, decide_eq_true h3, hw, hk.blk]
        simp [within, h1, h2, h3]
      · simp -implicitDefEqProofs only [go_sem, Nat.reduceAdd, Nat.reduceMul, Nat.reduceLT, Nat.reduceLeDiff, Nat.reduceEqDiff, Nat.reduceBEq, reduceCtorEq, Int.reduceLT, Int.reduceLE, Int.reduceEq, Int.reduceGT, Int.reduceGE, Int.reduceToNat, Int.reduceNeg, decide_eq_false h3]
        simp [within, h3]
    · simp -implicitDefEqProofs only [go_sem, Nat.reduceAdd, Nat.reduceMul, Nat.reduceLT, Nat.reduceLeDiff, Nat.reduceEqDiff, Nat.reduceBEq, reduceCtorEq, Int.reduceLT, Int.reduceLE, Int.reduceEq, Int.reduceGT, Int.reduceGE, Int.reduceToNat, Int.reduceNeg, decide_eq_true h1, decide_eq_false h2]
      have : ¬ (1 ≤ m) := h2
      simp [within, this]
  · simp -implicitDefEqProofs only [go_sem, Nat.reduceAdd, Nat.reduceMul, Nat.reduceLT, Nat.reduceLeDiff, Nat.reduceEqDiff, Nat.reduceBEq, reduceCtorEq, Int.reduceLT, Int.reduceLE, Int.reduceEq, Int.reduceGT, Int.reduceGE, Int.reduceToNat, Int.reduceNeg, decide_eq_false h1]
    have : ¬ (0 ≤ n) := h1
    simp [within, this]

theorem lineAV_of {i : Ins} : (lineOf i.op i.n i.m = none ∧ lineAV i.op i.n i.m = .tuple [.str ⟨#[]⟩, .int .i64 61]) ∨ ∃ t, lineOf i.op i.n i.m = some t ∧ lineAV i.op i.n i.m = .tuple [.str (strOfNums t), .int .i64 0] := by
  unfold lineAV
  cases lineOf i.op i.n i.m with
  | none => exact .inl ⟨rfl, rfl⟩
  | some t => exact .inr ⟨t, rfl, rfl⟩
theorem codes_at {H : AH} {ls : AV} {l : List Code} (h : CodesRow H ls l) {n : Int} (h0 : 0 ≤ n) (h1 : n < (l.length : Nat)) :
    ∃ b o c, l[n.toNat]? = some c ∧ (∀ kd, idxSl ls (.int kd n) 4 = some (.ptr (some (b, o)))) ∧ (∃ s, ldAgg (.ptr (some (b, o))) 4 H = some (.agg [s, .int .i64 c.cells, .int .i64 c.params, .bool c.answers]) ∧ InsRow H s c.ins ∧
      ldOne (.ptr (some (b, o + 0))) H = some s) ∧ ldOne (.ptr (some (b, o + 1))) H = some (.int .i64 c.cells) ∧ ldOne (.ptr (some (b, o + 2))) H = some (.int .i64 c.params) ∧ ldOne (.ptr (some (b, o + 3))) H = some (.bool c.answers) ∧ InI c.cells ∧ InI c.params ∧ c.ins.length ≤ 9223372036854775807 := by
  obtain ⟨rows, hr, ⟨hl, _⟩, hc⟩ := h
  have hi : n.toNat < l.length := by omega
  obtain ⟨b, o, e1, e2, e3⟩ := hr.at (i := n.toNat) (by omega)
  obtain ⟨s, hs, hi', hc1, hc2, hc3⟩ := hc n.toNat (by omega) hi
  rw [hs] at e2 e3
  refine ⟨b, o, l[n.toNat], List.getElem?_eq_getElem hi, fun kd => ?_, ⟨s, e2, hi', e3 0 (by omega)⟩, e3 1 (by omega), e3 2 (by omega), e3 3 (by omega), hc1, hc2, hc3⟩
  have := e1 kd
  rw [Int.toNat_of_nonneg h0] at this
  exact this
theorem CodesRow.alen {H : AH} {ls : AV} {l : List Code} (h : CodesRow H ls l) : aLen Tryd.prog 36 ls = some (.int .i64 (l.length : Nat)) := by
  obtain ⟨rows, hr, ⟨hl, _⟩, _⟩ := h
  rw [hr.alen ysl36.under, hl]
theorem InsRow.alen {H : AH} {s : AV} {l : List Ins} (h : InsRow H s l) : aLen Tryd.prog 22 s = some (.int .i64 (l.length : Nat)) := by
  rw [h.1.alen ysl22.under, List.length_map]

theorem may_spec (d : Nat) {H : AH} (hw : H.wf) (hT : Tabs H) {k : Nat} {ls s hs : AV} {l : List Code} {c : Code} (hk : Chk H k ls s hs l c) {i : Ins} (hi : i.Ok) :
    Ret (RT (d + 2) 94 [.ptr (some (k, 0)), .agg (insC i)] H) fun r => r.1 = .bool (mayI l c i) ∧ r.2 = H.new (insC i) 29 := by
  rw [R94]
  unfold F94
  have hx : Ext H.next H (H.new (insC i) 29) := (Ext.refl hw).new _ _
  have hT1 := hT.ext hx hT.two
  have hk1 := hk.ext (hx.sub hw)
  have hin : insC i = [.int .i64 i.op, .int .i64 i.n, .int .i64 i.m] := rfl
  rw [hin] at hx hT1 hk1 ⊢
  obtain ⟨op, n, m⟩ := i
  obtain ⟨ho, hn, hm⟩ := hi
  simp only at ho hn hm hx hT1 hk1 ⊢
  have h23 := RT_23 (d + 1) (op := op) hn hm hT1
  have hkn : k ≠ H.next := by have := hw _ _ hk.blk; omega
  rcases lineAV_of (i := ⟨op, n, m⟩) with ⟨hl, hv⟩ | ⟨t, hl, hv⟩
  · simp only at hl hv
    simp -implicitDefEqProofs only [go_sem, Nat.reduceAdd, Nat.reduceMul, Nat.reduceLT, Nat.reduceLeDiff, Nat.reduceEqDiff, Nat.reduceBEq, reduceCtorEq, Int.reduceLT, Int.reduceLE, Int.reduceEq, Int.reduceGT, Int.reduceGE, Int.reduceToNat, Int.reduceNeg, h23, hv]
    exact .mk ⟨by simp [mayI, hl], rfl⟩
  · simp only at hl hv
    simp -implicitDefEqProofs only [go_sem, Nat.reduceAdd, Nat.reduceMul, Nat.reduceLT, Nat.reduceLeDiff, Nat.reduceEqDiff, Nat.reduceBEq, reduceCtorEq, Int.reduceLT, Int.reduceLE, Int.reduceEq, Int.reduceGT, Int.reduceGE, Int.reduceToNat, Int.reduceNeg, h23, hv]
    have hwn := fun (a b : Int) (ha : InI a) (hb : InI b) => within_spec d hk1 ha hb
    have hns : (lineOf op n m).isNone = false := by rw [hl]; rfl
    by_cases e2 : op = 2
    · subst e2
      simp -implicitDefEqProofs only [go_sem, Nat.reduceAdd, Nat.reduceMul, Nat.reduceLT, Nat.reduceLeDiff, Nat.reduceEqDiff, Nat.reduceBEq, reduceCtorEq, Int.reduceLT, Int.reduceLE, Int.reduceEq, Int.reduceGT, Int.reduceGE, Int.reduceToNat, Int.reduceNeg, F94_J2, hwn n 1 hn (by unfold InI; omega)]
      exact .mk ⟨by simp [mayI, hns], rfl⟩
    by_cases e3 : op = 3
    · subst e3
      simp -implicitDefEqProofs only [go_sem, Nat.reduceAdd, Nat.reduceMul, Nat.reduceLT, Nat.reduceLeDiff, Nat.reduceEqDiff, Nat.reduceBEq, reduceCtorEq, Int.reduceLT, Int.reduceLE, Int.reduceEq, Int.reduceGT, Int.reduceGE, Int.reduceToNat, Int.reduceNeg, F94_J2, hwn n 1 hn (by unfold InI; omega)]
      exact .mk ⟨by simp [mayI, hns], rfl⟩
    have hfin : ∀ o : Int, (op = 4 ∨ op = 5 ∨ op = 6) → mayI l c ⟨op, n, m⟩ = (decide (m ≤ 64) && within c n m) := fun o h => by
      rcases h with rfl | rfl | rfl <;> simp [mayI, hns]
    by_cases e4 : op = 4 ∨ op = 5 ∨ op = 6
    · have hf := hfin 0 e4
      by_cases h64 : m ≤ 64
      · rcases e4 with rfl | rfl | rfl <;> simp -implicitDefEqProofs only [go_sem, Nat.reduceAdd, Nat.reduceMul, Nat.reduceLT, Nat.reduceLeDiff, Nat.reduceEqDiff, Nat.reduceBEq, reduceCtorEq, Int.reduceLT, Int.reduceLE, Int.reduceEq, Int.reduceGT, Int.reduceGE, Int.reduceToNat, Int.reduceNeg, F94_J2, F94_J1, decide_eq_true h64, hwn n m hn hm] <;> exact .mk ⟨by rw [hf]; simp [h64], rfl⟩
      · rcases e4 with rfl | rfl | rfl <;> simp -implicitDefEqProofs only [go_sem, Nat.reduceAdd, Nat.reduceMul, Nat.reduceLT, Nat.reduceLeDiff, Nat.reduceEqDiff, Nat.reduceBEq, reduceCtorEq, Int.reduceLT, Int.reduceLE, Int.reduceEq, Int.reduceGT, Int.reduceGE, Int.reduceToNat, Int.reduceNeg, F94_J2, F94_J1, decide_eq_false h64] <;> exact .mk ⟨by rw [hf]; simp [h64], rfl⟩
    have hlen := hk1.ins.alen
    have n4 : op ≠ 4 := fun h => e4 (.inl h)
    have n5 : op ≠ 5 := fun h => e4 (.inr (.inl h))
    have n6 : op ≠ 6 := fun h => e4 (.inr (.inr h))
    by_cases e17 : op = 17 ∨ op = 18
    · have hf : mayI l c ⟨op, n, m⟩ = (decide (0 ≤ n) && decide (n < (c.ins.length : Nat))) := by
        rcases e17 with rfl | rfl <;> simp [mayI, hns]
      by_cases h0 : n ≥ 0
      · rcases e17 with rfl | rfl <;> simp -implicitDefEqProofs only [go_sem, Nat.reduceAdd, Nat.reduceMul, Nat.reduceLT, Nat.reduceLeDiff, Nat.reduceEqDiff, Nat.reduceBEq, reduceCtorEq, Int.reduceLT, Int.reduceLE, Int.reduceEq, Int.reduceGT, Int.reduceGE, Int.reduceToNat, Int.reduceNeg, F94_J2, F94_J1, F94_J0, decide_eq_true h0, hk.blk, hkn, hlen] <;> exact .mk ⟨by rw [hf]; simp [h0], rfl⟩
      · have h0' : ¬ (0 ≤ n) := h0
        rcases e17 with rfl | rfl <;> simp -implicitDefEqProofs only [go_sem, Nat.reduceAdd, Nat.reduceMul, Nat.reduceLT, Nat.reduceLeDiff, Nat.reduceEqDiff, Nat.reduceBEq, reduceCtorEq, Int.reduceLT, Int.reduceLE, Int.reduceEq, Int.reduceGT, Int.reduceGE, Int.reduceToNat, Int.reduceNeg, F94_J2, F94_J1, F94_J0, decide_eq_false h0] <;> exact .mk ⟨by rw [hf]; simp [h0'], rfl⟩
    have n17 : op ≠ 17 := fun h => e17 (.inl h)
    have n18 : op ≠ 18 := fun h => e17 (.inr h)
    by_cases e19 : op = 19
    · subst e19
      have hf : mayI l c ⟨19, n, m⟩ = (decide (0 ≤ n) && decide (n < (l.length : Nat)) && decide (0 ≤ m) && decide (m ≤ 8) && decide (m = paramsAt l n)) := by simp [mayI, hns]
      have hcl := hk1.codes.alen
      simp -implicitDefEqProofs only [go_sem, Nat.reduceAdd, Nat.reduceMul, Nat.reduceLT, Nat.reduceLeDiff, Nat.reduceEqDiff, Nat.reduceBEq, reduceCtorEq, Int.reduceLT, Int.reduceLE, Int.reduceEq, Int.reduceGT, Int.reduceGE, Int.reduceToNat, Int.reduceNeg, F94_J2, F94_J1, F94_J0]
      by_cases h0 : n ≥ 0
      · simp -implicitDefEqProofs only [go_sem, Nat.reduceAdd, Nat.reduceMul, Nat.reduceLT, Nat.reduceLeDiff, Nat.reduceEqDiff, Nat.reduceBEq, reduceCtorEq, Int.reduceLT, Int.reduceLE, Int.reduceEq, Int.reduceGT, Int.reduceGE, Int.reduceToNat, Int.reduceNeg, decide_eq_true h0, hk.blk, hkn, hcl]
        by_cases h1 : n < (l.length : Nat)
        · simp -implicitDefEqProofs only [go_sem, Nat.reduceAdd, Nat.reduceMul, Nat.reduceLT, Nat.reduceLeDiff, Nat.reduceEqDiff, Nat.reduceBEq, reduceCtorEq, Int.reduceLT, Int.reduceLE, Int.reduceEq, Int.reduceGT, Int.reduceGE, Int.reduceToNat, Int.reduceNeg, decide_eq_true h1]
          by_cases h2 : m ≥ 0
          · simp -implicitDefEqProofs only [go_sem, Nat.reduceAdd, Nat.reduceMul, Nat.reduceLT, Nat.reduceLeDiff, Nat.reduceEqDiff, Nat.reduceBEq, reduceCtorEq, Int.reduceLT, Int.reduceLE, Int.reduceEq, Int.reduceGT, Int.reduceGE, Int.reduceToNat, Int.reduceNeg, decide_eq_true h2]
            by_cases h3 : m ≤ 8
            · obtain ⟨b, o, c', q1, q2, q3, q4, q5, _⟩ := codes_at hk1.codes h0 h1
              simp -implicitDefEqProofs only [go_sem, Nat.reduceAdd, Nat.reduceMul, Nat.reduceLT, Nat.reduceLeDiff, Nat.reduceEqDiff, Nat.reduceBEq, reduceCtorEq, Int.reduceLT, Int.reduceLE, Int.reduceEq, Int.reduceGT, Int.reduceGE, Int.reduceToNat, Int.reduceNeg, decide_eq_true h3, hk.blk, hkn, q2, q5]
              have hp : paramsAt l n = c'.params := by simp [paramsAt, q1]
              have k0 : decide (0 ≤ n) = true := decide_eq_true h0
              have k2 : decide (0 ≤ m) = true := decide_eq_true h2
              exact .mk ⟨by rw [hf, hp, k0, k2, decide_eq_true h1, decide_eq_true h3]; rfl, rfl⟩
            · simp -implicitDefEqProofs only [go_sem, Nat.reduceAdd, Nat.reduceMul, Nat.reduceLT, Nat.reduceLeDiff, Nat.reduceEqDiff, Nat.reduceBEq, reduceCtorEq, Int.reduceLT, Int.reduceLE, Int.reduceEq, Int.reduceGT, Int.reduceGE, Int.reduceToNat, Int.reduceNeg, decide_eq_false h3]
              exact .mk ⟨by rw [hf]; simp [h3], rfl⟩
          · simp -implicitDefEqProofs only [go_sem, Nat.reduceAdd, Nat.reduceMul, Nat.reduceLT, Nat.reduceLeDiff, Nat.reduceEqDiff, Nat.reduceBEq, reduceCtorEq, Int.reduceLT, Int.reduceLE, Int.reduceEq, Int.reduceGT, Int.reduceGE, Int.reduceToNat, Int.reduceNeg, decide_eq_false h2]
            have h2' : ¬ (0 ≤ m) := h2
            exact .mk ⟨by rw [hf]; simp [h2'], rfl⟩
        · simp -implicitDefEqProofs only [go_sem, Nat.reduceAdd, Nat.reduceMul, Nat.reduceLT, Nat.reduceLeDiff, Nat.reduceEqDiff, Nat.reduceBEq, reduceCtorEq, Int.reduceLT, Int.reduceLE, Int.reduceEq, Int.reduceGT, Int.reduceGE, Int.reduceToNat, Int.reduceNeg, decide_eq_false h1]
          exact .mk ⟨by rw [hf]; simp [h1], rfl⟩
      · simp -implicitDefEqProofs only [go_sem, Nat.reduceAdd, Nat.reduceMul, Nat.reduceLT, Nat.reduceLeDiff, Nat.reduceEqDiff, Nat.reduceBEq, reduceCtorEq, Int.reduceLT, Int.reduceLE, Int.reduceEq, Int.reduceGT, Int.reduceGE, Int.reduceToNat, Int.reduceNeg, decide_eq_false h0]
        have h0' : ¬ (0 ≤ n) := h0
        exact .mk ⟨by rw [hf]; simp [h0'], rfl⟩
    by_cases e20 : op = 20
    · subst e20
      have hf : mayI l c ⟨20, n, m⟩ = decide (n = if c.answers = true then 1 else 0) := by simp [mayI, hns]
      simp -implicitDefEqProofs only [go_sem, Nat.reduceAdd, Nat.reduceMul, Nat.reduceLT, Nat.reduceLeDiff, Nat.reduceEqDiff, Nat.reduceBEq, reduceCtorEq, Int.reduceLT, Int.reduceLE, Int.reduceEq, Int.reduceGT, Int.reduceGE, Int.reduceToNat, Int.reduceNeg, F94_J2, F94_J1, F94_J0, hk.blk, hkn]
      by_cases h0 : n = 0
      · subst h0
        simp -implicitDefEqProofs only [go_sem, Nat.reduceAdd, Nat.reduceMul, Nat.reduceLT, Nat.reduceLeDiff, Nat.reduceEqDiff, Nat.reduceBEq, reduceCtorEq, Int.reduceLT, Int.reduceLE, Int.reduceEq, Int.reduceGT, Int.reduceGE, Int.reduceToNat, Int.reduceNeg, hk.blk, hkn]
        cases hans : c.answers
        · simp -implicitDefEqProofs only [go_sem, Nat.reduceEqDiff, Nat.reduceBEq, reduceCtorEq]
          exact .mk ⟨by rw [hf]; simp [hans], rfl⟩
        · simp -implicitDefEqProofs only [go_sem, Nat.reduceEqDiff, Nat.reduceBEq, reduceCtorEq]
          exact .mk ⟨by rw [hf]; simp [hans], rfl⟩
      · simp -implicitDefEqProofs only [go_sem, Nat.reduceAdd, Nat.reduceMul, Nat.reduceLT, Nat.reduceLeDiff, Nat.reduceEqDiff, Nat.reduceBEq, reduceCtorEq, Int.reduceLT, Int.reduceLE, Int.reduceEq, Int.reduceGT, Int.reduceGE, Int.reduceToNat, Int.reduceNeg, decide_eq_false h0]
        by_cases h1 : n = 1
        · subst h1
          simp -implicitDefEqProofs only [go_sem, Nat.reduceAdd, Nat.reduceMul, Nat.reduceLT, Nat.reduceLeDiff, Nat.reduceEqDiff, Nat.reduceBEq, reduceCtorEq, Int.reduceLT, Int.reduceLE, Int.reduceEq, Int.reduceGT, Int.reduceGE, Int.reduceToNat, Int.reduceNeg, hk.blk, hkn]
          exact .mk ⟨by rw [hf]; cases c.answers <;> simp, rfl⟩
        · simp -implicitDefEqProofs only [go_sem, Nat.reduceAdd, Nat.reduceMul, Nat.reduceLT, Nat.reduceLeDiff, Nat.reduceEqDiff, Nat.reduceBEq, reduceCtorEq, Int.reduceLT, Int.reduceLE, Int.reduceEq, Int.reduceGT, Int.reduceGE, Int.reduceToNat, Int.reduceNeg, decide_eq_false h1]
          exact .mk ⟨by rw [hf]; cases c.answers <;> simp [h0, h1], rfl⟩
    by_cases e24 : op = 24
    · subst e24
      have hf : mayI l c ⟨24, n, m⟩ = (decide (0 ≤ n) && decide (1 ≤ m) && decide (m ≤ 3)) := by simp [mayI, hns]
      simp -implicitDefEqProofs only [go_sem, Nat.reduceAdd, Nat.reduceMul, Nat.reduceLT, Nat.reduceLeDiff, Nat.reduceEqDiff, Nat.reduceBEq, reduceCtorEq, Int.reduceLT, Int.reduceLE, Int.reduceEq, Int.reduceGT, Int.reduceGE, Int.reduceToNat, Int.reduceNeg, F94_J2, F94_J1, F94_J0]
      by_cases h0 : n ≥ 0
      · simp -implicitDefEqProofs only [go_sem, Nat.reduceAdd, Nat.reduceMul, Nat.reduceLT, Nat.reduceLeDiff, Nat.reduceEqDiff, Nat.reduceBEq, reduceCtorEq, Int.reduceLT, Int.reduceLE, Int.reduceEq, Int.reduceGT, Int.reduceGE, Int.reduceToNat, Int.reduceNeg, decide_eq_true h0]
        by_cases h1 : m ≥ 1
        · simp -implicitDefEqProofs only [go_sem, Nat.reduceAdd, Nat.reduceMul, Nat.reduceLT, Nat.reduceLeDiff, Nat.reduceEqDiff, Nat.reduceBEq, reduceCtorEq, Int.reduceLT, Int.reduceLE, Int.reduceEq, Int.reduceGT, Int.reduceGE, Int.reduceToNat, Int.reduceNeg, decide_eq_true h1]
          exact .mk ⟨by rw [hf]; simp [h0, h1], rfl⟩
        · simp -implicitDefEqProofs only [go_sem, Nat.reduceAdd, Nat.reduceMul, Nat.reduceLT, Nat.reduceLeDiff, Nat.reduceEqDiff, Nat.reduceBEq, reduceCtorEq, Int.reduceLT, Int.reduceLE, Int.reduceEq, Int.reduceGT, Int.reduceGE, Int.reduceToNat, Int.reduceNeg, decide_eq_false h1]
          have h1' : ¬ (1 ≤ m) := h1
          exact .mk ⟨by rw [hf]; simp [h1'], rfl⟩
      · simp -implicitDefEqProofs only [go_sem, Nat.reduceAdd, Nat.reduceMul, Nat.reduceLT, Nat.reduceLeDiff, Nat.reduceEqDiff, Nat.reduceBEq, reduceCtorEq, Int.reduceLT, Int.reduceLE, Int.reduceEq, Int.reduceGT, Int.reduceGE, Int.reduceToNat, Int.reduceNeg, decide_eq_false h0]
        have h0' : ¬ (0 ≤ n) := h0
        exact .mk ⟨by rw [hf]; simp [h0'], rfl⟩
    simp -implicitDefEqProofs only [go_sem, Nat.reduceAdd, Nat.reduceMul, Nat.reduceLT, Nat.reduceLeDiff, Nat.reduceEqDiff, Nat.reduceBEq, reduceCtorEq, Int.reduceLT, Int.reduceLE, Int.reduceEq, Int.reduceGT, Int.reduceGE, Int.reduceToNat, Int.reduceNeg, F94_J2, F94_J1, F94_J0, decide_eq_false e2, decide_eq_false e3, decide_eq_false n4, decide_eq_false n5, decide_eq_false n6, decide_eq_false n17, decide_eq_false n18, decide_eq_false e19, decide_eq_false e20, decide_eq_false e24]
    exact .mk ⟨by simp [mayI, hns, e2, e3, n4, n5, n6, n17, n18, e19, e20, e24], rfl⟩

theorem stack_takes (op : Int) (h : 1 ≤ op ∧ op ≤ 25) : stackA[op.toNat * 2]? = some (.int .i64 (takes op)) := by
  have hl : stackN.length = 52 := by decide
  unfold stackA takes
  rw [List.getElem?_map, List.getD_eq_getElem?_getD, List.getElem?_eq_getElem (by omega)]
  rfl
theorem stack_leaves (op : Int) (h : 1 ≤ op ∧ op ≤ 25) : stackA[op.toNat * 2 + 1]? = some (.int .i64 (leaves op)) := by
  have hl : stackN.length = 52 := by decide
  unfold stackA leaves
  rw [List.getElem?_map, List.getD_eq_getElem?_getD, List.getElem?_eq_getElem (by omega)]
  rfl
theorem moves_spec (d : Nat) {H : AH} (hw : H.wf) (hT : Tabs H) {k : Nat} {ls s hs : AV} {l : List Code} {c : Code} (hk : Chk H k ls s hs l c) {i : Ins} (hm : mayI l c i = true) :
    RT (d + 1) 117 [.ptr (some (k, 0)), .agg (insC i)] H = some (.tuple [.int .i64 (tk l i), .int .i64 (lv l i)], H.new (insC i) 29) := by
  rw [R117]
  unfold F117
  have hop := mayI_op hm
  have hx : Ext H.next H (H.new (insC i) 29) := (Ext.refl hw).new _ _
  have hk1 := hk.ext (hx.sub hw)
  have hin : insC i = [.int .i64 i.op, .int .i64 i.n, .int .i64 i.m] := rfl
  rw [hin] at hx hk1 ⊢
  obtain ⟨op, n, m⟩ := i
  simp only at hop hm hx hk1 ⊢
  have hkn : k ≠ H.next := by have := hw _ _ hk.blk; omega
  have h1n : ¬ (1 = H.next) := by have := hT.two; omega
  by_cases e19 : op = 19
  · subst e19
    have hm' : (decide (0 ≤ n) && decide (n < (l.length : Nat)) && decide (0 ≤ m) && decide (m ≤ 8) && decide (m = paramsAt l n)) = true := by
      have := hm
      unfold mayI at this
      split at this
      · cases this
      · simpa using this
    simp only [Bool.and_eq_true, decide_eq_true_eq] at hm'
    obtain ⟨b, o, c', q1, q2, q3, q4, q5, q6, _⟩ := codes_at hk1.codes hm'.1.1.1.1 hm'.1.1.1.2
    simp -implicitDefEqProofs only [go_sem, Nat.reduceAdd, Nat.reduceMul, Nat.reduceLT, Nat.reduceLeDiff, Nat.reduceEqDiff, Nat.reduceBEq, reduceCtorEq, Int.reduceLT, Int.reduceLE, Int.reduceEq, Int.reduceGT, Int.reduceGE, Int.reduceToNat, Int.reduceNeg, hk.blk, hkn, q2, q6]
    have ha : answersAt l n = c'.answers := by simp [answersAt, q1]
    cases hans : c'.answers
    · simp -implicitDefEqProofs only [go_sem, Nat.reduceEqDiff, Nat.reduceBEq, reduceCtorEq]
      simp [tk, lv, ha, hans]
    · simp -implicitDefEqProofs only [go_sem, Nat.reduceEqDiff, Nat.reduceBEq, reduceCtorEq]
      simp [tk, lv, ha, hans]
  by_cases e20 : op = 20
  · subst e20
    simp -implicitDefEqProofs only [go_sem, Nat.reduceAdd, Nat.reduceMul, Nat.reduceLT, Nat.reduceLeDiff, Nat.reduceEqDiff, Nat.reduceBEq, reduceCtorEq, Int.reduceLT, Int.reduceLE, Int.reduceEq, Int.reduceGT, Int.reduceGE, Int.reduceToNat, Int.reduceNeg]
    simp [tk, lv]
  obtain ⟨es, hst⟩ := hT.stack
  have h0 : 0 ≤ op ∧ op < 26 := by omega
  simp -implicitDefEqProofs only [go_sem, Nat.reduceAdd, Nat.reduceMul, Nat.reduceLT, Nat.reduceLeDiff, Nat.reduceEqDiff, Nat.reduceBEq, reduceCtorEq, Int.reduceLT, Int.reduceLE, Int.reduceEq, Int.reduceGT, Int.reduceGE, Int.reduceToNat, Int.reduceNeg, decide_eq_false e19, decide_eq_false e20, decide_eq_true (show op < 26 by omega), if_pos h0, hst, h1n, stack_takes op hop, stack_leaves op hop]
  simp [tk, lv, e19, e20]

theorem next_spec (d : Nat) {H : AH} (hw : H.wf) (i : Ins) {a : Nat} (ha : a < 70000) :
    Ret (RT (d + 1) 118 [.agg (insC i), .int .i64 (a : Nat)] H) fun r => Row r.2 r.1 1 ((nextI i a).map fun p => [.int .i64 p]) ∧ Ext H.next H r.2 ∧ ∀ b o n c, r.1 = .slice (some (b, o)) n c → H.next ≤ b ∧ b < r.2.next := by
  rw [R118]
  unfold F118
  have hin : insC i = [.int .i64 i.op, .int .i64 i.n, .int .i64 i.m] := rfl
  have hx : Ext H.next H (H.new (insC i) 29) := (Ext.refl hw).new _ _
  rw [hin] at hx ⊢
  have hwr := wrapS (i := a) (by omega)
  have hnn : (H.next + 1 = H.next + 1) = True := by simp
  have one : ∀ p : Int, Row (((H.new [.int .i64 i.op, .int .i64 i.n, .int .i64 i.m] 29).new [.int .i64 p] 3)) (.slice (some (H.next + 1, 0)) 1 (.kn 1)) 1 [[.int .i64 p]] := fun p =>
    Own.row (l := [[.int .i64 p]]) (by omega) (Own.made (N := 0) (H := H.new [.int .i64 i.op, .int .i64 i.n, .int .i64 i.m] 29) (n := 1) (Nat.zero_le _) rfl) (by simp)
  have two : ∀ p q : Int, Row (((H.new [.int .i64 i.op, .int .i64 i.n, .int .i64 i.m] 29).new [.int .i64 p, .int .i64 q] 3)) (.slice (some (H.next + 1, 0)) 2 (.kn 2)) 1 [[.int .i64 p], [.int .i64 q]] := fun p q =>
    Own.row (l := [[.int .i64 p], [.int .i64 q]]) (by omega) (Own.made (N := 0) (H := H.new [.int .i64 i.op, .int .i64 i.n, .int .i64 i.m] 29) (n := 2) (Nat.zero_le _) rfl) (by simp)
  by_cases e17 : i.op = 17
  · simp -implicitDefEqProofs only [go_sem, Nat.reduceAdd, Nat.reduceMul, Nat.reduceLT, Nat.reduceLeDiff, Nat.reduceEqDiff, Nat.reduceBEq, reduceCtorEq, Int.reduceLT, Int.reduceLE, Int.reduceEq, Int.reduceGT, Int.reduceGE, Int.reduceToNat, Int.reduceNeg, decide_eq_true e17]
    refine .mk ⟨?_, hx.new _ _, fun b o n c h => by cases h; simp⟩
    simp only [nextI, if_pos e17]
    exact one i.n
  by_cases e18 : i.op = 18
  · simp -implicitDefEqProofs only [go_sem, Nat.reduceAdd, Nat.reduceMul, Nat.reduceLT, Nat.reduceLeDiff, Nat.reduceEqDiff, Nat.reduceBEq, reduceCtorEq, Int.reduceLT, Int.reduceLE, Int.reduceEq, Int.reduceGT, Int.reduceGE, Int.reduceToNat, Int.reduceNeg, decide_eq_false e17, decide_eq_true e18, hwr]
    refine .mk ⟨?_, hx.new _ _, fun b o n c h => by cases h; simp⟩
    simp only [nextI, if_neg e17, if_pos e18]
    exact two _ _
  by_cases e20 : i.op = 20
  · simp -implicitDefEqProofs only [go_sem, Nat.reduceAdd, Nat.reduceMul, Nat.reduceLT, Nat.reduceLeDiff, Nat.reduceEqDiff, Nat.reduceBEq, reduceCtorEq, Int.reduceLT, Int.reduceLE, Int.reduceEq, Int.reduceGT, Int.reduceGE, Int.reduceToNat, Int.reduceNeg, decide_eq_false e17, decide_eq_false e18, decide_eq_true e20]
    refine .mk ⟨?_, hx, fun b o n c h => by cases h⟩
    simp only [nextI, if_neg e17, if_neg e18, if_pos e20]
    exact Row.nil _ _
  · simp -implicitDefEqProofs only [go_sem, Nat.reduceAdd, Nat.reduceMul, Nat.reduceLT, Nat.reduceLeDiff, Nat.reduceEqDiff, Nat.reduceBEq, reduceCtorEq, Int.reduceLT, Int.reduceLE, Int.reduceEq, Int.reduceGT, Int.reduceGE, Int.reduceToNat, Int.reduceNeg, decide_eq_false e17, decide_eq_false e18, decide_eq_false e20, hwr]
    refine .mk ⟨?_, hx.new _ _, fun b o n c h => by cases h; simp⟩
    simp only [nextI, if_neg e17, if_neg e18, if_neg e20]
    exact one _
end Go.Proofs.YthiflgncldmkjaaDoor
set_option linter.unusedVariables false
set_option linter.unusedSimpArgs false
set_option maxRecDepth 100000
namespace Go.Ri
theorem AH.same {H H' : AH} (h1 : ∀ i, H.m i = H'.m i) (h2 : H.next = H'.next) : H = H' := by
  cases H
  cases H'
  simp only [AH.mk.injEq]
  exact ⟨funext h1, h2⟩
theorem new_put (H : AH) (cs cs' : List AV) (e e' : TypeId) : (H.new cs e).put H.next ⟨cs', e', true⟩ = H.new cs' e' := AH.same (fun i => by simp only [put_m, new_m]; split <;> rfl) rfl
theorem res_new (H : AH) (cs : List AV) (e : TypeId) (B : Blk) : ((H.res 1).put H.next B).put H.next ⟨cs, e, true⟩ = H.new cs e := AH.same (fun i => by simp only [put_m, new_m, res_m]; split <;> rfl) rfl
theorem Ext.self {N : Nat} {H : AH} (h : H.wf) (hN : N ≤ H.next) : Ext N H H := ⟨fun _ _ => rfl, hN, h⟩
theorem Ext.less {N M : Nat} {H0 H : AH} (h : Ext N H0 H) (hM : M ≤ N) : Ext M H0 H := ⟨fun b hb => h.low b (by omega), Nat.le_trans hM h.next, h.wf⟩
theorem Own.shape {N sz : Nat} {e : TypeId} {H : AH} {s : AV} {cs : List AV} (h : Own N sz e H s cs) : ∃ p n c, s = .slice p n c := by
  rcases h with ⟨rfl, _⟩ | ⟨b, n, c, B, rfl, _⟩
  · exact ⟨_, _, _, rfl⟩
  · exact ⟨_, _, _, rfl⟩
theorem Own.put {N sz : Nat} {e : TypeId} {H : AH} {s : AV} {cs : List AV} (h : Own N sz e H s cs) {b : Nat} (hb : ¬ At s b) (B : Blk) : Own N sz e (H.put b B) s cs := by
  refine h.mono fun i hi => ?_
  intro c hc
  have : i ≠ b := by
    rintro rfl
    exact hb ⟨_, _, hc⟩
  simp [this]
theorem Own.ne {N sz : Nat} {e : TypeId} {H : AH} {s : AV} {cs : List AV} (h : Own N sz e H s cs) {b : Nat} (hb : b < N) : ¬ At s b := fun ha => by
  obtain ⟨_, _, h9⟩ := h.at ha
  omega
theorem Own.to {N sz : Nat} {e : TypeId} {H H' : AH} {s : AV} {cs : List AV} (h : Own N sz e H s cs) (hs : ∀ b, At s b → H'.m b = H.m b) : Own N sz e H' s cs := by
  rcases h with h | ⟨b, n, c, B, rfl, h2, h3, h4, h5⟩
  · exact .inl h
  · exact .inr ⟨b, n, c, B, rfl, h2, h3, by rw [hs b ⟨n, c, rfl⟩]; exact h4, h5⟩
theorem Own.alen {P : Program} {t e' : TypeId} (hu : P.underlying t = some (.slice e')) {N : Nat} {e : TypeId} {H : AH} {s : AV} {cs : List AV} (h : Own N 1 e H s cs) : aLen P t s = some (.int .i64 (cs.length : Nat)) := by
  unfold aLen
  rw [hu]
  rcases h with ⟨rfl, rfl⟩ | ⟨b, n, c, B, rfl, _, hl, _⟩
  · rfl
  · rw [Nat.mul_one] at hl
    rw [hl]
theorem Own.cell {N : Nat} {e : TypeId} {H : AH} {s : AV} {cs : List AV} (h : Own N 1 e H s cs) (hw : H.wf) {i : Nat} (hi : i < cs.length) :
    ∃ b B, At s b ∧ N ≤ b ∧ b < H.next ∧ H.m b = some B ∧ B.rw_ = true ∧ i < B.cells.length ∧ B.cells[i]? = cs[i]? ∧ (∀ k, idxSl s (.int k (i : Nat)) 1 = some (.ptr (some (b, i)))) ∧ ∀ v, Own N 1 e (H.put b ⟨B.cells.set i v, B.elem, B.rw_⟩) s (cs.set i v) := by
  rcases h with ⟨_, rfl⟩ | ⟨b, n, c, B, rfl, hc, hcl, hb, hbe, hbr, hbl, htk, hN⟩
  · simp at hi
  · rw [Nat.mul_one] at hcl hbl htk
    subst hcl
    refine ⟨b, B, ⟨_, _, rfl⟩, hN, hw _ _ hb, hb, hbr, by omega, ?_, fun k => ?_, fun v => ?_⟩
    · have h1 : (B.cells.take cs.length)[i]? = cs[i]? := by rw [htk]
      rw [List.getElem?_take, if_pos hi] at h1
      exact h1
    · simp [idxSl]; omega
    · refine .inr ⟨b, cs.length, c, ⟨B.cells.set i v, B.elem, B.rw_⟩, rfl, ?_, by simp, by simp, hbe, hbr, by simpa using hbl, ?_, hN⟩
      · rcases hc with h | ⟨m, h1, h2, h3⟩
        · exact .inl h
        · exact .inr ⟨m, h1, h2, by simpa using h3⟩
      · rw [Nat.mul_one]
        simp only
        rw [List.take_set, htk]
def AtR (s : AV) (b : Nat) : Prop := ∃ o n c, s = .slice (some (b, o)) n c
theorem Row.keep {H H' : AH} {s : AV} {k : Nat} {l : List (List AV)} (h : Row H s k l) (hs : ∀ b, AtR s b → H'.m b = H.m b) : Row H' s k l := by
  refine ⟨h.len, ?_⟩
  rcases h.is with h1 | ⟨a, c, rfl, h2⟩
  · exact .inl h1
  · refine .inr ⟨a, c, rfl, h2.imp id ?_⟩
    rintro ⟨b, o, B, rfl, hB, r⟩
    exact ⟨b, o, B, rfl, by rw [hs b ⟨o, _, _, rfl⟩]; exact hB, r⟩
end Go.Ri
namespace Go.Proofs.YthiflgncldmkjaaDoor
open Go.Ri

def intsC (l : List Int) : List AV := l.map (.int .i64)
theorem intsC_len (l : List Int) : (intsC l).length = l.length := by simp [intsC]
theorem intsC_get (l : List Int) (i : Nat) : (intsC l)[i]? = (l[i]?).map (.int .i64) := by simp [intsC]
theorem intsC_set (l : List Int) (i : Nat) (x : Int) : (intsC l).set i (.int .i64 x) = intsC (l.set i x) := by simp [intsC, List.map_set]
abbrev OwnI (N : Nat) (H : AH) (s : AV) (l : List Int) : Prop := Own N 1 3 H s (intsC l)
theorem OwnI.more {N : Nat} {H0 H : AH} {s : AV} {l : List Int} {x : Int} (hs : OwnI N H s l) (he : Ext N H0 H) (hlim : l.length < 1000000000) :
    Ret (aAppend Tryd.prog 40 40 s (.slice (some (H.next, 0)) 1 (.kn 1)) (H.new [.int .i64 x] 3)) fun r => OwnI N r.2 r.1 (l ++ [x]) ∧ Ext N H0 r.2 ∧ H.next < r.2.next ∧ (∀ b, b < H.next → ¬ At s b → r.2.m b = H.m b) ∧ ∀ b, At r.1 b → At s b ∨ (H.next < b ∧ b < r.2.next) :=
  (app_el (ds := [.int .i64 x]) ysl40 hs he rfl (by rw [intsC_len]; omega)).mono fun r h => ⟨by simpa [OwnI, intsC] using h.1, h.2⟩

section
variable {Hb : AH} {ls s : AV} {l : List Code} {c : Code}
structure Ck (Hb : AH) (ls s : AV) (c : Code) (H : AH) (hs : AV) : Prop where
  ext : Ext Hb.next Hb H
  blk : H.m Hb.next = some ⟨[ls, s, .int .i64 c.cells, .int .i64 c.params, .bool c.answers, hs], 100, true⟩
structure Base (Hb : AH) (ls s : AV) (l : List Code) (c : Code) : Prop where
  wf : Hb.wf
  tabs : Tabs Hb
  codes : CodesRow Hb ls l
  ins : InsRow Hb s c.ins
  cells : InI c.cells
  params : InI c.params
theorem Ck.chk {H : AH} {hs : AV} (h : Ck Hb ls s c H hs) (B : Base Hb ls s l c) : Chk H Hb.next ls s hs l c :=
  ⟨h.blk, B.codes.mono (h.ext.sub B.wf), ⟨B.ins.1.mono (h.ext.sub B.wf), B.ins.2⟩, B.cells, B.params⟩
theorem Ck.tabs {H : AH} {hs : AV} (h : Ck Hb ls s c H hs) (B : Base Hb ls s l c) : Tabs H := B.tabs.ext h.ext B.tabs.two
theorem Ck.lt {H : AH} {hs : AV} (h : Ck Hb ls s c H hs) : Hb.next < H.next := h.ext.wf _ _ h.blk

def I3 (Hb : AH) (ls s : AV) (c : Code) (i : Nat) (t : St) : Prop :=
  t.1 0 = .ptr (some (Hb.next, 0)) ∧ t.1 16 = .int .i64 (c.ins.length : Nat) ∧ t.1 17 = .int .i64 (i : Nat) ∧ ∃ hs, Ck Hb ls s c t.2 hs ∧ OwnI (Hb.next + 1) t.2 hs (List.replicate i (-1))
theorem loop3 (d : Nat) (B : Base Hb ls s l c) (hlen : c.ins.length ≤ 65536) {T : Tm} {H : AH} (h0 : I3 Hb ls s c 0 (T, H)) :
    Ret (Ri.iter big (F95_L3 (RT d) (Ri.iter big)) (T, H)) fun r => r.1 = .exit 0 ∧ I3 Hb ls s c c.ins.length r.2 := by
  refine Ret.upTo (n := c.ins.length) (I3 Hb ls s c) (by unfold big; omega) h0 ?_ ?_
  · rintro i ⟨T1, H1⟩ hi ⟨t0, t16, t17, hs, hck, hown⟩
    simp only at t0 t16 t17 hck hown
    have hcmp : decide (((i : Nat) : Int) < ((c.ins.length : Nat) : Int)) = true := decide_eq_true (by omega)
    have hkn : Hb.next ≠ H1.next := Nat.ne_of_lt hck.lt
    unfold F95_L3
    simp -implicitDefEqProofs only [go_sem, Nat.reduceAdd, Nat.reduceMul, Nat.reduceLT, Nat.reduceLeDiff, Nat.reduceEqDiff, Nat.reduceBEq, reduceCtorEq, Int.reduceLT, Int.reduceLE, Int.reduceEq, Int.reduceGT, Int.reduceGE, Int.reduceToNat, Int.reduceNeg, t0, t16, t17, hcmp, hck.blk]
    refine ret_bind ((OwnI.more (x := -1) hown (Ext.self hck.ext.wf hck.lt) (by simp; omega)).mono ?_)
    rintro ⟨hs', H2⟩ ⟨g1, g2, g3, g4, g5⟩
    simp only at g1 g2 g3 g4 g5
    obtain ⟨p, n, cc, rfl⟩ := g1.shape
    have hb2 : H2.m Hb.next = some ⟨[ls, s, .int .i64 c.cells, .int .i64 c.params, .bool c.answers, hs], 100, true⟩ := by rw [g2.low _ (Nat.lt_succ_self _)]; exact hck.blk
    have hx2 : Ext Hb.next Hb H2 := hck.ext.trans (g2.less (Nat.le_succ _)) (Nat.le_refl _)
    simp -implicitDefEqProofs only [go_sem, Nat.reduceAdd, Nat.reduceMul, Nat.reduceLT, Nat.reduceLeDiff, Nat.reduceEqDiff, Nat.reduceBEq, reduceCtorEq, Int.reduceLT, Int.reduceLE, Int.reduceEq, Int.reduceGT, Int.reduceGE, Int.reduceToNat, Int.reduceNeg, t0, t17, hb2, wrapS (i := i) (by omega)]
    refine .mk (.inl ⟨rfl, ?_, ?_, ?_, .slice p n cc, ⟨hx2.put (Nat.le_refl _) (hx2.wf _ _ hb2) _, by simp⟩, ?_⟩)
    · simp -implicitDefEqProofs only [go_sem, Nat.reduceEqDiff, Nat.reduceBEq, reduceCtorEq, t0]
    · simp -implicitDefEqProofs only [go_sem, Nat.reduceEqDiff, Nat.reduceBEq, reduceCtorEq, t16]
    · simp -implicitDefEqProofs only [go_sem, Nat.reduceEqDiff, Nat.reduceBEq, reduceCtorEq]
    · rw [List.replicate_succ']
      exact g1.put (g1.ne (Nat.lt_succ_self _)) _
  · rintro ⟨T1, H1⟩ ⟨t0, t16, t17, h⟩
    simp only at t0 t16 t17 h
    have hcmp : decide (((c.ins.length : Nat) : Int) < ((c.ins.length : Nat) : Int)) = false := decide_eq_false (by omega)
    unfold F95_L3
    simp -implicitDefEqProofs only [go_sem, Nat.reduceAdd, Nat.reduceMul, Nat.reduceLT, Nat.reduceLeDiff, Nat.reduceEqDiff, Nat.reduceBEq, reduceCtorEq, Int.reduceLT, Int.reduceLE, Int.reduceEq, Int.reduceGT, Int.reduceGE, Int.reduceToNat, Int.reduceNeg, t16, t17, hcmp]
    refine .mk ⟨by simp, rfl, ?_, ?_, ?_, h⟩
    · simp -implicitDefEqProofs only [go_sem, Nat.reduceEqDiff, Nat.reduceBEq, reduceCtorEq, t0]
    · simp -implicitDefEqProofs only [go_sem, Nat.reduceEqDiff, Nat.reduceBEq, reduceCtorEq, t16]
    · simp -implicitDefEqProofs only [go_sem, Nat.reduceEqDiff, Nat.reduceBEq, reduceCtorEq, t17]

theorem next_nat {i : Ins} (hm : mayI l c i = true) {a : Nat} {p : Int} (hp : p ∈ nextI i a) : 0 ≤ p := by
  unfold nextI at hp
  unfold mayI at hm
  split at hm
  · cases hm
  · by_cases e17 : i.op = 17
    · rw [if_pos e17] at hp
      simp [e17] at hm hp
      omega
    · by_cases e18 : i.op = 18
      · rw [if_neg e17, if_pos e18] at hp
        simp [e18] at hm hp
        omega
      · rw [if_neg e17, if_neg e18] at hp
        split at hp
        · simp at hp
        · simp at hp; omega
theorem tk_nonneg {i : Ins} (hm : mayI l c i = true) : 0 ≤ tk l i := by
  unfold tk
  unfold mayI at hm
  split at hm
  · cases hm
  · split
    · rename_i e
      simp [e] at hm
      omega
    · split
      · rename_i e
        simp [e] at hm
        rw [hm]
        split <;> omega
      · exact takes_nonneg _

structure I1 (Hb : AH) (ls s : AV) (l : List Code) (c : Code) (i : Ins) (a : Nat) (x : Int) (N1 N2 : Nat) (sv hs : AV) (bud : Nat) (j : Nat) (t : St) : Prop where
  t0 : t.1 0 = .ptr (some (Hb.next, 0))
  t6 : t.1 6 = .int .i64 x
  t7 : t.1 7 = .int .i64 (tk l i)
  t8 : t.1 8 = .int .i64 (lv l i)
  t98 : t.1 98 = sv
  t99 : t.1 99 = .int .i64 ((nextI i a).length : Nat)
  t100 : t.1 100 = .int .i64 (j : Nat)
  row : Row t.2 sv 1 ((nextI i a).map fun p => [.int .i64 p])
  far : N2 ≤ t.2.next
  rest : ∃ (h : List Int) (w : List Nat), Ck Hb ls s c t.2 hs ∧ OwnI (Hb.next + 1) t.2 hs h ∧ OwnI (Hb.next + 1) t.2 (t.1 3) (w.map fun n => ((n : Nat) : Int)) ∧ (∀ b, At (t.1 3) b → (b < N1 ∨ N2 ≤ b) ∧ ¬ At hs b) ∧
    Way l c h w (fun b => b = a) ∧ h[a]? = some x ∧ 2 * negs h + w.length ≤ bud ∧ ∀ j', j' < j → ∀ p, (nextI i a)[j']? = some p → ∃ q : Nat, p = q ∧ h[q]? = some (x - tk l i + lv l i)
end
end Go.Proofs.YthiflgncldmkjaaDoor
set_option linter.unusedVariables false
set_option linter.unusedSimpArgs false
set_option maxRecDepth 100000
namespace Go.Proofs.YthiflgncldmkjaaDoor
open Go.Ri

section
variable {Hb : AH} {ls s : AV} {l : List Code} {c : Code}
theorem okAt_range {i : Ins} {x : Int} (hm : mayI l c i = true) (ho : okAt l i x) : 0 ≤ x - tk l i ∧ x - tk l i ≤ 4096 ∧ 0 ≤ x - tk l i + lv l i ∧ x - tk l i + lv l i ≤ 4098 := by
  have h1 := tk_nonneg hm
  have h2 := lv_nonneg l i
  have h3 := lv_le l i
  obtain ⟨a, b, _⟩ := ho
  omega
theorem wrapR {x : Int} (h : -1000000 ≤ x ∧ x ≤ 1000000) : IntKind.i64.wrap x = x := wrap_id (by unfold InI; omega)

def E1 (Hb : AH) (ls s : AV) (l : List Code) (c : Code) (i : Ins) (a : Nat) (x : Int) (N1 N2 : Nat) (sv hs : AV) (bud : Nat) (r : Ex × St) : Prop :=
  (r.1 = .exit 4 ∧ I1 Hb ls s l c i a x N1 N2 sv hs bud (nextI i a).length r.2) ∨ (r.1 = .ret ∧ r.2.1 2 = .bool false ∧ Ext Hb.next Hb r.2.2 ∧ ¬ ∃ g, Good l c g)
theorem loop1 (d : Nat) (B : Base Hb ls s l c) {i : Ins} (hm : mayI l c i = true) {a : Nat} (hi : c.ins[a]? = some i) {x : Int} (h0x : 0 ≤ x) (ho : okAt l i x) {N1 N2 : Nat} {sv hs : AV} {bud : Nat}
    (hlen : c.ins.length ≤ 65536) (hbud : bud ≤ 200000) (hk1 : Hb.next < N1) (hsv : ∀ b, AtR sv b → N1 ≤ b ∧ b < N2) (hhs : ∀ b, At hs b → b < N1) {T : Tm} {H : AH} (h0 : I1 Hb ls s l c i a x N1 N2 sv hs bud 0 (T, H)) :
    Ret (Ri.iter big (F95_L1 (RT d) (Ri.iter big)) (T, H)) (E1 Hb ls s l c i a x N1 N2 sv hs bud) := by
  have hnl : (nextI i a).length ≤ 2 := by
    unfold nextI
    split
    · simp
    · split
      · simp
      · split <;> simp
  have hrg := okAt_range hm ho
  refine Ret.upTo (n := (nextI i a).length) (I1 Hb ls s l c i a x N1 N2 sv hs bud) (by unfold big; omega) h0 ?_ ?_
  · rintro j ⟨T1, H1⟩ hj ⟨t0, t6, t7, t8, t98, t99, t100, row, far, h, w, hck, hown, hwait, hdis, W, hax, hbd, hdone⟩
    simp only at t0 t6 t7 t8 t98 t99 t100 row far hck hown hwait hdis
    obtain ⟨pb, po, e1, _, e3⟩ := row.at (i := j) (by simpa using hj)
    have e3 := e3 0 (by omega)
    simp only [List.getElem_map, List.getElem?_cons_zero, Nat.add_zero] at e3
    have hpm : (nextI i a)[j] ∈ nextI i a := List.getElem_mem hj
    have hp0 := next_nat hm hpm
    obtain ⟨q, hq⟩ : ∃ q : Nat, (nextI i a)[j] = q := ⟨_, (Int.toNat_of_nonneg hp0).symm⟩
    have hjq : (nextI i a)[j]? = some ((q : Nat) : Int) := by rw [List.getElem?_eq_getElem hj, hq]
    rw [hq] at e3 hpm
    have hcmp : decide (((j : Nat) : Int) < (((nextI i a).length : Nat) : Int)) = true := decide_eq_true (by omega)
    have hal : aLen Tryd.prog 40 hs = some (.int .i64 (h.length : Nat)) := by rw [hown.alen ysl40.under, intsC_len]
    have hwl : w.length ≤ 200000 := by omega
    unfold F95_L1
    by_cases hge : ((q : Nat) : Int) ≥ ((h.length : Nat) : Int)
    · simp -implicitDefEqProofs only [go_sem, Nat.reduceAdd, Nat.reduceMul, Nat.reduceLT, Nat.reduceLeDiff, Nat.reduceEqDiff, Nat.reduceBEq, reduceCtorEq, Int.reduceLT, Int.reduceLE, Int.reduceEq, Int.reduceGT, Int.reduceGE, Int.reduceToNat, Int.reduceNeg, t0, t98, t99, t100, hcmp, e1, e3, hck.blk, hal, decide_eq_true hge]
      refine .mk (.inr ⟨by simp, .inr ⟨rfl, ?_, hck.ext, ?_⟩⟩)
      · simp -implicitDefEqProofs only [go_sem, Nat.reduceEqDiff, Nat.reduceBEq, reduceCtorEq]
      · refine W.none hi hax h0x (.inr ⟨_, hpm, fun q' e => ⟨0, .inr ?_⟩⟩)
        have := Int.ofNat_inj.1 e
        omega
    · have hql : q < h.length := by omega
      obtain ⟨bh, Bh, ha, hNb, hbn, hBm, hrw, hil, hget, hidx, hset⟩ := hown.cell hck.ext.wf (i := q) (by rw [intsC_len]; exact hql)
      rw [intsC_get, List.getElem?_eq_getElem hql] at hget
      simp only [Option.map_some] at hget
      have hgq : h[q]? = some h[q] := List.getElem?_eq_getElem hql
      have hpos : h[q] = -1 ∨ 0 ≤ h[q] := (W.known q _ hgq).imp id fun h => h.1
      by_cases hneg : h[q] < 0
      · have hq1 : h[q] = -1 := by omega
        rw [hq1] at hgq
        simp -implicitDefEqProofs only [go_sem, Nat.reduceAdd, Nat.reduceMul, Nat.reduceLT, Nat.reduceLeDiff, Nat.reduceEqDiff, Nat.reduceBEq, reduceCtorEq, Int.reduceLT, Int.reduceLE, Int.reduceEq, Int.reduceGT, Int.reduceGE, Int.reduceToNat, Int.reduceNeg, t0, t98, t99, t100, hcmp, e1, e3, hck.blk, hal, decide_eq_false hge, hidx, hBm, hget, decide_eq_true hneg, t6, t7, t8, wrapR (x := x - tk l i) (by omega), wrapR (x := x - tk l i + lv l i) (by omega), hrw, hil]
        -- the store
        have hcells : Bh.cells[q]? = some (.int .i64 h[q]) := hget
        have hown2 := hset (.int .i64 (x - tk l i + lv l i))
        rw [intsC_set] at hown2
        have hbk : Hb.next ≠ bh := by omega
        have hx2 : Ext Hb.next Hb (H1.put bh ⟨Bh.cells.set q (.int .i64 (x - tk l i + lv l i)), Bh.elem, Bh.rw_⟩) := hck.ext.put (by omega) hbn _
        have hnw : ¬ At (T1 3) bh := fun hh => (hdis bh hh).2 ha
        have hwait2 := hwait.put hnw ⟨Bh.cells.set q (.int .i64 (x - tk l i + lv l i)), Bh.elem, Bh.rw_⟩
        rw [hrw] at hown2 hx2 hwait2
        obtain ⟨⟨wv, H2⟩, hap, g1, g2, g3, g4, g5⟩ := OwnI.more (x := ((q : Nat) : Int)) hwait2 (Ext.self hx2.wf (Nat.le_trans hck.lt (Nat.le_refl _))) (by simp; omega)
        simp only at g1 g2 g3 g4 g5
        simp only [put_next] at hap
        have hb2 : H2.m Hb.next = some ⟨[ls, s, .int .i64 c.cells, .int .i64 c.params, .bool c.answers, hs], 100, true⟩ := by
          rw [g2.low _ (Nat.lt_succ_self _)]
          simp only [put_m, if_neg hbk]
          exact hck.blk
        have hx3 : Ext Hb.next Hb H2 := hx2.trans (g2.less (Nat.le_succ _)) (Nat.le_refl _)
        have hhs2 : OwnI (Hb.next + 1) H2 hs (h.set q (x - tk l i + lv l i)) := hown2.to fun b hb => g4 b (by rw [hb.one ha]; exact hbn) fun hh => (hdis b hh).2 hb
        have hW2 := W.put hi hax h0x ho hpm hgq
        have hng := negs_set hgq hrg.2.2.1
        have haq : a ≠ q := by
          rintro rfl
          rw [hax] at hgq
          cases hgq
          omega
        simp -implicitDefEqProofs only [go_sem, Nat.reduceAdd, Nat.reduceMul, Nat.reduceLT, Nat.reduceLeDiff, Nat.reduceEqDiff, Nat.reduceBEq, reduceCtorEq, Int.reduceLT, Int.reduceLE, Int.reduceEq, Int.reduceGT, Int.reduceGE, Int.reduceToNat, Int.reduceNeg, hap, F95_J0, t100, wrapS (i := j) (by omega)]
        refine .mk (.inl ⟨rfl, ⟨?_, ?_, ?_, ?_, ?_, ?_, ?_, ?_, ?_, h.set q (x - tk l i + lv l i), w ++ [q], ⟨hx3, hb2⟩, hhs2, ?_, ?_, hW2, ?_, ?_, ?_⟩⟩)
        · simp -implicitDefEqProofs only [go_sem, Nat.reduceEqDiff, Nat.reduceBEq, reduceCtorEq, t0]
        · simp -implicitDefEqProofs only [go_sem, Nat.reduceEqDiff, Nat.reduceBEq, reduceCtorEq, t6]
        · simp -implicitDefEqProofs only [go_sem, Nat.reduceEqDiff, Nat.reduceBEq, reduceCtorEq, t7]
        · simp -implicitDefEqProofs only [go_sem, Nat.reduceEqDiff, Nat.reduceBEq, reduceCtorEq, t8]
        · simp -implicitDefEqProofs only [go_sem, Nat.reduceEqDiff, Nat.reduceBEq, reduceCtorEq, t98]
        · simp -implicitDefEqProofs only [go_sem, Nat.reduceEqDiff, Nat.reduceBEq, reduceCtorEq, t99]
        · simp -implicitDefEqProofs only [go_sem, Nat.reduceEqDiff, Nat.reduceBEq, reduceCtorEq]
        · refine row.keep fun b hb => ?_
          obtain ⟨k1, k2⟩ := hsv b hb
          have hbb : b ≠ bh := by have := hhs bh ha; omega
          rw [g4 b (by simp only [put_next]; omega) fun hh => by have := (hdis b hh).1; omega]
          simp [hbb]
        · simp only [put_next] at g3
          exact Nat.le_trans far (Nat.le_of_lt g3)
        · simp -implicitDefEqProofs only [go_sem, Nat.reduceEqDiff, Nat.reduceBEq, reduceCtorEq]
          simpa using g1
        · simp -implicitDefEqProofs only [go_sem, Nat.reduceEqDiff, Nat.reduceBEq, reduceCtorEq]
          intro b hb
          rcases g5 b hb with hh | hh
          · exact hdis b hh
          · simp only [put_next] at hh
            refine ⟨.inr (by omega), fun hh' => ?_⟩
            have := hh'.one ha
            omega
        · rw [List.getElem?_set_ne (Ne.symm haq)]
          exact hax
        · simp
          omega
        · intro j' hj' p hp
          by_cases hjj : j' = j
          · subst hjj
            rw [hjq] at hp
            cases hp
            exact ⟨q, rfl, List.getElem?_set_self hql⟩
          · obtain ⟨r, e, hr⟩ := hdone j' (by omega) p hp
            refine ⟨r, e, ?_⟩
            have : q ≠ r := by
              rintro rfl
              rw [hgq] at hr
              have := Option.some.inj hr
              omega
            rw [List.getElem?_set_ne this]
            exact hr
      · have hnn : 0 ≤ h[q] := by omega
        by_cases heq : h[q] = x - tk l i + lv l i
        · simp -implicitDefEqProofs only [go_sem, Nat.reduceAdd, Nat.reduceMul, Nat.reduceLT, Nat.reduceLeDiff, Nat.reduceEqDiff, Nat.reduceBEq, reduceCtorEq, Int.reduceLT, Int.reduceLE, Int.reduceEq, Int.reduceGT, Int.reduceGE, Int.reduceToNat, Int.reduceNeg, t0, t98, t99, t100, hcmp, e1, e3, hck.blk, hal, decide_eq_false hge, hidx, hBm, hget, decide_eq_false hneg, t6, t7, t8, wrapR (x := x - tk l i) (by omega), wrapR (x := x - tk l i + lv l i) (by omega), decide_eq_true heq, F95_J0, wrapS (i := j) (by omega)]
          refine .mk (.inl ⟨rfl, ⟨?_, ?_, ?_, ?_, ?_, ?_, ?_, row, far, h, w, hck, hown, ?_, ?_, W, hax, hbd, ?_⟩⟩)
          · simp -implicitDefEqProofs only [go_sem, Nat.reduceEqDiff, Nat.reduceBEq, reduceCtorEq, t0]
          · simp -implicitDefEqProofs only [go_sem, Nat.reduceEqDiff, Nat.reduceBEq, reduceCtorEq, t6]
          · simp -implicitDefEqProofs only [go_sem, Nat.reduceEqDiff, Nat.reduceBEq, reduceCtorEq, t7]
          · simp -implicitDefEqProofs only [go_sem, Nat.reduceEqDiff, Nat.reduceBEq, reduceCtorEq, t8]
          · simp -implicitDefEqProofs only [go_sem, Nat.reduceEqDiff, Nat.reduceBEq, reduceCtorEq, t98]
          · simp -implicitDefEqProofs only [go_sem, Nat.reduceEqDiff, Nat.reduceBEq, reduceCtorEq, t99]
          · simp -implicitDefEqProofs only [go_sem, Nat.reduceEqDiff, Nat.reduceBEq, reduceCtorEq]
          · simp -implicitDefEqProofs only [go_sem, Nat.reduceEqDiff, Nat.reduceBEq, reduceCtorEq]
            exact hwait
          · simp -implicitDefEqProofs only [go_sem, Nat.reduceEqDiff, Nat.reduceBEq, reduceCtorEq]
            exact hdis
          · intro j' hj' p hp
            by_cases hjj : j' = j
            · subst hjj
              rw [hjq] at hp
              cases hp
              exact ⟨q, rfl, by rw [hgq, heq]⟩
            · exact hdone j' (by omega) p hp
        · simp -implicitDefEqProofs only [go_sem, Nat.reduceAdd, Nat.reduceMul, Nat.reduceLT, Nat.reduceLeDiff, Nat.reduceEqDiff, Nat.reduceBEq, reduceCtorEq, Int.reduceLT, Int.reduceLE, Int.reduceEq, Int.reduceGT, Int.reduceGE, Int.reduceToNat, Int.reduceNeg, t0, t98, t99, t100, hcmp, e1, e3, hck.blk, hal, decide_eq_false hge, hidx, hBm, hget, decide_eq_false hneg, t6, t7, t8, wrapR (x := x - tk l i) (by omega), wrapR (x := x - tk l i + lv l i) (by omega), decide_eq_false heq]
          refine .mk (.inr ⟨by simp, .inr ⟨rfl, ?_, hck.ext, ?_⟩⟩)
          · simp -implicitDefEqProofs only [go_sem, Nat.reduceEqDiff, Nat.reduceBEq, reduceCtorEq]
          · refine W.none hi hax h0x (.inr ⟨_, hpm, fun q' e => ⟨h[q], .inl ?_⟩⟩)
            have := Int.ofNat_inj.1 e
            subst this
            exact ⟨hgq, by omega, heq⟩
  · rintro ⟨T1, H1⟩ ⟨t0, t6, t7, t8, t98, t99, t100, row, far, h, w, hck, hown, hwait, hdis, W, hax, hbd, hdone⟩
    simp only at t0 t6 t7 t8 t98 t99 t100 row far hck hown hwait hdis
    have hcmp : decide ((((nextI i a).length : Nat) : Int) < (((nextI i a).length : Nat) : Int)) = false := decide_eq_false (by omega)
    unfold F95_L1
    simp -implicitDefEqProofs only [go_sem, Nat.reduceAdd, Nat.reduceMul, Nat.reduceLT, Nat.reduceLeDiff, Nat.reduceEqDiff, Nat.reduceBEq, reduceCtorEq, Int.reduceLT, Int.reduceLE, Int.reduceEq, Int.reduceGT, Int.reduceGE, Int.reduceToNat, Int.reduceNeg, t99, t100, hcmp]
    refine .mk ⟨by simp, .inl ⟨rfl, ⟨?_, ?_, ?_, ?_, ?_, ?_, ?_, row, far, h, w, hck, hown, ?_, ?_, W, hax, hbd, hdone⟩⟩⟩
    · simp -implicitDefEqProofs only [go_sem, Nat.reduceEqDiff, Nat.reduceBEq, reduceCtorEq, t0]
    · simp -implicitDefEqProofs only [go_sem, Nat.reduceEqDiff, Nat.reduceBEq, reduceCtorEq, t6]
    · simp -implicitDefEqProofs only [go_sem, Nat.reduceEqDiff, Nat.reduceBEq, reduceCtorEq, t7]
    · simp -implicitDefEqProofs only [go_sem, Nat.reduceEqDiff, Nat.reduceBEq, reduceCtorEq, t8]
    · simp -implicitDefEqProofs only [go_sem, Nat.reduceEqDiff, Nat.reduceBEq, reduceCtorEq, t98]
    · simp -implicitDefEqProofs only [go_sem, Nat.reduceEqDiff, Nat.reduceBEq, reduceCtorEq, t99]
    · simp -implicitDefEqProofs only [go_sem, Nat.reduceEqDiff, Nat.reduceBEq, reduceCtorEq, t100]
    · simp -implicitDefEqProofs only [go_sem, Nat.reduceEqDiff, Nat.reduceBEq, reduceCtorEq]
      exact hwait
    · simp -implicitDefEqProofs only [go_sem, Nat.reduceEqDiff, Nat.reduceBEq, reduceCtorEq]
      exact hdis

structure I2 (Hb : AH) (ls s : AV) (l : List Code) (c : Code) (f : Nat) (t : St) : Prop where
  t0 : t.1 0 = .ptr (some (Hb.next, 0))
  rest : ∃ (hs : AV) (h : List Int) (w : List Nat), Ck Hb ls s c t.2 hs ∧ OwnI (Hb.next + 1) t.2 hs h ∧ OwnI (Hb.next + 1) t.2 (t.1 3) (w.map fun n => ((n : Nat) : Int)) ∧ (∀ b, At (t.1 3) b → ¬ At hs b) ∧
    Way l c h w (fun _ => False) ∧ 2 * negs h + w.length < f ∧ f ≤ 200000
def E2 (Hb : AH) (ls s : AV) (l : List Code) (c : Code) (r : Ex × St) : Prop :=
  (r.1 = .exit 2 ∧ ∃ hs h, Ck Hb ls s c r.2.2 hs ∧ OwnI (Hb.next + 1) r.2.2 hs h ∧ Good l c h) ∨ (r.1 = .ret ∧ r.2.1 2 = .bool false ∧ Ext Hb.next Hb r.2.2 ∧ ¬ ∃ g, Good l c g)
set_option maxHeartbeats 4000000 in
theorem round2 (d : Nat) (B : Base Hb ls s l c) (hmay : ∀ i ∈ c.ins, mayI l c i = true) (hlen : c.ins.length ≤ 65536) (f : Nat) (t : St) (hI : I2 Hb ls s l c (f + 1) t) :
    Ret (F95_L2 (RT (d + 1)) (Ri.iter big) t) fun r => (r.1 = .normal ∧ I2 Hb ls s l c f r.2) ∨ (r.1 ≠ .normal ∧ E2 Hb ls s l c r) := by
  obtain ⟨T, H⟩ := t
  obtain ⟨t0, hs, h, w, hck, hown, hwait, hdis, W, hbd, hf⟩ := hI
  simp only at t0 hck hown hwait hdis
  have hwl : aLen Tryd.prog 40 (T 3) = some (.int .i64 (w.length : Nat)) := by rw [hwait.alen ysl40.under, intsC_len, List.length_map]
  unfold F95_L2
  rcases List.eq_nil_or_concat w with rfl | ⟨w', a, rfl⟩
  · simp -implicitDefEqProofs only [go_sem, Nat.reduceEqDiff, Nat.reduceBEq, reduceCtorEq, hwl]
    exact .mk (.inr ⟨by simp, .inl ⟨rfl, hs, h, hck, hown, W.good⟩⟩)
  · rw [List.concat_eq_append] at *
    have hwl' : aLen Tryd.prog 40 (T 3) = some (.int .i64 ((w'.length + 1 : Nat) : Int)) := by rw [hwl]; simp
    obtain ⟨x, hax, h0x⟩ := W.wait a (by simp)
    have halt : a < c.ins.length := by rw [← W.len]; exact (List.getElem?_eq_some_iff.1 hax).1
    obtain ⟨i, hi⟩ : ∃ i, c.ins[a]? = some i := ⟨_, List.getElem?_eq_getElem halt⟩
    have him : i ∈ c.ins := List.mem_of_getElem? hi
    have hm := hmay i him
    have hpos : decide (((w'.length + 1 : Nat) : Int) > 0) = true := decide_eq_true (by omega)
    have hsub1 : IntKind.i64.wrap (((w'.length + 1 : Nat) : Int) - 1) = ((w'.length : Nat) : Int) := by
      simp only [List.length_append, List.length_cons, List.length_nil] at hbd
      rw [wrapR (by omega)]
      omega
    obtain ⟨bw, Bw, haw, hNw, hbwn, hBwm, _, _, hgw, hidw, _⟩ := hwait.cell hck.ext.wf (i := w'.length) (by rw [intsC_len]; simp)
    have hwa : ((w' ++ [a]).map fun n => ((n : Nat) : Int))[w'.length]? = some ((a : Nat) : Int) := by simp
    rw [intsC_get, hwa] at hgw
    simp only [Option.map_some] at hgw
    obtain ⟨s', hcut, hwait', hat'⟩ := hwait.cut (n := w'.length + 1) (j := w'.length) (by rw [intsC_len]; simp) (by omega) (by omega) .i64
    have hwait2 : OwnI (Hb.next + 1) H s' (w'.map fun n => ((n : Nat) : Int)) := by
      have : (intsC ((w' ++ [a]).map fun n => ((n : Nat) : Int))).take (w'.length * 1) = intsC (w'.map fun n => ((n : Nat) : Int)) := by
        rw [Nat.mul_one, List.map_append]
        simp only [intsC, List.map_append]
        rw [List.take_append_of_le_length (by simp), List.take_of_length_le (by simp)]
      rw [this] at hwait'
      exact hwait'
    obtain ⟨bh, Bh, hah, hNh, hbhn, hBhm, hrwh, hilh, hgh, hidh, _⟩ := hown.cell hck.ext.wf (i := a) (by rw [intsC_len, W.len]; exact halt)
    rw [intsC_get, hax] at hgh
    simp only [Option.map_some] at hgh
    have hins := (hck.chk B).ins
    obtain ⟨pb, po, e1, e2, _⟩ := hins.1.at (i := a) (by simpa using halt)
    simp only [List.getElem_map] at e2
    have hig : c.ins[a] = i := by rw [List.getElem?_eq_getElem halt] at hi; exact Option.some.inj hi
    rw [hig] at e2
    have hin : insC i = [.int .i64 i.op, .int .i64 i.n, .int .i64 i.m] := rfl
    have hbh : ¬ bh = H.next := by omega
    have hkn : ¬ Hb.next = H.next := Nat.ne_of_lt hck.lt
    have e2r : ldAgg (.ptr (some (pb, po))) 3 (H.res 1) = some (.agg (insC i)) := e2
    -- the heaps
    have hx1 : Ext Hb.next Hb (H.new (insC i) 29) := hck.ext.new _ _
    have hck1 : Ck Hb ls s c (H.new (insC i) 29) hs := ⟨hx1, by simp [hkn, hck.blk]⟩
    have hmv := moves_spec d hx1.wf (hck1.tabs B) (hck1.chk B) hm
    have hx2 : Ext Hb.next Hb ((H.new (insC i) 29).new (insC i) 29) := hx1.new _ _
    have hkn2 : ¬ Hb.next = H.next + 1 := by have := hck.lt; omega
    have hck2 : Ck Hb ls s c ((H.new (insC i) 29).new (insC i) 29) hs := ⟨hx2, by simp [hkn, hkn2, hck.blk]⟩
    obtain ⟨⟨sv, H3⟩, h118, hrow3, hx3, hat3⟩ := next_spec d hx2.wf i (a := a) (by omega)
    simp only at hrow3 hx3 hat3
    have hal3 : aLen Tryd.prog 40 sv = some (.int .i64 ((nextI i a).length : Nat)) := by rw [hrow3.alen ysl40.under, List.length_map]
    have hck3 : Ck Hb ls s c H3 hs := ⟨hx2.trans hx3 (by simp only [new_next]; have := hck.lt; omega), by rw [hx3.low _ (by simp only [new_next]; have := hck.lt; omega)]; exact hck2.blk⟩
    have old : ∀ b, b < H.next → H3.m b = H.m b := fun b hb => by
      rw [hx3.low b (by simp only [new_next]; omega)]
      have h1 : ¬ b = H.next := by omega
      have h2 : ¬ b = H.next + 1 := by omega
      simp [h1, h2]
    have hlow : ∀ b, At hs b → b < H.next := fun b hb => by
      obtain ⟨B', h1, _⟩ := hown.at hb
      exact hck.ext.wf _ _ h1
    have hloww : ∀ b, At s' b → b < H.next := fun b hb => by
      obtain ⟨B', h1, _⟩ := hwait2.at hb
      exact hck.ext.wf _ _ h1
    have bad : ¬ okAt l i x → ¬ ∃ g, Good l c g := fun hb => W.none hi hax h0x (.inl hb)
    have hneg2 : 2 * negs h + w'.length < f := by
      simp only [List.length_append, List.length_cons, List.length_nil] at hbd
      omega
    have tail : okAt l i x → ∀ T' : Tm, T' 0 = .ptr (some (Hb.next, 0)) → T' 3 = s' → T' 6 = .int .i64 x → T' 7 = .int .i64 (tk l i) → T' 8 = .int .i64 (lv l i) → T' 98 = sv → T' 99 = .int .i64 ((nextI i a).length : Nat) → T' 100 = .int .i64 0 →
        Ret ((Ri.iter big (F95_L1 (RT (d + 1)) (Ri.iter big)) (T', H3)).bind fun r104 => match r104.1 with
          | .normal => none
          | .exit j105 => if j105 = 4 then
            (some (.normal, r104.2.1, r104.2.2))
            else
            (if j105 = 3 then
            (some (.normal, r104.2.1, r104.2.2))
            else
            (some (.exit j105, r104.2.1, r104.2.2)))
          | .ret => some (.ret, r104.2.1, r104.2.2)) fun r => (r.1 = .normal ∧ I2 Hb ls s l c f r.2) ∨ (r.1 ≠ .normal ∧ E2 Hb ls s l c r) := by
      intro ho T' a0 a3 a6 a7 a8 a98 a99 a100
      refine Ret.then (loop1 (d + 1) B hm hi h0x ho (N1 := H.next) (N2 := H3.next) (sv := sv) (hs := hs) (bud := 2 * negs h + w'.length) hlen (by omega) hck.lt (fun b ⟨o, n, cc, e⟩ => ?_) hlow
        ⟨a0, a6, a7, a8, a98, a99, a100, hrow3, Nat.le_refl _, h, w', hck3, hown.to fun b hb => old b (hlow b hb), ?_, fun b hb => ?_, W.take, hax, Nat.le_refl _, fun j' hj' => absurd hj' (Nat.not_lt_zero _)⟩) ?_
      · have := hat3 b o n cc e
        simp only [new_next] at this
        omega
      · simp only [a3]
        exact hwait2.to fun b hb => old b (hloww b hb)
      · simp only [a3] at hb
        exact ⟨.inl (hloww b hb), hdis b (hat' b hb)⟩
      · rintro ⟨e, T4, H4⟩ (⟨rfl, q⟩ | ⟨rfl, q1, q2, q3⟩)
        · obtain ⟨b0, _, _, _, _, _, _, _, _, h4, w4, k1, k2, k3, k4, k5, k6, k7, k8⟩ := q
          simp only at b0 k1 k2 k3 k4
          simp only [if_true]
          refine .mk (.inl ⟨rfl, b0, hs, h4, w4, k1, k2, k3, fun b hb => (k4 b hb).2, k5.close hi k6 ⟨ho, fun p hp => ?_⟩, by omega, by omega⟩)
          obtain ⟨j, hj⟩ := List.mem_iff_getElem?.1 hp
          exact k8 j (List.getElem?_eq_some_iff.1 hj).1 p hj
        · exact .mk (.inr ⟨by simp, .inr ⟨rfl, q1, q2, q3⟩⟩)
    rw [hin] at e2r hmv h118 hx2
    have done : ∀ T' : Tm, T' 2 = .bool false → ¬ okAt l i x → Ret (some (Ex.ret, T', (H.new [.int .i64 i.op, .int .i64 i.n, .int .i64 i.m] 29).new [.int .i64 i.op, .int .i64 i.n, .int .i64 i.m] 29)) fun r => (r.1 = .normal ∧ I2 Hb ls s l c f r.2) ∨ (r.1 ≠ .normal ∧ E2 Hb ls s l c r) :=
      fun T' h2 hb => .mk (.inr ⟨by simp, .inr ⟨rfl, h2, hx2, bad hb⟩⟩)
    have hn1 : ¬ H.next = H.next + 1 := by omega
    by_cases q1 : x < tk l i
    · simp -implicitDefEqProofs only [go_sem, Nat.reduceAdd, Nat.reduceMul, Nat.reduceLT, Nat.reduceLeDiff, Nat.reduceEqDiff, Nat.reduceBEq, reduceCtorEq, Int.reduceLT, Int.reduceLE, Int.reduceEq, Int.reduceGT, Int.reduceGE, Int.reduceToNat, Int.reduceNeg, t0, hwl', hpos, hsub1, hidw, hBwm, hgw, hcut, hck.blk, e1, e2r, hidh, hBhm, hgh, res_new, hbh, hkn, hmv, decide_eq_true q1]
      exact done _ (by simp -implicitDefEqProofs only [go_sem, Nat.reduceAdd, Nat.reduceMul, Nat.reduceLT, Nat.reduceLeDiff, Nat.reduceEqDiff, Nat.reduceBEq, reduceCtorEq, Int.reduceLT, Int.reduceLE, Int.reduceEq, Int.reduceGT, Int.reduceGE, Int.reduceToNat, Int.reduceNeg]) fun h => by have := h.1; omega
    by_cases q2 : x > 4096
    · simp -implicitDefEqProofs only [go_sem, Nat.reduceAdd, Nat.reduceMul, Nat.reduceLT, Nat.reduceLeDiff, Nat.reduceEqDiff, Nat.reduceBEq, reduceCtorEq, Int.reduceLT, Int.reduceLE, Int.reduceEq, Int.reduceGT, Int.reduceGE, Int.reduceToNat, Int.reduceNeg, t0, hwl', hpos, hsub1, hidw, hBwm, hgw, hcut, hck.blk, e1, e2r, hidh, hBhm, hgh, res_new, hbh, hkn, hmv, decide_eq_false q1, decide_eq_true q2]
      exact done _ (by simp -implicitDefEqProofs only [go_sem, Nat.reduceAdd, Nat.reduceMul, Nat.reduceLT, Nat.reduceLeDiff, Nat.reduceEqDiff, Nat.reduceBEq, reduceCtorEq, Int.reduceLT, Int.reduceLE, Int.reduceEq, Int.reduceGT, Int.reduceGE, Int.reduceToNat, Int.reduceNeg]) fun h => by have := h.2.1; omega
    by_cases q20 : i.op = 20
    · have q24 : ¬ i.op = 24 := by omega
      by_cases q3 : x = tk l i
      · simp -implicitDefEqProofs only [go_sem, Nat.reduceAdd, Nat.reduceMul, Nat.reduceLT, Nat.reduceLeDiff, Nat.reduceEqDiff, Nat.reduceBEq, reduceCtorEq, Int.reduceLT, Int.reduceLE, Int.reduceEq, Int.reduceGT, Int.reduceGE, Int.reduceToNat, Int.reduceNeg, t0, hwl', hpos, hsub1, hidw, hBwm, hgw, hcut, hck.blk, e1, e2r, hidh, hBhm, hgh, res_new, hbh, hkn, hmv, decide_eq_false q1, decide_eq_false q2, decide_eq_true q20, decide_eq_true q3, decide_eq_false q24, hn1, h118, hal3]
        refine tail ⟨by omega, by omega, fun _ => q3, fun h => absurd h q24⟩ _ ?_ ?_ ?_ ?_ ?_ ?_ ?_ ?_ <;> simp -implicitDefEqProofs only [go_sem, Nat.reduceAdd, Nat.reduceMul, Nat.reduceLT, Nat.reduceLeDiff, Nat.reduceEqDiff, Nat.reduceBEq, reduceCtorEq, Int.reduceLT, Int.reduceLE, Int.reduceEq, Int.reduceGT, Int.reduceGE, Int.reduceToNat, Int.reduceNeg, t0]
      · simp -implicitDefEqProofs only [go_sem, Nat.reduceAdd, Nat.reduceMul, Nat.reduceLT, Nat.reduceLeDiff, Nat.reduceEqDiff, Nat.reduceBEq, reduceCtorEq, Int.reduceLT, Int.reduceLE, Int.reduceEq, Int.reduceGT, Int.reduceGE, Int.reduceToNat, Int.reduceNeg, t0, hwl', hpos, hsub1, hidw, hBwm, hgw, hcut, hck.blk, e1, e2r, hidh, hBhm, hgh, res_new, hbh, hkn, hmv, decide_eq_false q1, decide_eq_false q2, decide_eq_true q20, decide_eq_false q3, hn1]
        exact done _ (by simp -implicitDefEqProofs only [go_sem, Nat.reduceAdd, Nat.reduceMul, Nat.reduceLT, Nat.reduceLeDiff, Nat.reduceEqDiff, Nat.reduceBEq, reduceCtorEq, Int.reduceLT, Int.reduceLE, Int.reduceEq, Int.reduceGT, Int.reduceGE, Int.reduceToNat, Int.reduceNeg]) fun h => q3 (h.2.2.1 q20)
    by_cases q24 : i.op = 24
    · by_cases q4 : x = 0
      · simp -implicitDefEqProofs only [go_sem, Nat.reduceAdd, Nat.reduceMul, Nat.reduceLT, Nat.reduceLeDiff, Nat.reduceEqDiff, Nat.reduceBEq, reduceCtorEq, Int.reduceLT, Int.reduceLE, Int.reduceEq, Int.reduceGT, Int.reduceGE, Int.reduceToNat, Int.reduceNeg, t0, hwl', hpos, hsub1, hidw, hBwm, hgw, hcut, hck.blk, e1, e2r, hidh, hBhm, hgh, res_new, hbh, hkn, hmv, decide_eq_false q1, decide_eq_false q2, decide_eq_false q20, decide_eq_true q24, decide_eq_true q4, hn1, h118, hal3]
        refine tail ⟨by omega, by omega, fun h => absurd h q20, fun _ => q4⟩ _ ?_ ?_ ?_ ?_ ?_ ?_ ?_ ?_ <;> simp -implicitDefEqProofs only [go_sem, Nat.reduceAdd, Nat.reduceMul, Nat.reduceLT, Nat.reduceLeDiff, Nat.reduceEqDiff, Nat.reduceBEq, reduceCtorEq, Int.reduceLT, Int.reduceLE, Int.reduceEq, Int.reduceGT, Int.reduceGE, Int.reduceToNat, Int.reduceNeg, t0]
      · simp -implicitDefEqProofs only [go_sem, Nat.reduceAdd, Nat.reduceMul, Nat.reduceLT, Nat.reduceLeDiff, Nat.reduceEqDiff, Nat.reduceBEq, reduceCtorEq, Int.reduceLT, Int.reduceLE, Int.reduceEq, Int.reduceGT, Int.reduceGE, Int.reduceToNat, Int.reduceNeg, t0, hwl', hpos, hsub1, hidw, hBwm, hgw, hcut, hck.blk, e1, e2r, hidh, hBhm, hgh, res_new, hbh, hkn, hmv, decide_eq_false q1, decide_eq_false q2, decide_eq_false q20, decide_eq_true q24, decide_eq_false q4, hn1]
        exact done _ (by simp -implicitDefEqProofs only [go_sem, Nat.reduceAdd, Nat.reduceMul, Nat.reduceLT, Nat.reduceLeDiff, Nat.reduceEqDiff, Nat.reduceBEq, reduceCtorEq, Int.reduceLT, Int.reduceLE, Int.reduceEq, Int.reduceGT, Int.reduceGE, Int.reduceToNat, Int.reduceNeg]) fun h => q4 (h.2.2.2 q24)
    · simp -implicitDefEqProofs only [go_sem, Nat.reduceAdd, Nat.reduceMul, Nat.reduceLT, Nat.reduceLeDiff, Nat.reduceEqDiff, Nat.reduceBEq, reduceCtorEq, Int.reduceLT, Int.reduceLE, Int.reduceEq, Int.reduceGT, Int.reduceGE, Int.reduceToNat, Int.reduceNeg, t0, hwl', hpos, hsub1, hidw, hBwm, hgw, hcut, hck.blk, e1, e2r, hidh, hBhm, hgh, res_new, hbh, hkn, hmv, decide_eq_false q1, decide_eq_false q2, decide_eq_false q20, decide_eq_false q24, hn1, h118, hal3]
      refine tail ⟨by omega, by omega, fun h => absurd h q20, fun h => absurd h q24⟩ _ ?_ ?_ ?_ ?_ ?_ ?_ ?_ ?_ <;> simp -implicitDefEqProofs only [go_sem, Nat.reduceAdd, Nat.reduceMul, Nat.reduceLT, Nat.reduceLeDiff, Nat.reduceEqDiff, Nat.reduceBEq, reduceCtorEq, Int.reduceLT, Int.reduceLE, Int.reduceEq, Int.reduceGT, Int.reduceGE, Int.reduceToNat, Int.reduceNeg, t0]
end
end Go.Proofs.YthiflgncldmkjaaDoor
set_option linter.unusedVariables false
set_option linter.unusedSimpArgs false
set_option maxRecDepth 100000
namespace Go.Proofs.YthiflgncldmkjaaDoor
open Go.Ri

section
variable {Hb : AH} {ls s : AV} {l : List Code} {c : Code}
theorem heights_spec (d : Nat) (B : Base Hb ls s l c) (hmay : ∀ i ∈ c.ins, mayI l c i = true) (h1 : 1 ≤ c.ins.length) (hlen : c.ins.length ≤ 65536) {H : AH} (hck : Ck Hb ls s c H (.slice none 0 (.kn 0))) :
    Ret (RT (d + 2) 95 [.ptr (some (Hb.next, 0))] H) fun r => Ext Hb.next Hb r.2 ∧ ((r.1 = .bool true ∧ ∃ hs h, Ck Hb ls s c r.2 hs ∧ OwnI (Hb.next + 1) r.2 hs h ∧ Good l c h) ∨ (r.1 = .bool false ∧ ¬ ∃ g, Good l c g)) := by
  rw [R95]
  unfold F95
  have hal := (hck.chk B).ins.alen
  simp -implicitDefEqProofs only [go_sem, Nat.reduceAdd, Nat.reduceMul, Nat.reduceLT, Nat.reduceLeDiff, Nat.reduceEqDiff, Nat.reduceBEq, reduceCtorEq, Int.reduceLT, Int.reduceLE, Int.reduceEq, Int.reduceGT, Int.reduceGE, Int.reduceToNat, Int.reduceNeg, hck.blk, hal]
  refine Ret.then (loop3 (d + 1) B hlen ⟨?_, ?_, ?_, _, hck, Own.nil _ _ _ _⟩) ?_
  · simp -implicitDefEqProofs only [go_sem, Nat.reduceEqDiff, Nat.reduceBEq, reduceCtorEq]
  · simp -implicitDefEqProofs only [go_sem, Nat.reduceEqDiff, Nat.reduceBEq, reduceCtorEq]
  · simp -implicitDefEqProofs only [go_sem, Nat.reduceEqDiff, Nat.reduceBEq, reduceCtorEq]
    rfl
  · rintro ⟨e, T, H1⟩ ⟨rfl, t0, _, _, hs, hck1, hown⟩
    simp only at t0 hck1 hown
    obtain ⟨bh, Bh, hah, hNh, hbhn, hBhm, hrwh, hilh, _, hidh, hset⟩ := hown.cell hck1.ext.wf (i := 0) (by rw [intsC_len]; simp; omega)
    have hid0 : ∀ k, idxSl hs (.int k 0) 1 = some (.ptr (some (bh, 0))) := fun k => hidh k
    have hkb : ¬ Hb.next = bh := by omega
    have hset2 := hset (.int .i64 0)
    rw [intsC_set, hrwh] at hset2
    have hx2 : Ext Hb.next Hb (H1.put bh ⟨Bh.cells.set 0 (.int .i64 0), Bh.elem, true⟩) := hck1.ext.put (by omega) hbhn _
    have hkn : ¬ Hb.next = H1.next := Nat.ne_of_lt hck1.lt
    have hx3 := hx2.new [.int .i64 0] 3
    have hck3 : Ck Hb ls s c ((H1.put bh ⟨Bh.cells.set 0 (.int .i64 0), Bh.elem, true⟩).new [.int .i64 0] 3) hs := ⟨hx3, by simp [hkn, hkb, hck1.blk]⟩
    simp -implicitDefEqProofs only [go_sem, Nat.reduceAdd, Nat.reduceMul, Nat.reduceLT, Nat.reduceLeDiff, Nat.reduceEqDiff, Nat.reduceBEq, reduceCtorEq, Int.reduceLT, Int.reduceLE, Int.reduceEq, Int.reduceGT, Int.reduceGE, Int.reduceToNat, Int.reduceNeg, t0, hck1.blk, hid0, hBhm, hrwh, hilh]
    refine Ret.then (Q' := E2 Hb ls s l c) (Ret.iter (I2 Hb ls s l c) _ (fun f t hI => round2 d B hmay hlen f t hI) (fun t ht => by obtain ⟨_, _, _, _, _, _, _, _, _, h, _⟩ := ht; exact absurd h (Nat.not_lt_zero _)) 200000 big _ (by unfold big; omega)
      ⟨?_, hs, (List.replicate c.ins.length (-1)).set 0 0, [0], hck3, hset2.new hx2.wf _ _, ?_, ?_, Way.start h1, ?_, Nat.le_refl _⟩) ?_
    · simp -implicitDefEqProofs only [go_sem, Nat.reduceEqDiff, Nat.reduceBEq, reduceCtorEq, t0]
    · simp -implicitDefEqProofs only [go_sem, Nat.reduceEqDiff, Nat.reduceBEq, reduceCtorEq]
      exact Own.made (N := Hb.next + 1) (n := 1) (by simp only [put_next]; have := hck1.lt; omega) rfl
    · simp -implicitDefEqProofs only [go_sem, Nat.reduceEqDiff, Nat.reduceBEq, reduceCtorEq]
      rintro b ⟨n, cc, h⟩ hb
      cases h
      have := hb.one hah
      omega
    · have := negs_le ((List.replicate c.ins.length (-1 : Int)).set 0 0)
      simp at this ⊢
      omega
    · rintro ⟨e, T4, H4⟩ (⟨rfl, hs4, h4, k1, k2, k3⟩ | ⟨rfl, k1, k2, k3⟩)
      · simp only at k1 k2
        simp -implicitDefEqProofs only [go_sem, Nat.reduceAdd, Nat.reduceMul, Nat.reduceLT, Nat.reduceLeDiff, Nat.reduceEqDiff, Nat.reduceBEq, reduceCtorEq, Int.reduceLT, Int.reduceLE, Int.reduceEq, Int.reduceGT, Int.reduceGE, Int.reduceToNat, Int.reduceNeg]
        exact .mk ⟨k1.ext, .inl ⟨rfl, hs4, h4, k1, k2, k3⟩⟩
      · simp only at k1 k2
        simp -implicitDefEqProofs only [go_sem, Nat.reduceAdd, Nat.reduceMul, Nat.reduceLT, Nat.reduceLeDiff, Nat.reduceEqDiff, Nat.reduceBEq, reduceCtorEq, Int.reduceLT, Int.reduceLE, Int.reduceEq, Int.reduceGT, Int.reduceGE, Int.reduceToNat, Int.reduceNeg, k1]
        exact .mk ⟨k2, .inr ⟨rfl, k3⟩⟩

def IO (Hb : AH) (ls s : AV) (l : List Code) (c : Code) (i : Nat) (t : St) : Prop :=
  t.1 0 = .ptr (some (Hb.next, 0)) ∧ t.1 48 = s ∧ t.1 49 = .int .i64 (c.ins.length : Nat) ∧ t.1 50 = .int .i64 (i : Nat) ∧ Ck Hb ls s c t.2 (.slice none 0 (.kn 0)) ∧ ∀ j, j < i → ∀ x, c.ins[j]? = some x → mayI l c x = true
theorem own_loop (d : Nat) (B : Base Hb ls s l c) (hlen : c.ins.length ≤ 65536) {T : Tm} {H : AH} (h0 : IO Hb ls s l c 0 (T, H)) :
    Ret (Ri.iter big (F69_L0 (RT (d + 2)) (Ri.iter big)) (T, H)) fun r => (r.1 = .exit 0 ∧ IO Hb ls s l c c.ins.length r.2) ∨ (r.1 = .ret ∧ r.2.1 2 = .bool false ∧ Ext Hb.next Hb r.2.2 ∧ ¬ ∀ i ∈ c.ins, mayI l c i = true) := by
  refine Ret.upTo (n := c.ins.length) (IO Hb ls s l c) (by unfold big; omega) h0 ?_ ?_
  · rintro i ⟨T1, H1⟩ hi ⟨t0, t48, t49, t50, hck, hdone⟩
    simp only at t0 t48 t49 t50 hck
    have hcmp : decide (((i : Nat) : Int) < ((c.ins.length : Nat) : Int)) = true := decide_eq_true (by omega)
    have hins := (hck.chk B).ins
    obtain ⟨pb, po, e1, e2, _⟩ := hins.1.at (i := i) (by simpa using hi)
    simp only [List.getElem_map] at e2
    have hin : insC c.ins[i] = [.int .i64 c.ins[i].op, .int .i64 c.ins[i].n, .int .i64 c.ins[i].m] := rfl
    have hx1 : Ext Hb.next Hb (H1.new (insC c.ins[i]) 29) := hck.ext.new _ _
    have hkn : ¬ Hb.next = H1.next := Nat.ne_of_lt hck.lt
    have hck1 : Ck Hb ls s c (H1.new (insC c.ins[i]) 29) (.slice none 0 (.kn 0)) := ⟨hx1, by simp [hkn, hck.blk]⟩
    obtain ⟨⟨v, H2⟩, h94, hv, hH2⟩ := may_spec d hx1.wf (hck1.tabs B) (hck1.chk B) (hins.2 c.ins[i] (List.getElem_mem _))
    simp only at hv hH2
    subst hv hH2
    have hx2 := hx1.new (insC c.ins[i]) 29
    have hkn2 : ¬ Hb.next = H1.next + 1 := by have := hck.lt; omega
    have hck2 : Ck Hb ls s c ((H1.new (insC c.ins[i]) 29).new (insC c.ins[i]) 29) (.slice none 0 (.kn 0)) := ⟨hx2, by simp [hkn, hkn2, hck.blk]⟩
    rw [hin] at e2 h94 hck2 hx2
    unfold F69_L0
    cases hmv : mayI l c c.ins[i]
    · rw [hmv] at h94
      simp -implicitDefEqProofs only [go_sem, Nat.reduceAdd, Nat.reduceMul, Nat.reduceLT, Nat.reduceLeDiff, Nat.reduceEqDiff, Nat.reduceBEq, reduceCtorEq, Int.reduceLT, Int.reduceLE, Int.reduceEq, Int.reduceGT, Int.reduceGE, Int.reduceToNat, Int.reduceNeg, t0, t48, t49, t50, hcmp, e1, e2, new_put, h94]
      refine .mk (.inr ⟨by simp, .inr ⟨rfl, ?_, hx2, fun h => ?_⟩⟩)
      · simp -implicitDefEqProofs only [go_sem, Nat.reduceEqDiff, Nat.reduceBEq, reduceCtorEq]
      · rw [h _ (List.getElem_mem _)] at hmv
        cases hmv
    · rw [hmv] at h94
      simp -implicitDefEqProofs only [go_sem, Nat.reduceAdd, Nat.reduceMul, Nat.reduceLT, Nat.reduceLeDiff, Nat.reduceEqDiff, Nat.reduceBEq, reduceCtorEq, Int.reduceLT, Int.reduceLE, Int.reduceEq, Int.reduceGT, Int.reduceGE, Int.reduceToNat, Int.reduceNeg, t0, t48, t49, t50, hcmp, e1, e2, new_put, h94, wrapS (i := i) (by omega)]
      refine .mk (.inl ⟨rfl, ?_, ?_, ?_, ?_, hck2, fun j hj x hx => ?_⟩)
      · simp -implicitDefEqProofs only [go_sem, Nat.reduceEqDiff, Nat.reduceBEq, reduceCtorEq, t0]
      · simp -implicitDefEqProofs only [go_sem, Nat.reduceEqDiff, Nat.reduceBEq, reduceCtorEq, t48]
      · simp -implicitDefEqProofs only [go_sem, Nat.reduceEqDiff, Nat.reduceBEq, reduceCtorEq, t49]
      · simp -implicitDefEqProofs only [go_sem, Nat.reduceEqDiff, Nat.reduceBEq, reduceCtorEq]
      · by_cases hji : j = i
        · subst hji
          rw [List.getElem?_eq_getElem hi] at hx
          cases hx
          exact hmv
        · exact hdone j (by omega) x hx
  · rintro ⟨T1, H1⟩ ⟨t0, t48, t49, t50, h⟩
    simp only at t0 t48 t49 t50 h
    have hcmp : decide (((c.ins.length : Nat) : Int) < ((c.ins.length : Nat) : Int)) = false := decide_eq_false (by omega)
    unfold F69_L0
    simp -implicitDefEqProofs only [go_sem, Nat.reduceAdd, Nat.reduceMul, Nat.reduceLT, Nat.reduceLeDiff, Nat.reduceEqDiff, Nat.reduceBEq, reduceCtorEq, Int.reduceLT, Int.reduceLE, Int.reduceEq, Int.reduceGT, Int.reduceGE, Int.reduceToNat, Int.reduceNeg, t49, t50, hcmp]
    refine .mk ⟨by simp, .inl ⟨rfl, ?_, ?_, ?_, ?_, h⟩⟩
    · simp -implicitDefEqProofs only [go_sem, Nat.reduceEqDiff, Nat.reduceBEq, reduceCtorEq, t0]
    · simp -implicitDefEqProofs only [go_sem, Nat.reduceEqDiff, Nat.reduceBEq, reduceCtorEq, t48]
    · simp -implicitDefEqProofs only [go_sem, Nat.reduceEqDiff, Nat.reduceBEq, reduceCtorEq, t49]
    · simp -implicitDefEqProofs only [go_sem, Nat.reduceEqDiff, Nat.reduceBEq, reduceCtorEq, t50]

theorem own_spec (d : Nat) (B : Base Hb ls s l c) {H : AH} (hck : Ck Hb ls s c H (.slice none 0 (.kn 0))) :
    Ret (RT (d + 3) 69 [.ptr (some (Hb.next, 0))] H) fun r => Ext Hb.next Hb r.2 ∧ ((r.1 = .bool true ∧ OwnOk l c ∧ ∃ hs h, Ck Hb ls s c r.2 hs ∧ OwnI (Hb.next + 1) r.2 hs h ∧ Good l c h) ∨ (r.1 = .bool false ∧ ¬ (OwnOk l c ∧ ∃ g, Good l c g))) := by
  rw [R69]
  unfold F69
  have hal := (hck.chk B).ins.alen
  have hx1 : Ext Hb.next Hb (H.new [s, .int .i64 c.cells, .int .i64 c.params, .bool c.answers] 24) := hck.ext.new _ _
  have hkn : ¬ Hb.next = H.next := Nat.ne_of_lt hck.lt
  have hck1 : Ck Hb ls s c (H.new [s, .int .i64 c.cells, .int .i64 c.params, .bool c.answers] 24) (.slice none 0 (.kn 0)) := ⟨hx1, by simp [hkn, hck.blk]⟩
  have no : ¬ OwnOk l c → Ret (some (AV.bool false, H.new [s, .int .i64 c.cells, .int .i64 c.params, .bool c.answers] 24)) fun r => Ext Hb.next Hb r.2 ∧ ((r.1 = .bool true ∧ OwnOk l c ∧ ∃ hs h, Ck Hb ls s c r.2 hs ∧ OwnI (Hb.next + 1) r.2 hs h ∧ Good l c h) ∨ (r.1 = .bool false ∧ ¬ (OwnOk l c ∧ ∃ g, Good l c g))) :=
    fun h => .mk ⟨hx1, .inr ⟨rfl, fun hh => h hh.1⟩⟩
  by_cases p1 : ((c.ins.length : Nat) : Int) < 1
  · simp -implicitDefEqProofs only [go_sem, Nat.reduceAdd, Nat.reduceMul, Nat.reduceLT, Nat.reduceLeDiff, Nat.reduceEqDiff, Nat.reduceBEq, reduceCtorEq, Int.reduceLT, Int.reduceLE, Int.reduceEq, Int.reduceGT, Int.reduceGE, Int.reduceToNat, Int.reduceNeg, hck.blk, hal, new_put, decide_eq_true p1]
    exact no fun h => by have := h.some_; omega
  by_cases p2 : ((c.ins.length : Nat) : Int) > 65536
  · simp -implicitDefEqProofs only [go_sem, Nat.reduceAdd, Nat.reduceMul, Nat.reduceLT, Nat.reduceLeDiff, Nat.reduceEqDiff, Nat.reduceBEq, reduceCtorEq, Int.reduceLT, Int.reduceLE, Int.reduceEq, Int.reduceGT, Int.reduceGE, Int.reduceToNat, Int.reduceNeg, hck.blk, hal, new_put, decide_eq_false p1, decide_eq_true p2]
    exact no fun h => by have := h.few; omega
  by_cases p3 : c.cells < 0
  · simp -implicitDefEqProofs only [go_sem, Nat.reduceAdd, Nat.reduceMul, Nat.reduceLT, Nat.reduceLeDiff, Nat.reduceEqDiff, Nat.reduceBEq, reduceCtorEq, Int.reduceLT, Int.reduceLE, Int.reduceEq, Int.reduceGT, Int.reduceGE, Int.reduceToNat, Int.reduceNeg, hck.blk, hal, new_put, decide_eq_false p1, decide_eq_false p2, decide_eq_true p3]
    exact no fun h => by have := h.cells; omega
  by_cases p4 : c.cells > 65536
  · simp -implicitDefEqProofs only [go_sem, Nat.reduceAdd, Nat.reduceMul, Nat.reduceLT, Nat.reduceLeDiff, Nat.reduceEqDiff, Nat.reduceBEq, reduceCtorEq, Int.reduceLT, Int.reduceLE, Int.reduceEq, Int.reduceGT, Int.reduceGE, Int.reduceToNat, Int.reduceNeg, hck.blk, hal, new_put, decide_eq_false p1, decide_eq_false p2, decide_eq_false p3, decide_eq_true p4]
    exact no fun h => by have := h.cells; omega
  by_cases p5 : c.params < 0
  · simp -implicitDefEqProofs only [go_sem, Nat.reduceAdd, Nat.reduceMul, Nat.reduceLT, Nat.reduceLeDiff, Nat.reduceEqDiff, Nat.reduceBEq, reduceCtorEq, Int.reduceLT, Int.reduceLE, Int.reduceEq, Int.reduceGT, Int.reduceGE, Int.reduceToNat, Int.reduceNeg, hck.blk, hal, new_put, decide_eq_false p1, decide_eq_false p2, decide_eq_false p3, decide_eq_false p4, decide_eq_true p5]
    exact no fun h => by have := h.params; omega
  by_cases p6 : c.params > 8
  · simp -implicitDefEqProofs only [go_sem, Nat.reduceAdd, Nat.reduceMul, Nat.reduceLT, Nat.reduceLeDiff, Nat.reduceEqDiff, Nat.reduceBEq, reduceCtorEq, Int.reduceLT, Int.reduceLE, Int.reduceEq, Int.reduceGT, Int.reduceGE, Int.reduceToNat, Int.reduceNeg, hck.blk, hal, new_put, decide_eq_false p1, decide_eq_false p2, decide_eq_false p3, decide_eq_false p4, decide_eq_false p5, decide_eq_true p6]
    exact no fun h => by have := h.params; omega
  by_cases p7 : c.params > c.cells
  · simp -implicitDefEqProofs only [go_sem, Nat.reduceAdd, Nat.reduceMul, Nat.reduceLT, Nat.reduceLeDiff, Nat.reduceEqDiff, Nat.reduceBEq, reduceCtorEq, Int.reduceLT, Int.reduceLE, Int.reduceEq, Int.reduceGT, Int.reduceGE, Int.reduceToNat, Int.reduceNeg, hck.blk, hal, new_put, decide_eq_false p1, decide_eq_false p2, decide_eq_false p3, decide_eq_false p4, decide_eq_false p5, decide_eq_false p6, decide_eq_true p7]
    exact no fun h => by have := h.params; omega
  simp -implicitDefEqProofs only [go_sem, Nat.reduceAdd, Nat.reduceMul, Nat.reduceLT, Nat.reduceLeDiff, Nat.reduceEqDiff, Nat.reduceBEq, reduceCtorEq, Int.reduceLT, Int.reduceLE, Int.reduceEq, Int.reduceGT, Int.reduceGE, Int.reduceToNat, Int.reduceNeg, hck.blk, hal, new_put, decide_eq_false p1, decide_eq_false p2, decide_eq_false p3, decide_eq_false p4, decide_eq_false p5, decide_eq_false p6, decide_eq_false p7]
  refine Ret.then (own_loop d B (by omega) ⟨?_, ?_, ?_, ?_, hck1, fun j hj => absurd hj (Nat.not_lt_zero _)⟩) ?_
  · simp -implicitDefEqProofs only [go_sem, Nat.reduceEqDiff, Nat.reduceBEq, reduceCtorEq]
  · simp -implicitDefEqProofs only [go_sem, Nat.reduceEqDiff, Nat.reduceBEq, reduceCtorEq]
  · simp -implicitDefEqProofs only [go_sem, Nat.reduceEqDiff, Nat.reduceBEq, reduceCtorEq]
  · simp -implicitDefEqProofs only [go_sem, Nat.reduceEqDiff, Nat.reduceBEq, reduceCtorEq]
    rfl
  · rintro ⟨e, T, H1⟩ (⟨rfl, t0, _, _, _, hck2, hall⟩ | ⟨rfl, k1, k2, k3⟩)
    · simp only at t0 hck2
      have hmay : ∀ i ∈ c.ins, mayI l c i = true := fun i hi => by
        obtain ⟨j, hj⟩ := List.mem_iff_getElem?.1 hi
        exact hall j (List.getElem?_eq_some_iff.1 hj).1 i hj
      have hok : OwnOk l c := ⟨by omega, by omega, by omega, by omega, hmay⟩
      obtain ⟨⟨v, H5⟩, h95, hx5, hr⟩ := heights_spec d B hmay (by omega) (by omega) hck2
      simp only at hx5 hr
      simp -implicitDefEqProofs only [go_sem, Nat.reduceAdd, Nat.reduceMul, Nat.reduceLT, Nat.reduceLeDiff, Nat.reduceEqDiff, Nat.reduceBEq, reduceCtorEq, Int.reduceLT, Int.reduceLE, Int.reduceEq, Int.reduceGT, Int.reduceGE, Int.reduceToNat, Int.reduceNeg, t0, h95]
      refine .mk ⟨hx5, ?_⟩
      rcases hr with ⟨rfl, hs, h, q1, q2, q3⟩ | ⟨rfl, q⟩
      · exact .inl ⟨rfl, hok, hs, h, q1, q2, q3⟩
      · exact .inr ⟨rfl, fun hh => q hh.2⟩
    · simp only at k1 k2
      simp -implicitDefEqProofs only [go_sem, Nat.reduceAdd, Nat.reduceMul, Nat.reduceLT, Nat.reduceLeDiff, Nat.reduceEqDiff, Nat.reduceBEq, reduceCtorEq, Int.reduceLT, Int.reduceLE, Int.reduceEq, Int.reduceGT, Int.reduceGE, Int.reduceToNat, Int.reduceNeg, k1]
      exact .mk ⟨k2, .inr ⟨rfl, fun hh => k3 hh.1.may⟩⟩
end

theorem Heights_spec (d : Nat) {H : AH} (hw : H.wf) (hT : Tabs H) {ls : AV} {l : List Code} (hl : CodesRow H ls l) {k : Int} (hk : InI k) :
    Ret (RT (d + 4) 28 [ls, .int .i64 k] H) fun r => Ext H.next H r.2 ∧ ((∃ hs h, r.1 = .tuple [hs, .bool true] ∧ OwnI (H.next + 1) r.2 hs h ∧ Hts l k h) ∨ (r.1 = .tuple [.slice none 0 (.kn 0), .bool false] ∧ ¬ ∃ h, Hts l k h)) := by
  rw [R28]
  unfold F28
  have hal := hl.alen
  by_cases p1 : k < 0
  · simp -implicitDefEqProofs only [go_sem, Nat.reduceAdd, Nat.reduceMul, Nat.reduceLT, Nat.reduceLeDiff, Nat.reduceEqDiff, Nat.reduceBEq, reduceCtorEq, Int.reduceLT, Int.reduceLE, Int.reduceEq, Int.reduceGT, Int.reduceGE, Int.reduceToNat, Int.reduceNeg, hal, decide_eq_true p1]
    exact .mk ⟨.refl hw, .inr ⟨rfl, fun ⟨h, c, h0, _⟩ => by omega⟩⟩
  by_cases p2 : k ≥ ((l.length : Nat) : Int)
  · simp -implicitDefEqProofs only [go_sem, Nat.reduceAdd, Nat.reduceMul, Nat.reduceLT, Nat.reduceLeDiff, Nat.reduceEqDiff, Nat.reduceBEq, reduceCtorEq, Int.reduceLT, Int.reduceLE, Int.reduceEq, Int.reduceGT, Int.reduceGE, Int.reduceToNat, Int.reduceNeg, hal, decide_eq_false p1, decide_eq_true p2]
    refine .mk ⟨.refl hw, .inr ⟨rfl, fun ⟨h, c, h0, h1, _⟩ => ?_⟩⟩
    have := (List.getElem?_eq_some_iff.1 h1).1
    omega
  obtain ⟨b, o, c, q1, q2, ⟨s, q3, q4, _⟩, _, _, _, q5, q6, _⟩ := codes_at hl (n := k) (by omega) (by omega)
  have hx : Ext H.next H (H.new [ls, s, .int .i64 c.cells, .int .i64 c.params, .bool c.answers, .slice none 0 (.kn 0)] 100) := (Ext.refl hw).new _ _
  have B : Base H ls s l c := ⟨hw, hT, hl, q4, q5, q6⟩
  have hck : Ck H ls s c (H.new [ls, s, .int .i64 c.cells, .int .i64 c.params, .bool c.answers, .slice none 0 (.kn 0)] 100) (.slice none 0 (.kn 0)) := ⟨hx, by simp⟩
  obtain ⟨⟨v, H5⟩, h69, hx5, hr⟩ := own_spec d B hck
  simp only at hx5 hr
  have hls : ∃ p n cc, ls = .slice p n cc ∨ ls = .empty := by
    obtain ⟨rows, hrow, _⟩ := hl
    rcases hrow.is with ⟨h, _⟩ | ⟨a, cc, h, _⟩
    · exact ⟨none, 0, .kn 0, .inr h⟩
    · exact ⟨_, _, _, .inl h⟩
  obtain ⟨p, n, cc, rfl | rfl⟩ := hls
  · rcases hr with ⟨rfl, hok, hs, h, k1, k2, k3⟩ | ⟨rfl, hno⟩
    · simp -implicitDefEqProofs only [go_sem, Nat.reduceAdd, Nat.reduceMul, Nat.reduceLT, Nat.reduceLeDiff, Nat.reduceEqDiff, Nat.reduceBEq, reduceCtorEq, Int.reduceLT, Int.reduceLE, Int.reduceEq, Int.reduceGT, Int.reduceGE, Int.reduceToNat, Int.reduceNeg, hal, decide_eq_false p1, decide_eq_false p2, q2, q3, h69, k1.blk]
      exact .mk ⟨hx5, .inl ⟨hs, h, rfl, k2, c, by omega, q1, hok, k3⟩⟩
    · simp -implicitDefEqProofs only [go_sem, Nat.reduceAdd, Nat.reduceMul, Nat.reduceLT, Nat.reduceLeDiff, Nat.reduceEqDiff, Nat.reduceBEq, reduceCtorEq, Int.reduceLT, Int.reduceLE, Int.reduceEq, Int.reduceGT, Int.reduceGE, Int.reduceToNat, Int.reduceNeg, hal, decide_eq_false p1, decide_eq_false p2, q2, q3, h69]
      refine .mk ⟨hx5, .inr ⟨rfl, fun ⟨h, c', h0, h1, h2, h3⟩ => hno ?_⟩⟩
      rw [q1] at h1
      cases h1
      exact ⟨h2, h, h3⟩
  · have := q2 .i64
    simp [idxSl] at this
def SoundP (l : List Code) (main : Int) : Prop := 1 ≤ l.length ∧ l.length ≤ 40 ∧ 0 ≤ main ∧ main < l.length ∧ paramsAt l main = 0 ∧ answersAt l main = false ∧ ∀ k : Nat, k < l.length → ∃ h, Hts l k h
end Go.Proofs.YthiflgncldmkjaaDoor
set_option linter.unusedVariables false
set_option linter.unusedSimpArgs false
set_option maxRecDepth 100000
namespace Go.Proofs.YthiflgncldmkjaaDoor
open Go.Ri

theorem CodesRow.few {H : AH} {ls : AV} {l : List Code} (h : CodesRow H ls l) : l.length ≤ 9223372036854775807 := by
  obtain ⟨_, _, ⟨_, h⟩, _⟩ := h
  exact h
def IS (H : AH) (ls : AV) (l : List Code) (i : Nat) (t : St) : Prop :=
  t.1 0 = ls ∧ t.1 42 = .int .i64 (l.length : Nat) ∧ t.1 43 = .int .i64 (i : Nat) ∧ Ext H.next H t.2 ∧ ∀ k : Nat, k < i → ∃ h, Hts l k h
theorem sound_loop (d : Nat) {H : AH} (hw : H.wf) (hT : Tabs H) {ls : AV} {l : List Code} (hl : CodesRow H ls l) {T : Tm} {H1 : AH} (h0 : IS H ls l 0 (T, H1)) :
    Ret (Ri.iter big (F27_L0 (RT (d + 4)) (Ri.iter big)) (T, H1)) fun r => Ext H.next H r.2.2 ∧ ((r.1 = .exit 0 ∧ ∀ k : Nat, k < l.length → ∃ h, Hts l k h) ∨ (r.1 = .ret ∧ r.2.1 4 = .bool false ∧ ¬ ∀ k : Nat, k < l.length → ∃ h, Hts l k h)) := by
  have hfew := hl.few
  refine Ret.upTo (n := l.length) (IS H ls l) (by unfold big; omega) h0 ?_ ?_
  · rintro i ⟨T1, H2⟩ hi ⟨t0, t42, t43, hx, hdone⟩
    simp only at t0 t42 t43 hx
    have hcmp : decide (((i : Nat) : Int) < ((l.length : Nat) : Int)) = true := decide_eq_true (by omega)
    obtain ⟨⟨v, H3⟩, h28, hx3, hr⟩ := Heights_spec d hx.wf (hT.ext hx hT.two) (hl.mono (hx.sub hw)) (k := ((i : Nat) : Int)) (by unfold InI; omega)
    simp only at hx3 hr
    have hx4 : Ext H.next H H3 := hx.trans hx3 hx.next
    unfold F27_L0
    rcases hr with ⟨hs, h, rfl, _, hh⟩ | ⟨rfl, hno⟩
    · simp -implicitDefEqProofs only [go_sem, Nat.reduceAdd, Nat.reduceMul, Nat.reduceLT, Nat.reduceLeDiff, Nat.reduceEqDiff, Nat.reduceBEq, reduceCtorEq, Int.reduceLT, Int.reduceLE, Int.reduceEq, Int.reduceGT, Int.reduceGE, Int.reduceToNat, Int.reduceNeg, t0, t42, t43, hcmp, h28, wrapS (i := i) (by omega)]
      refine .mk (.inl ⟨rfl, ?_, ?_, ?_, hx4, fun k hk => ?_⟩)
      · simp -implicitDefEqProofs only [go_sem, Nat.reduceEqDiff, Nat.reduceBEq, reduceCtorEq, t0]
      · simp -implicitDefEqProofs only [go_sem, Nat.reduceEqDiff, Nat.reduceBEq, reduceCtorEq, t42]
      · simp -implicitDefEqProofs only [go_sem, Nat.reduceEqDiff, Nat.reduceBEq, reduceCtorEq]
      · by_cases hki : k = i
        · subst hki; exact ⟨h, hh⟩
        · exact hdone k (by omega)
    · simp -implicitDefEqProofs only [go_sem, Nat.reduceAdd, Nat.reduceMul, Nat.reduceLT, Nat.reduceLeDiff, Nat.reduceEqDiff, Nat.reduceBEq, reduceCtorEq, Int.reduceLT, Int.reduceLE, Int.reduceEq, Int.reduceGT, Int.reduceGE, Int.reduceToNat, Int.reduceNeg, t0, t42, t43, hcmp, h28]
      refine .mk (.inr ⟨by simp, hx4, .inr ⟨rfl, ?_, fun h => hno (h i hi)⟩⟩)
      simp -implicitDefEqProofs only [go_sem, Nat.reduceAdd, Nat.reduceMul, Nat.reduceLT, Nat.reduceLeDiff, Nat.reduceEqDiff, Nat.reduceBEq, reduceCtorEq, Int.reduceLT, Int.reduceLE, Int.reduceEq, Int.reduceGT, Int.reduceGE, Int.reduceToNat, Int.reduceNeg]
  · rintro ⟨T1, H2⟩ ⟨t0, t42, t43, hx, hdone⟩
    simp only at t0 t42 t43 hx
    have hcmp : decide (((l.length : Nat) : Int) < ((l.length : Nat) : Int)) = false := decide_eq_false (by omega)
    unfold F27_L0
    simp -implicitDefEqProofs only [go_sem, Nat.reduceAdd, Nat.reduceMul, Nat.reduceLT, Nat.reduceLeDiff, Nat.reduceEqDiff, Nat.reduceBEq, reduceCtorEq, Int.reduceLT, Int.reduceLE, Int.reduceEq, Int.reduceGT, Int.reduceGE, Int.reduceToNat, Int.reduceNeg, t42, t43, hcmp]
    exact .mk ⟨by simp, hx, .inl ⟨rfl, hdone⟩⟩

theorem Sound_spec (d : Nat) {H : AH} (hw : H.wf) (hT : Tabs H) {ls : AV} {l : List Code} (hl : CodesRow H ls l) {main : Int} (hm : InI main) :
    Ret (RT (d + 5) 27 [ls, .int .i64 main] H) fun r => Ext H.next H r.2 ∧ ∃ b : Bool, r.1 = .bool b ∧ (b = true ↔ SoundP l main) := by
  rw [R27]
  unfold F27
  have hal := hl.alen
  have no : ¬ SoundP l main → Ret (some (AV.bool false, H)) fun r => Ext H.next H r.2 ∧ ∃ b : Bool, r.1 = .bool b ∧ (b = true ↔ SoundP l main) := fun h => .mk ⟨.refl hw, false, rfl, by simp [h]⟩
  by_cases p1 : ((l.length : Nat) : Int) < 1
  · simp -implicitDefEqProofs only [go_sem, Nat.reduceAdd, Nat.reduceMul, Nat.reduceLT, Nat.reduceLeDiff, Nat.reduceEqDiff, Nat.reduceBEq, reduceCtorEq, Int.reduceLT, Int.reduceLE, Int.reduceEq, Int.reduceGT, Int.reduceGE, Int.reduceToNat, Int.reduceNeg, hal, decide_eq_true p1]
    exact no fun h => by have := h.1; omega
  by_cases p2 : ((l.length : Nat) : Int) > 40
  · simp -implicitDefEqProofs only [go_sem, Nat.reduceAdd, Nat.reduceMul, Nat.reduceLT, Nat.reduceLeDiff, Nat.reduceEqDiff, Nat.reduceBEq, reduceCtorEq, Int.reduceLT, Int.reduceLE, Int.reduceEq, Int.reduceGT, Int.reduceGE, Int.reduceToNat, Int.reduceNeg, hal, decide_eq_false p1, decide_eq_true p2]
    exact no fun h => by have := h.2.1; omega
  by_cases p3 : main < 0
  · simp -implicitDefEqProofs only [go_sem, Nat.reduceAdd, Nat.reduceMul, Nat.reduceLT, Nat.reduceLeDiff, Nat.reduceEqDiff, Nat.reduceBEq, reduceCtorEq, Int.reduceLT, Int.reduceLE, Int.reduceEq, Int.reduceGT, Int.reduceGE, Int.reduceToNat, Int.reduceNeg, hal, decide_eq_false p1, decide_eq_false p2, decide_eq_true p3]
    exact no fun h => by have := h.2.2.1; omega
  by_cases p4 : main ≥ ((l.length : Nat) : Int)
  · simp -implicitDefEqProofs only [go_sem, Nat.reduceAdd, Nat.reduceMul, Nat.reduceLT, Nat.reduceLeDiff, Nat.reduceEqDiff, Nat.reduceBEq, reduceCtorEq, Int.reduceLT, Int.reduceLE, Int.reduceEq, Int.reduceGT, Int.reduceGE, Int.reduceToNat, Int.reduceNeg, hal, decide_eq_false p1, decide_eq_false p2, decide_eq_false p3, decide_eq_true p4]
    exact no fun h => by have := h.2.2.2.1; omega
  obtain ⟨b, o, c, q1, q2, _, _, q5, q6, _⟩ := codes_at hl (n := main) (by omega) (by omega)
  have hpa : paramsAt l main = c.params := by simp [paramsAt, q1]
  have haa : answersAt l main = c.answers := by simp [answersAt, q1]
  by_cases p5 : c.params = 0
  · cases p6 : c.answers
    · rw [p6] at q6
      simp -implicitDefEqProofs only [go_sem, Nat.reduceAdd, Nat.reduceMul, Nat.reduceLT, Nat.reduceLeDiff, Nat.reduceEqDiff, Nat.reduceBEq, reduceCtorEq, Int.reduceLT, Int.reduceLE, Int.reduceEq, Int.reduceGT, Int.reduceGE, Int.reduceToNat, Int.reduceNeg, hal, decide_eq_false p1, decide_eq_false p2, decide_eq_false p3, decide_eq_false p4, q2, q5, q6, decide_eq_true p5]
      refine Ret.then (sound_loop d hw hT hl ⟨?_, ?_, ?_, .refl hw, fun k hk => absurd hk (Nat.not_lt_zero _)⟩) ?_
      · simp -implicitDefEqProofs only [go_sem, Nat.reduceEqDiff, Nat.reduceBEq, reduceCtorEq]
      · simp -implicitDefEqProofs only [go_sem, Nat.reduceEqDiff, Nat.reduceBEq, reduceCtorEq]
      · simp -implicitDefEqProofs only [go_sem, Nat.reduceEqDiff, Nat.reduceBEq, reduceCtorEq]
        rfl
      · rintro ⟨e, T, H1⟩ ⟨hx, ⟨rfl, hall⟩ | ⟨rfl, h4, hno⟩⟩
        · simp only at hx
          simp -implicitDefEqProofs only [go_sem, Nat.reduceAdd, Nat.reduceMul, Nat.reduceLT, Nat.reduceLeDiff, Nat.reduceEqDiff, Nat.reduceBEq, reduceCtorEq, Int.reduceLT, Int.reduceLE, Int.reduceEq, Int.reduceGT, Int.reduceGE, Int.reduceToNat, Int.reduceNeg]
          exact .mk ⟨hx, true, rfl, by simp only [true_iff]; exact ⟨by omega, by omega, by omega, by omega, by rw [hpa, p5], by rw [haa, p6], hall⟩⟩
        · simp only at hx h4
          simp -implicitDefEqProofs only [go_sem, Nat.reduceAdd, Nat.reduceMul, Nat.reduceLT, Nat.reduceLeDiff, Nat.reduceEqDiff, Nat.reduceBEq, reduceCtorEq, Int.reduceLT, Int.reduceLE, Int.reduceEq, Int.reduceGT, Int.reduceGE, Int.reduceToNat, Int.reduceNeg, h4]
          exact .mk ⟨hx, false, rfl, by simp only [Bool.false_eq_true, false_iff]; exact fun h => hno h.2.2.2.2.2.2⟩
    · rw [p6] at q6
      simp -implicitDefEqProofs only [go_sem, Nat.reduceAdd, Nat.reduceMul, Nat.reduceLT, Nat.reduceLeDiff, Nat.reduceEqDiff, Nat.reduceBEq, reduceCtorEq, Int.reduceLT, Int.reduceLE, Int.reduceEq, Int.reduceGT, Int.reduceGE, Int.reduceToNat, Int.reduceNeg, hal, decide_eq_false p1, decide_eq_false p2, decide_eq_false p3, decide_eq_false p4, q2, q5, q6, decide_eq_true p5]
      exact no fun h => by have := h.2.2.2.2.2.1; rw [haa, p6] at this; cases this
  · simp -implicitDefEqProofs only [go_sem, Nat.reduceAdd, Nat.reduceMul, Nat.reduceLT, Nat.reduceLeDiff, Nat.reduceEqDiff, Nat.reduceBEq, reduceCtorEq, Int.reduceLT, Int.reduceLE, Int.reduceEq, Int.reduceGT, Int.reduceGE, Int.reduceToNat, Int.reduceNeg, hal, decide_eq_false p1, decide_eq_false p2, decide_eq_false p3, decide_eq_false p4, q2, q5, decide_eq_false p5]
    exact no fun h => p5 (by rw [← hpa]; exact h.2.2.2.2.1)

theorem Size_spec (d : Nat) {H : AH} {ls : AV} {l : List Code} (hl : CodesRow H ls l) (most : Int) : Ret (RT (d + 1) 26 [ls, .int .i64 most] H) fun r => (∃ n, r.1 = .int .i64 n) ∧ r.2 = H := by
  rw [R26]
  unfold F26
  have hfew := hl.few
  have hal := hl.alen
  refine Ret.then (Q' := fun r => r.1 = .exit 0 ∧ (∃ n, r.2.1 5 = .int .i64 n) ∧ r.2.2 = H) (Ret.upTo (n := l.length) (fun i t => t.1 0 = ls ∧ t.1 1 = .int .i64 most ∧ (∃ n, t.1 5 = .int .i64 n) ∧ t.1 6 = .int .i64 (i : Nat) ∧ t.2 = H) (by unfold big; omega) ⟨?_, ?_, ⟨0, ?_⟩, ?_, rfl⟩ ?_ ?_) ?_
  · simp -implicitDefEqProofs only [go_sem, Nat.reduceEqDiff, Nat.reduceBEq, reduceCtorEq]
  · simp -implicitDefEqProofs only [go_sem, Nat.reduceEqDiff, Nat.reduceBEq, reduceCtorEq]
  · simp -implicitDefEqProofs only [go_sem, Nat.reduceEqDiff, Nat.reduceBEq, reduceCtorEq]
  · simp -implicitDefEqProofs only [go_sem, Nat.reduceEqDiff, Nat.reduceBEq, reduceCtorEq]
    rfl
  · rintro i ⟨T1, H2⟩ hi ⟨t0, t1, ⟨n, t5⟩, t6, hH⟩
    simp only at t0 t1 t5 t6 hH
    subst hH
    have hcmp : decide (((i : Nat) : Int) < ((l.length : Nat) : Int)) = true := decide_eq_true (by omega)
    obtain ⟨b, o, c, q1, q2, ⟨s, _, q4, q3⟩, _⟩ := codes_at hl (n := ((i : Nat) : Int)) (by omega) (by omega)
    have hia := q4.alen
    unfold F26_L0
    by_cases hle : n ≤ most
    · rw [Nat.add_zero] at q3
      simp -implicitDefEqProofs only [go_sem, Nat.reduceAdd, Nat.reduceMul, Nat.reduceLT, Nat.reduceLeDiff, Nat.reduceEqDiff, Nat.reduceBEq, reduceCtorEq, Int.reduceLT, Int.reduceLE, Int.reduceEq, Int.reduceGT, Int.reduceGE, Int.reduceToNat, Int.reduceNeg, t0, t1, t5, t6, hal, hcmp, decide_eq_true hle, q2, q3, hia, wrapS (i := i) (by omega)]
      refine .mk (.inl ⟨rfl, ?_, ?_, ?_, ?_, rfl⟩)
      · simp -implicitDefEqProofs only [go_sem, Nat.reduceEqDiff, Nat.reduceBEq, reduceCtorEq, t0]
      · simp -implicitDefEqProofs only [go_sem, Nat.reduceEqDiff, Nat.reduceBEq, reduceCtorEq, t1]
      · simp -implicitDefEqProofs only [go_sem, Nat.reduceEqDiff, Nat.reduceBEq, reduceCtorEq]
        exact ⟨_, rfl⟩
      · simp -implicitDefEqProofs only [go_sem, Nat.reduceEqDiff, Nat.reduceBEq, reduceCtorEq]
    · simp -implicitDefEqProofs only [go_sem, Nat.reduceAdd, Nat.reduceMul, Nat.reduceLT, Nat.reduceLeDiff, Nat.reduceEqDiff, Nat.reduceBEq, reduceCtorEq, Int.reduceLT, Int.reduceLE, Int.reduceEq, Int.reduceGT, Int.reduceGE, Int.reduceToNat, Int.reduceNeg, t0, t1, t5, t6, hal, hcmp, decide_eq_false hle]
      refine .mk (.inr ⟨by simp, rfl, ⟨n, ?_⟩, rfl⟩)
      simp -implicitDefEqProofs only [go_sem, Nat.reduceAdd, Nat.reduceMul, Nat.reduceLT, Nat.reduceLeDiff, Nat.reduceEqDiff, Nat.reduceBEq, reduceCtorEq, Int.reduceLT, Int.reduceLE, Int.reduceEq, Int.reduceGT, Int.reduceGE, Int.reduceToNat, Int.reduceNeg, t5]
  · rintro ⟨T1, H2⟩ ⟨t0, t1, ⟨n, t5⟩, t6, hH⟩
    simp only at t0 t1 t5 t6 hH
    have hcmp : decide (((l.length : Nat) : Int) < ((l.length : Nat) : Int)) = false := decide_eq_false (by omega)
    unfold F26_L0
    simp -implicitDefEqProofs only [go_sem, Nat.reduceAdd, Nat.reduceMul, Nat.reduceLT, Nat.reduceLeDiff, Nat.reduceEqDiff, Nat.reduceBEq, reduceCtorEq, Int.reduceLT, Int.reduceLE, Int.reduceEq, Int.reduceGT, Int.reduceGE, Int.reduceToNat, Int.reduceNeg, t0, t6, hal, hcmp]
    refine .mk ⟨by simp, rfl, ⟨n, ?_⟩, hH⟩
    simp -implicitDefEqProofs only [go_sem, Nat.reduceAdd, Nat.reduceMul, Nat.reduceLT, Nat.reduceLeDiff, Nat.reduceEqDiff, Nat.reduceBEq, reduceCtorEq, Int.reduceLT, Int.reduceLE, Int.reduceEq, Int.reduceGT, Int.reduceGE, Int.reduceToNat, Int.reduceNeg, t5]
  · rintro ⟨e, T1, H2⟩ ⟨rfl, ⟨n, t5⟩, hH⟩
    simp only at t5 hH
    simp -implicitDefEqProofs only [go_sem, Nat.reduceAdd, Nat.reduceMul, Nat.reduceLT, Nat.reduceLeDiff, Nat.reduceEqDiff, Nat.reduceBEq, reduceCtorEq, Int.reduceLT, Int.reduceLE, Int.reduceEq, Int.reduceGT, Int.reduceGE, Int.reduceToNat, Int.reduceNeg, t5]
    exact .mk ⟨⟨n, rfl⟩, hH⟩
end Go.Proofs.YthiflgncldmkjaaDoor
set_option linter.unusedVariables false
set_option linter.unusedSimpArgs false
set_option maxRecDepth 100000
namespace Go.Ri
theorem Ext.res {N : Nat} {H0 H : AH} (h : Ext N H0 H) (n : Nat) : Ext N H0 (H.res n) := ⟨h.low, Nat.le_trans h.next (by simp), fun b B hB => Nat.lt_of_lt_of_le (h.wf b B hB) (by simp)⟩
end Go.Ri
namespace Go.Proofs.YthiflgncldmkjaaDoor
open Go.Ri

theorem may_call {l : List Code} {c : Code} {i : Ins} (hm : mayI l c i = true) (e : i.op = 19) : 0 ≤ i.n ∧ i.n < (l.length : Nat) ∧ 0 ≤ i.m ∧ i.m ≤ 8 ∧ i.m = paramsAt l i.n := by
  unfold mayI at hm
  split at hm
  · cases hm
  · simp [e] at hm
    omega
theorem paramsAt_more (l : List Code) (x : List Code) {n : Int} (h : n.toNat < l.length) : paramsAt (l ++ x) n = paramsAt l n ∧ answersAt (l ++ x) n = answersAt l n := by
  simp [paramsAt, answersAt, List.getElem?_append_left h]
theorem mayI_call {l : List Code} {c : Code} {i : Ins} (e : i.op = 19) : mayI l c i = if (lineOf i.op i.n i.m).isNone = true then false else decide (0 ≤ i.n) && decide (i.n < (l.length : Nat)) && decide (0 ≤ i.m) && decide (i.m ≤ 8) && decide (i.m = paramsAt l i.n) := by
  unfold mayI
  rw [if_neg (show ¬ (i.op = 2 ∨ i.op = 3) by omega), if_neg (show ¬ (i.op = 4 ∨ i.op = 5 ∨ i.op = 6) by omega), if_neg (show ¬ (i.op = 17 ∨ i.op = 18) by omega), if_pos e]
theorem mayI_more {l : List Code} {c : Code} {i : Ins} (hm : mayI l c i = true) (x : List Code) : mayI (l ++ x) c i = true := by
  by_cases e : i.op = 19
  · obtain ⟨h1, h2, h3, h4, h5⟩ := may_call hm e
    have hp := (paramsAt_more l x (n := i.n) (by omega)).1
    rw [mayI_call e] at hm ⊢
    split at hm
    · cases hm
    · rename_i h
      rw [if_neg h, hp]
      simp only [Bool.and_eq_true, decide_eq_true_eq, List.length_append]
      refine ⟨⟨⟨⟨h1, by omega⟩, h3⟩, h4⟩, h5⟩
  · unfold mayI at hm ⊢
    rw [if_neg e] at hm ⊢
    exact hm
theorem Good.more {l : List Code} {c : Code} {h : List Int} (g : Good l c h) (hmay : ∀ i ∈ c.ins, mayI l c i = true) (x : List Code) : Good (l ++ x) c h := by
  refine ⟨g.len, g.zero, fun a i y hi hy h0 => ?_, g.reach⟩
  have hm := hmay i (List.mem_of_getElem? hi)
  have htk : tk (l ++ x) i = tk l i := rfl
  have hlv : lv (l ++ x) i = lv l i := by
    unfold lv
    by_cases e : i.op = 19
    · obtain ⟨h1, h2, _⟩ := may_call hm e
      rw [if_pos e, if_pos e, (paramsAt_more l x (n := i.n) (by omega)).2]
    · rw [if_neg e, if_neg e]
  obtain ⟨h1, h2⟩ := g.step a i y hi hy h0
  exact ⟨h1, fun p hp => by rw [htk, hlv]; exact h2 p hp⟩
theorem Hts.more {l : List Code} {k : Int} {h : List Int} (g : Hts l k h) (x : List Code) : Hts (l ++ x) k h := by
  obtain ⟨c, h0, h1, h2, h3⟩ := g
  refine ⟨c, h0, ?_, ⟨h2.some_, h2.few, h2.cells, h2.params, fun i hi => mayI_more (h2.may i hi) x⟩, h3.more h2.may x⟩
  rw [List.getElem?_append_left (List.getElem?_eq_some_iff.1 h1).1]
  exact h1
theorem SoundP.more {l : List Code} {main : Int} (h : SoundP l main) (c : Code) (hl : (l ++ [c]).length ≤ 40) : SoundP (l ++ [c]) main ↔ ∃ g, Hts (l ++ [c]) ((l.length : Nat) : Int) g := by
  obtain ⟨h1, h2, h3, h4, h5, h6, h7⟩ := h
  constructor
  · intro hs
    exact hs.2.2.2.2.2.2 l.length (by simp)
  · intro hg
    have hm := paramsAt_more l [c] (n := main) (by omega)
    refine ⟨by simp, hl, h3, by simp; omega, by rw [hm.1, h5], by rw [hm.2, h6], fun k hk => ?_⟩
    by_cases hkl : k < l.length
    · obtain ⟨g, hg'⟩ := h7 k hkl
      exact ⟨g, hg'.more [c]⟩
    · have : k = l.length := by simp at hk; omega
      subst this
      exact hg

end Go.Proofs.YthiflgncldmkjaaDoor
set_option linter.unusedVariables false
set_option linter.unusedSimpArgs false
set_option maxRecDepth 100000
namespace Go.Ri
theorem new_put1 (H : AH) (a cs cs' : List AV) (ea e e' : TypeId) : ((H.new a ea).new cs e).put (H.next + 1) ⟨cs', e', true⟩ = (H.new a ea).new cs' e' := new_put (H.new a ea) cs cs' e e'
end Go.Ri
namespace Go.Proofs.YthiflgncldmkjaaDoor
open Go.Ri

end Go.Proofs.YthiflgncldmkjaaDoor
set_option linter.unusedVariables false
set_option linter.unusedSimpArgs false
set_option maxRecDepth 100000
namespace Go.Proofs.YthiflgncldmkjaaDoor
open Go.Ri

section
variable {Hb : AH} {ls s : AV} {l : List Code} {c : Code}
structure Cr (Hb : AH) (s : AV) (c : Code) (H : AH) : Prop where
  ext : Ext Hb.next Hb H
  blk : H.m Hb.next = some ⟨[s, .int .i64 c.cells, .int .i64 c.params, .bool c.answers], 24, true⟩
theorem Cr.lt {H : AH} (h : Cr Hb s c H) : Hb.next < H.next := h.ext.wf _ _ h.blk

end
end Go.Proofs.YthiflgncldmkjaaDoor
set_option linter.unusedVariables false
set_option linter.unusedSimpArgs false
set_option maxRecDepth 100000
namespace Go.Proofs.YthiflgncldmkjaaDoor
open Go.Ri

theorem OwnI.blk {N : Nat} {H : AH} {s : AV} {h : List Int} (ho : OwnI N H s h) (hw : H.wf) (hne : 0 < h.length) :
    ∃ b B, At s b ∧ N ≤ b ∧ b < H.next ∧ H.m b = some B ∧ B.rw_ = true ∧ h.length ≤ B.cells.length ∧ (∀ k (i : Nat), i < h.length → idxSl s (.int k (i : Nat)) 1 = some (.ptr (some (b, i)))) ∧
      (∀ (i : Nat) x, h[i]? = some x → B.cells[i]? = some (.int .i64 x)) ∧ ∀ (i : Nat) v, i < h.length → OwnI N (H.put b ⟨B.cells.set i (.int .i64 v), B.elem, true⟩) s (h.set i v) := by
  obtain ⟨b, B, q1, q2, q3, q4, q5, _, _, _, _⟩ := ho.cell hw (i := 0) (by rw [intsC_len]; exact hne)
  have key : ∀ i : Nat, i < h.length → i < B.cells.length ∧ B.cells[i]? = (intsC h)[i]? ∧ (∀ k, idxSl s (.int k (i : Nat)) 1 = some (.ptr (some (b, i)))) ∧ ∀ v, Own N 1 3 (H.put b ⟨B.cells.set i v, B.elem, B.rw_⟩) s ((intsC h).set i v) := fun i hi => by
    obtain ⟨b', B', p1, p2, p3, p4, p5, p6, p7, p8, p9⟩ := ho.cell hw (i := i) (by rw [intsC_len]; exact hi)
    have := p1.one q1
    subst this
    rw [q4] at p4
    cases p4
    exact ⟨p6, p7, p8, p9⟩
  refine ⟨b, B, q1, q2, q3, q4, q5, ?_, fun k i hi => (key i hi).2.2.1 k, fun i x hx => ?_, fun i v hi => ?_⟩
  · have := (key (h.length - 1) (by omega)).1
    omega
  · have hi := (List.getElem?_eq_some_iff.1 hx).1
    rw [(key i hi).2.1, intsC_get, hx]
    rfl
  · have := (key i hi).2.2.2 (.int .i64 v)
    rw [intsC_set, q5] at this
    exact this

section
variable {Hb : AH} {ls s : AV} {l : List Code} {c : Code}
end
end Go.Proofs.YthiflgncldmkjaaDoor
set_option linter.unusedVariables false
set_option linter.unusedSimpArgs false
set_option maxRecDepth 100000
namespace Go.Proofs.YthiflgncldmkjaaDoor
open Go.Ri

section
variable {Hb : AH} {ls s : AV} {l : List Code} {c : Code}
end
end Go.Proofs.YthiflgncldmkjaaDoor
set_option linter.unusedVariables false
set_option linter.unusedSimpArgs false
set_option maxRecDepth 100000
namespace Go.Proofs.YthiflgncldmkjaaDoor
open Go.Ri

section
variable {Hb : AH} {ls s : AV} {l : List Code} {c : Code}
end

end Go.Proofs.YthiflgncldmkjaaDoor
set_option linter.unusedVariables false
set_option linter.unusedSimpArgs false
namespace Go.Proofs.YthiflgncldmkjaaDoor
open Go.Ri

def isDg (d : Int) : Prop := 48 ≤ d ∧ d ≤ 57
instance (d : Int) : Decidable (isDg d) := by unfold isDg; infer_instance
def lim (below : Bool) : Nat := if below = true then 9223372036854775808 else 9223372036854775807
end Go.Proofs.YthiflgncldmkjaaDoor
set_option linter.unusedVariables false
set_option linter.unusedSimpArgs false
set_option maxRecDepth 100000
namespace Go.Proofs.YthiflgncldmkjaaDoor
open Go.Ri

end Go.Proofs.YthiflgncldmkjaaDoor
set_option linter.unusedVariables false
set_option linter.unusedSimpArgs false
set_option maxRecDepth 100000
namespace Go.Proofs.YthiflgncldmkjaaDoor
open Go.Ri

theorem gdv_tuple (l : List AV) (w : Bool) : gdv (.tuple l) w = some false := (rfl)
attribute [go_sem] gdv_tuple
def Bs (l : List Int) : Prop := ∀ n ∈ l, 0 ≤ n ∧ n < 256
theorem Bs.byteL (s : ByteArray) : Bs (byteL s) := by
  intro n hn
  simp only [Go.Proofs.YthiflgncldmkjaaDoor.byteL, List.mem_map] at hn
  obtain ⟨y, _, rfl⟩ := hn
  have := y.toNat_lt
  omega
theorem Bs.take {l : List Int} (h : Bs l) (k : Nat) : Bs (l.take k) := fun n hn => h n (List.mem_of_mem_take hn)
theorem Bs.drop {l : List Int} (h : Bs l) (k : Nat) : Bs (l.drop k) := fun n hn => h n (List.mem_of_mem_drop hn)
theorem Bs.nil : Bs [] := fun n hn => by simp at hn
theorem ins_neq (a b c a' b' c' : Int) : aBin Tryd.prog .neq 29 (.agg [.int .i64 a, .int .i64 b, .int .i64 c]) (.agg [.int .i64 a', .int .i64 b', .int .i64 c']) = some (.bool (!(a == a' && (b == b' && (c == c' && true))))) := by kernel_rfl
theorem flat_one {A B : Type} (f : A → B) (l : List A) : (l.map fun w => [f w]).flatten = l.map f := by
  induction l with
  | nil => rfl
  | cons a l ih => simp [ih]
def Strs (H : AH) (v : AV) (ws : List (List Int)) : Prop := Row H v 1 (ws.map fun w => [.str (strOfNums w)])
theorem Strs.alen {H : AH} {v : AV} {ws : List (List Int)} (h : Strs H v ws) : aLen Tryd.prog 90 v = some (.int .i64 (ws.length : Nat)) := by
  rw [Row.alen ysl90.under h, List.length_map]
theorem Strs.at {H : AH} {v : AV} {ws : List (List Int)} (h : Strs H v ws) {i : Nat} (hi : i < ws.length) : ∃ p, (∀ k, idxSl v (.int k (i : Nat)) 1 = some (.ptr (some p))) ∧ ldOne (.ptr (some p)) H = some (.str (strOfNums ws[i])) := by
  obtain ⟨b, o, h1, _, h3⟩ := Row.at h (i := i) (by simpa using hi)
  have := h3 0 (by omega)
  simp only [List.getElem_map, Nat.add_zero, List.getElem?_cons_zero] at this
  exact ⟨(b, o), h1, this⟩
end Go.Proofs.YthiflgncldmkjaaDoor
set_option linter.unusedVariables false
set_option linter.unusedSimpArgs false
set_option maxRecDepth 100000
namespace Go.Proofs.YthiflgncldmkjaaDoor
open Go.Ri

def isJ (i : Ins) : Prop := i.op = 17 ∨ i.op = 18
instance (i : Ins) : Decidable (isJ i) := by unfold isJ; infer_instance
def mvP (p n m : Nat) (q : Int) : Int := if q ≤ p then q else if q < (p + n : Nat) then p else q - n + m
def mvI (p n m : Nat) (i : Ins) : Ins := if isJ i then ⟨i.op, mvP p n m i.n, i.m⟩ else i
def doneP (L : List Ins) (p n : Nat) (put : List Ins) : List Ins := (L.take p ++ put ++ L.drop (p + n)).map (mvI p n put.length)
theorem mvI_op (p n m : Nat) (i : Ins) : (mvI p n m i).op = i.op := by unfold mvI; split <;> rfl
theorem mvI_tk (l : List Code) (p n m : Nat) (i : Ins) : tk l (mvI p n m i) = tk l i := by
  unfold mvI
  split
  · rename_i h
    unfold isJ at h
    have h1 : i.op ≠ 19 := by omega
    have h2 : i.op ≠ 20 := by omega
    simp [tk, h1, h2]
  · rfl
theorem mvI_lv (l : List Code) (p n m : Nat) (i : Ins) : lv l (mvI p n m i) = lv l i := by
  unfold mvI
  split
  · rename_i h
    unfold isJ at h
    have h1 : i.op ≠ 19 := by omega
    have h2 : i.op ≠ 20 := by omega
    simp [lv, h1, h2]
  · rfl
theorem mvI_ok {l : List Code} {p n m : Nat} {i : Ins} {x : Int} : okAt l (mvI p n m i) x ↔ okAt l i x := by
  unfold okAt
  rw [mvI_tk, mvI_op]

def wt (len : Nat) (i : Ins) : Nat := if isJ i then 2 + ((len : Int) - i.n).toNat else 1
def wsum (len : Nat) (L : List Ins) : Nat := (L.map (wt len)).sum
theorem wsum_append (len : Nat) (a b : List Ins) : wsum len (a ++ b) = wsum len a + wsum len b := by simp [wsum]

structure Step (l : List Code) (c : Code) (h : List Int) (p n : Nat) (put : List Ins) : Prop where
  pos : 1 ≤ n
  bound : p + n ≤ c.ins.length
  small : put.length ≤ n
  target : ∀ (a : Nat) (i : Ins) (x : Int), c.ins[a]? = some i → h[a]? = some x → 0 ≤ x → isJ i → ¬ ((p : Int) < i.n ∧ i.n < (p + n : Nat))
  body : (put = [] ∧ ((n = 1 ∧ h[p]? = some (-1)) ∨ ∃ x, 0 ≤ x ∧ h[p]? = some x ∧ h[p + n]? = some x)) ∨
    ∃ x i, put = [i] ∧ 0 ≤ x ∧ h[p]? = some x ∧ Done l i (p + n - 1) x h ∧ mayI l c i = true ∧ (isJ i → ¬ ((p : Int) < i.n ∧ i.n < (p + n : Nat)))
  less : wsum (c.ins.length - n + put.length) (put.map (mvI p n put.length)) < wsum c.ins.length ((c.ins.drop p).take n)

def baseO (p n m a : Nat) : Nat := if a < p then a else a + n - m
def oldO (p n m a : Nat) : Nat := if a < p then a else if a < p + m then p else a + n - m
theorem next_mv (p n m : Nat) (hm : m ≤ n) (i : Ins) (a : Nat) (ha : a < p ∨ p + m ≤ a + 1 ∧ p ≤ a) (hn : 1 ≤ n) : nextI (mvI p n m i) a = (nextI i (baseO p n m a)).map (mvP p n m) := by
  have h1 : mvP p n m ((baseO p n m a + 1 : Nat) : Int) = ((a + 1 : Nat) : Int) := by
    unfold baseO mvP
    split
    · rw [if_pos (by omega)]
    · by_cases h : a + n - m + 1 ≤ p
      · rw [if_pos (by omega)]; omega
      · rw [if_neg (by omega), if_neg (by omega)]; omega
  unfold nextI
  rw [mvI_op]
  by_cases e17 : i.op = 17
  · rw [if_pos e17, if_pos e17]
    simp [mvI, isJ, e17]
  · rw [if_neg e17, if_neg e17]
    by_cases e18 : i.op = 18
    · rw [if_pos e18, if_pos e18, List.map_cons, h1]
      simp [mvI, isJ, e18]
    · rw [if_neg e18, if_neg e18]
      by_cases e20 : i.op = 20
      · rw [if_pos e20, if_pos e20]; rfl
      · rw [if_neg e20, if_neg e20, List.map_cons, h1]; rfl

section
variable {l : List Code} {c : Code} {h : List Int} {p n : Nat} {put : List Ins}
theorem Step.len (S : Step l c h p n put) : (doneP c.ins p n put).length = c.ins.length - n + put.length := by
  have := S.bound
  simp [doneP]
  omega
theorem Step.mv (S : Step l c h p n put) {q : Nat} {x : Int} (hq : h[q]? = some x) (hx : 0 ≤ x) (ho : ¬ (p < q ∧ q < p + n)) :
    ∃ q' : Nat, mvP p n put.length (q : Nat) = q' ∧ h[oldO p n put.length q']? = some x := by
  unfold mvP oldO
  have hs := S.small
  have hp := S.pos
  by_cases h1 : q < p
  · exact ⟨q, by rw [if_pos (by omega)], by rw [if_pos h1]; exact hq⟩
  by_cases h2 : q = p
  · subst h2
    refine ⟨q, by rw [if_pos (by omega)], ?_⟩
    rw [if_neg (by omega)]
    rcases S.body with ⟨rfl, ⟨_, hb⟩ | ⟨y, _, hb1, hb2⟩⟩ | ⟨y, i, rfl, _, hb, _⟩
    · rw [hq] at hb
      have := Option.some.inj hb
      omega
    · rw [hq] at hb1
      simp only [List.length_nil, Nat.add_zero, Nat.lt_irrefl, if_false, Nat.sub_zero]
      rw [hb2, ← hb1]
    · simp only [List.length_cons, List.length_nil]
      rw [if_pos (by omega)]
      exact hq
  · refine ⟨q - n + put.length, ?_, ?_⟩
    · rw [if_neg (by omega), if_neg (by omega)]
      omega
    · rw [if_neg (by omega), if_neg (by omega)]
      rw [show q - n + put.length + n - put.length = q by omega]
      exact hq
theorem doneP_at (S : Step l c h p n put) {a : Nat} {i : Ins} (hi : (doneP c.ins p n put)[a]? = some i) :
    ∃ j, i = mvI p n put.length j ∧ ((a < p ∧ c.ins[a]? = some j) ∨ (p + put.length ≤ a ∧ c.ins[a + n - put.length]? = some j) ∨ (a = p ∧ put = [j])) := by
  have hb := S.bound
  simp only [doneP, List.getElem?_map, Option.map_eq_some_iff] at hi
  obtain ⟨j, hj, rfl⟩ := hi
  refine ⟨j, rfl, ?_⟩
  rw [List.append_assoc, List.getElem?_append] at hj
  rw [List.length_take, Nat.min_eq_left (by omega)] at hj
  split at hj
  · rename_i ha
    rw [List.getElem?_take, if_pos ha] at hj
    exact .inl ⟨ha, hj⟩
  · rename_i ha
    rw [List.getElem?_append] at hj
    split at hj
    · rename_i hl
      refine .inr (.inr ?_)
      rcases S.body with ⟨rfl, _⟩ | ⟨y, i, rfl, _⟩
      · simp at hl
      · simp at hl
        have : a = p := by omega
        subst this
        simp at hj
        exact ⟨rfl, by rw [hj]⟩
    · rename_i hl
      rw [List.getElem?_drop] at hj
      refine .inr (.inl ⟨by omega, ?_⟩)
      rw [← hj]
      congr 1
      have := S.small
      omega
theorem next_out (S : Step l c h p n put) (g : Good l c h) {a : Nat} {i : Ins} {x : Int} (hi : c.ins[a]? = some i) (hx : h[a]? = some x) (h0 : 0 ≤ x) (ho : a < p ∨ p + n ≤ a) {q : Nat} (hq : ((q : Nat) : Int) ∈ nextI i a) : ¬ (p < q ∧ q < p + n) := by
  have ht := S.target a i x hi hx h0
  unfold nextI at hq
  unfold isJ at ht
  split at hq
  · simp at hq
    intro hh
    exact ht (.inl ‹_›) (by omega)
  · split at hq
    · simp only [List.mem_cons, List.not_mem_nil, or_false] at hq
      rcases hq with hq | hq
      · omega
      · intro hh
        exact ht (.inr ‹_›) (by omega)
    · split at hq
      · simp at hq
      · simp at hq; omega
theorem Step.next (S : Step l c h p n put) (g : Good l c h) {a : Nat} {i : Ins} {x : Int} (hi : (doneP c.ins p n put)[a]? = some i) (hx : h[oldO p n put.length a]? = some x) (h0 : 0 ≤ x) :
    okAt l i x ∧ ∀ q ∈ nextI i a, ∃ q' : Nat, q = q' ∧ h[oldO p n put.length q']? = some (x - tk l i + lv l i) ∧ 0 ≤ x - tk l i + lv l i := by
  obtain ⟨j, rfl, hj⟩ := doneP_at S hi
  have hn := S.pos
  have hs := S.small
  have main : ∀ b, Done l j b x h → (b = baseO p n put.length a) → (a < p ∨ p + put.length ≤ a + 1 ∧ p ≤ a) → (∀ q : Nat, ((q : Nat) : Int) ∈ nextI j b → ¬ (p < q ∧ q < p + n)) →
      okAt l (mvI p n put.length j) x ∧ ∀ q ∈ nextI (mvI p n put.length j) a, ∃ q' : Nat, q = q' ∧ h[oldO p n put.length q']? = some (x - tk l (mvI p n put.length j) + lv l (mvI p n put.length j)) ∧ 0 ≤ x - tk l (mvI p n put.length j) + lv l (mvI p n put.length j) := by
    rintro b ⟨d1, d2⟩ rfl ha hout
    refine ⟨mvI_ok.2 d1, fun q hq => ?_⟩
    rw [next_mv p n put.length hs j a ha hn, List.mem_map] at hq
    obtain ⟨q0, hq0, rfl⟩ := hq
    obtain ⟨q1, rfl, hq1⟩ := d2 q0 hq0
    rw [mvI_tk, mvI_lv]
    have hnn : 0 ≤ x - tk l j + lv l j := by have := d1.1; have := lv_nonneg l j; omega
    obtain ⟨q', e, he⟩ := S.mv hq1 hnn (hout q1 hq0)
    exact ⟨q', e, he, hnn⟩
  rcases hj with ⟨ha, hj⟩ | ⟨ha, hj⟩ | ⟨rfl, rfl⟩
  · have ho : oldO p n put.length a = a := if_pos ha
    rw [ho] at hx
    exact main a (g.step a j x hj hx h0) (if_pos ha).symm (.inl ha) fun q hq => next_out S g hj hx h0 (.inl ha) hq
  · have ho : oldO p n put.length a = a + n - put.length := by unfold oldO; rw [if_neg (by omega), if_neg (by omega)]
    rw [ho] at hx
    exact main _ (g.step _ j x hj hx h0) (by unfold baseO; rw [if_neg (by omega)]) (.inr (by omega)) fun q hq => next_out S g hj hx h0 (.inr (by omega)) hq
  · have ho : oldO a n [j].length a = a := by unfold oldO; simp
    rw [ho] at hx
    rcases S.body with ⟨e, _⟩ | ⟨y, i, e, h0y, hb, hd, _, hjt⟩
    · cases e
    · cases e
      rw [hx] at hb
      cases hb
      refine main (a + n - 1) hd (by unfold baseO; simp) (.inr (by simp)) fun q hq hh => ?_
      unfold nextI at hq
      unfold isJ at hjt
      split at hq
      · simp at hq
        exact hjt (.inl ‹_›) (by omega)
      · split at hq
        · simp only [List.mem_cons, List.not_mem_nil, or_false] at hq
          rcases hq with hq | hq
          · omega
          · exact hjt (.inr ‹_›) (by omega)
        · split at hq
          · simp at hq
          · simp at hq; omega
theorem Step.start (S : Step l c h p n put) (g : Good l c h) : h[oldO p n put.length 0]? = some 0 := by
  have := S.mv g.zero (by omega) (by omega)
  obtain ⟨q', e, hq⟩ := this
  have : q' = 0 := by
    unfold mvP at e
    rw [if_pos (by omega)] at e
    omega
  subst this
  exact hq
theorem Step.reach (S : Step l c h p n put) (g : Good l c h) {a : Nat} (hr : Reach { c with ins := doneP c.ins p n put } a) : ∃ x, h[oldO p n put.length a]? = some x ∧ 0 ≤ x := by
  induction hr with
  | zero => exact ⟨0, S.start g, by omega⟩
  | step hr hi hp ih =>
    obtain ⟨x, hx, h0⟩ := ih
    obtain ⟨_, hn⟩ := S.next g hi hx h0
    obtain ⟨q', e, hq, h0'⟩ := hn _ hp
    have := Int.ofNat_inj.1 e
    subst this
    exact ⟨_, hq, h0'⟩
theorem oldO_lt (S : Step l c h p n put) (g : Good l c h) {a : Nat} (ha : oldO p n put.length a < c.ins.length) : a < (doneP c.ins p n put).length := by
  have := S.bound
  have := S.small
  have := S.pos
  rw [S.len]
  unfold oldO at ha
  split at ha
  · omega
  · split at ha <;> omega
open Classical in
noncomputable def newH (l : List Code) (c : Code) (h : List Int) (p n : Nat) (put : List Ins) : List Int :=
  (List.range (doneP c.ins p n put).length).map fun a => if Reach { c with ins := doneP c.ins p n put } a then (h[oldO p n put.length a]?).getD 0 else -1
theorem newH_at {a : Nat} (ha : a < (doneP c.ins p n put).length) : (newH l c h p n put)[a]? = some (open Classical in if Reach { c with ins := doneP c.ins p n put } a then (h[oldO p n put.length a]?).getD 0 else -1) := by
  unfold newH
  rw [List.getElem?_map, List.getElem?_range ha]
  rfl
theorem Step.good (S : Step l c h p n put) (g : Good l c h) (h1 : 1 ≤ c.ins.length) : Good l { c with ins := doneP c.ins p n put } (newH l c h p n put) := by
  have hlt : ∀ a x, h[oldO p n put.length a]? = some x → a < (doneP c.ins p n put).length := fun a x hx => by
    have := (List.getElem?_eq_some_iff.1 hx).1
    rw [g.len] at this
    exact oldO_lt S g this
  have hat : ∀ a x, Reach { c with ins := doneP c.ins p n put } a → h[oldO p n put.length a]? = some x → (newH l c h p n put)[a]? = some x := fun a x hr hx => by
    rw [newH_at (hlt a x hx), if_pos hr, hx]
    rfl
  refine ⟨by simp [newH], hat 0 0 .zero (S.start g), fun a i x hi hx h0 => ?_, fun a x hx => ?_⟩
  · have ha : a < (doneP c.ins p n put).length := (List.getElem?_eq_some_iff.1 hi).1
    rw [newH_at ha] at hx
    split at hx
    · rename_i hr
      obtain ⟨y, hy, h0y⟩ := S.reach g hr
      rw [hy] at hx
      cases hx
      obtain ⟨k1, k2⟩ := S.next g hi hy h0
      refine ⟨k1, fun q hq => ?_⟩
      obtain ⟨q', rfl, hq', _⟩ := k2 q hq
      exact ⟨q', rfl, hat q' _ (.step hr hi hq) hq'⟩
    · cases hx
      omega
  · have ha : a < (doneP c.ins p n put).length := by
      have := (List.getElem?_eq_some_iff.1 hx).1
      simpa [newH] using this
    rw [newH_at ha] at hx
    split at hx
    · rename_i hr
      obtain ⟨y, hy, h0y⟩ := S.reach g hr
      rw [hy] at hx
      cases hx
      exact .inr ⟨h0y, hr⟩
    · cases hx
      exact .inl rfl
theorem mayI_mv {c' : Code} (hc : c'.cells = c.cells) (ha : c'.answers = c.answers) {i : Ins} {n' m' : Nat} (hm : mayI l c i = true) (hj : isJ i → 0 ≤ mvP p n' m' i.n ∧ mvP p n' m' i.n < (c'.ins.length : Nat)) : mayI l c' (mvI p n' m' i) = true := by
  by_cases hji : isJ i
  · have hr := hj hji
    have hop := mayI_op hm
    unfold mayI at hm
    split at hm
    · cases hm
    · rename_i hl
      unfold mvI
      rw [if_pos hji]
      unfold isJ at hji
      have hns : (lineOf i.op (mvP p n' m' i.n) i.m).isNone = false := by
        have hl' : (lineOf i.op i.n i.m).isNone = false := by cases hh : (lineOf i.op i.n i.m).isNone <;> simp_all
        unfold lineOf at hl' ⊢
        have hnum : nums i.op = 1 := by rcases hji with e | e <;> rw [e] <;> decide
        rw [hnum] at hl' ⊢
        split at hl'
        · simp at hl'
        · rw [if_neg ‹_›]
          split at hl'
          · simp at hl'
          · rename_i hh
            rw [if_neg (by rintro (⟨h1, h2⟩ | ⟨h1, h2⟩); omega; exact hh (.inr ⟨by omega, h2⟩))]
            rfl
      unfold mayI
      rw [if_neg (by rw [hns]; simp), if_neg (by simp only; omega), if_neg (by simp only; omega), if_pos hji]
      simp only [Bool.and_eq_true, decide_eq_true_eq]
      exact hr
  · unfold mvI
    rw [if_neg hji]
    unfold isJ at hji
    have h17 : ¬ (i.op = 17 ∨ i.op = 18) := hji
    unfold mayI within at hm ⊢
    rw [hc, ha]
    rw [if_neg h17] at hm ⊢
    exact hm
theorem Step.may (S : Step l c h p n put) (g : Good l c h) (o : OwnOk l c) (first : ∀ a, a < p → ∃ x, h[a]? = some x ∧ 0 ≤ x) : OwnOk l { c with ins := doneP c.ins p n put } := by
  have hb := S.bound
  have hs := S.small
  have hp := S.pos
  have hlen : 1 ≤ (doneP c.ins p n put).length := by
    have := S.start g
    have := (List.getElem?_eq_some_iff.1 this).1
    rw [g.len] at this
    have := oldO_lt S g this
    omega
  have hlen' := S.len
  -- a target that is not in the way
  have rng : ∀ q : Int, 0 ≤ q → q < (c.ins.length : Nat) → (p < (doneP c.ins p n put).length ∨ ¬ ((p : Int) ≤ q ∧ q < (p + n : Nat))) → 0 ≤ mvP p n put.length q ∧ mvP p n put.length q < ((doneP c.ins p n put).length : Nat) := by
    intro q h0 h1 h2
    rw [hlen'] at h2 ⊢
    unfold mvP
    split
    · omega
    · split
      · omega
      · omega
  refine ⟨hlen, by rw [hlen']; have := o.few; omega, o.cells, o.params, fun i hi => ?_⟩
  obtain ⟨a, ha⟩ := List.mem_iff_getElem?.1 hi
  obtain ⟨j, rfl, hj⟩ := doneP_at S ha
  have jr : ∀ {j : Ins}, mayI l c j = true → isJ j → 0 ≤ j.n ∧ j.n < (c.ins.length : Nat) := by
    intro j hm hj
    unfold isJ at hj
    unfold mayI at hm
    split at hm
    · cases hm
    · split at hm
      · omega
      · split at hm
        · omega
        · simpa using hm
  have old : ∀ b, (b < p ∨ p + n ≤ b) → c.ins[b]? = some j → mayI l { c with ins := doneP c.ins p n put } (mvI p n put.length j) = true := by
    intro b hb' hbj
    have hm := o.may j (List.mem_of_getElem? hbj)
    refine mayI_mv (c := c) (c' := { c with ins := doneP c.ins p n put }) rfl rfl hm fun hjj => ?_
    have hr := jr hm hjj
    refine rng _ hr.1 hr.2 ?_
    by_cases hpl : p < (doneP c.ins p n put).length
    · exact .inl hpl
    · refine .inr fun hin => ?_
      rw [hlen'] at hpl
      rcases S.body with ⟨rfl, ⟨rfl, hun⟩ | ⟨x, _, _, hb2⟩⟩ | ⟨x, i, rfl, _⟩
      · have hjn : j.n = p := by omega
        have hbp : b < p := by
          rcases hb' with h | h
          · exact h
          · have := (List.getElem?_eq_some_iff.1 hbj).1
            simp at hpl
            omega
        obtain ⟨x, hx, h0x⟩ := first b hbp
        obtain ⟨_, hd⟩ := g.step b j x hbj hx h0x
        have hnx : ((p : Nat) : Int) ∈ nextI j b := by
          unfold isJ at hjj
          unfold nextI
          rcases hjj with e | e
          · rw [if_pos e, hjn]; simp
          · rw [if_neg (by omega), if_pos e, hjn]; simp
        obtain ⟨q, e, hq⟩ := hd _ hnx
        have := Int.ofNat_inj.1 e
        subst this
        rw [hun] at hq
        have := Option.some.inj hq
        have := (g.step b j x hbj hx h0x).1.1
        have := lv_nonneg l j
        omega
      · have := (List.getElem?_eq_some_iff.1 hb2).1
        rw [g.len] at this
        simp at hpl
        omega
      · simp at hpl
        omega
  rcases hj with ⟨ha', hj⟩ | ⟨ha', hj⟩ | ⟨rfl, rfl⟩
  · exact old a (.inl ha') hj
  · exact old _ (.inr (by omega)) hj
  · rcases S.body with ⟨e, _⟩ | ⟨y, i, e, _, _, _, hm, _⟩
    · cases e
    · cases e
      refine mayI_mv (c := c) (c' := { c with ins := doneP c.ins a n [j] }) rfl rfl hm fun hjj => ?_
      have hr := jr hm hjj
      exact rng _ hr.1 hr.2 (.inl (by rw [hlen']; simp; omega))
theorem wt_mv {len : Nat} (hb : p + n ≤ len) (hs : put.length ≤ n) (hs1 : put.length ≤ 1) (i : Ins) : wt (len - n + put.length) (mvI p n put.length i) ≤ wt len i := by
  unfold wt mvI
  by_cases hj : isJ i
  · have hj' : isJ (⟨i.op, mvP p n put.length i.n, i.m⟩ : Ins) := hj
    rw [if_pos hj, if_pos hj', if_pos hj]
    simp only [mvP]
    split
    · omega
    · split <;> omega
  · rw [if_neg hj, if_neg hj, if_neg hj]
    exact Nat.le_refl _
theorem wsum_mv {len : Nat} (hb : p + n ≤ len) (hs : put.length ≤ n) (hs1 : put.length ≤ 1) (L : List Ins) : wsum (len - n + put.length) (L.map (mvI p n put.length)) ≤ wsum len L := by
  induction L with
  | nil => exact Nat.le_refl _
  | cons i L ih =>
    have := wt_mv hb hs hs1 i
    simp only [wsum, List.map_cons, List.sum_cons] at ih ⊢
    omega
theorem Step.one (S : Step l c h p n put) : put.length ≤ 1 := by
  rcases S.body with ⟨rfl, _⟩ | ⟨y, i, rfl, _⟩ <;> simp
theorem Step.down (S : Step l c h p n put) : wsum (doneP c.ins p n put).length (doneP c.ins p n put) < wsum c.ins.length c.ins := by
  rw [S.len]
  have h1 := wsum_mv S.bound S.small S.one (c.ins.take p)
  have h2 := wsum_mv S.bound S.small S.one (c.ins.drop (p + n))
  have h3 := S.less
  have e : c.ins = c.ins.take p ++ ((c.ins.drop p).take n ++ c.ins.drop (p + n)) := by
    rw [← List.drop_drop, List.take_append_drop, List.take_append_drop]
  conv => rhs; rw [e]
  unfold doneP
  rw [List.map_append, List.map_append, wsum_append, wsum_append, wsum_append, wsum_append]
  have e2 : wsum (c.ins.take p ++ ((c.ins.drop p).take n ++ c.ins.drop (p + n))).length (c.ins.take p) = wsum c.ins.length (c.ins.take p) := by rw [← e]
  have e3 : ∀ X, wsum (c.ins.take p ++ ((c.ins.drop p).take n ++ c.ins.drop (p + n))).length X = wsum c.ins.length X := fun X => by rw [← e]
  rw [e3, e3, e3]
  omega
end
end Go.Proofs.YthiflgncldmkjaaDoor
