/- The operations that leave memory alone, on abstract values. -/
import Derived.Test.YthiflgncldmkjaaDoorRb
import Derived.Laws.Build
import Derived.Laws.Tables
set_option linter.unusedVariables false
set_option linter.unusedSimpArgs false
namespace Go.Ri

theorem info_of {P : Program} {t : TypeId} {d : TypeDesc} (h : P.underlying t = some d) : ∃ i, P.info? t = some i := by
  cases hi : P.info? t with
  | none => simp [Program.underlying, hi] at h
  | some i => exact ⟨i, rfl⟩
theorem run_typeInfo {P : Program} {t : TypeId} {i : TypeInfo} (h : P.info? t = some i) (w : World) : (typeInfo t).run P w = .ok i w := by simp [typeInfo, h]
theorem run_sizeOf {P : Program} {t : TypeId} {i : TypeInfo} (h : P.info? t = some i) (w : World) : (sizeOf t).run P w = .ok i.size w := by simp [sizeOf, typeInfo, h]
theorem cellsOf_of {P : Program} {t : TypeId} {i : TypeInfo} (h : P.info? t = some i) : P.cellsOf t = i.size := by simp [Program.cellsOf, h]
theorem run_size {P : Program} {t : TypeId} {d : TypeDesc} (h : P.underlying t = some d) (w : World) : (sizeOf t).run P w = .ok (P.cellsOf t) w := by
  obtain ⟨i, hi⟩ := info_of h
  rw [run_sizeOf hi, cellsOf_of hi]
theorem run_size' {P : Program} {t : TypeId} (h : (P.info? t).isSome = true) (w : World) : (sizeOf t).run P w = .ok (P.cellsOf t) w := by
  obtain ⟨i, hi⟩ := Option.isSome_iff_exists.1 h
  rw [run_sizeOf hi, cellsOf_of hi]

def aggO (P : Program) (t : TypeId) : Option Bool :=
  match P.underlying t with
  | some (.struct _) => some true
  | some (.array _ _) => some true
  | some _ => some false
  | none => none
theorem run_isAgg {P : Program} {t : TypeId} {b : Bool} (h : aggO P t = some b) (w : World) : (isAgg t).run P w = .ok b w := by
  unfold aggO at h
  cases hd : P.underlying t with
  | none => simp [hd] at h
  | some d =>
    simp only [hd] at h
    cases d <;> simp at h <;> subst h <;> simp [isAgg, run_underlying hd]
theorem aggO_info {P : Program} {t : TypeId} {b : Bool} (h : aggO P t = some b) : (P.info? t).isSome = true := by
  unfold aggO at h
  cases hd : P.underlying t with
  | none => simp [hd] at h
  | some d => obtain ⟨i, hi⟩ := info_of hd; simp [hi]

/-! ### Constants -/
def absC1 : Value → Option AV
  | .bool b => some (.bool b)
  | .int k n => some (.int k n)
  | .string s => some (.str s)
  | .pointer none => some (.ptr none)
  | .slice none n c => if n ≤ c then some (.slice none n (.kn c)) else none
  | .nilFunc => some .nilFunc
  | _ => none
def absL : List Value → Option (List AV)
  | [] => some []
  | v :: vs => (absC1 v).bind fun c => (absL vs).map fun cs => c :: cs
def absC : Value → Option AV
  | .agg cs => (absL cs.toList).map .agg
  | .tuple vs => (absL vs.toList).map .tuple
  | v => absC1 v
theorem absC1_rel {ρ : Ro} {v : Value} {c : AV} (h : absC1 v = some c) : rel ρ c v ∧ c.isOne = true := by
  unfold absC1 at h
  split at h <;> (try split at h) <;> cases h <;> simp_all [rel, AV.isOne, cAddr, cCap]
theorem absL_rel {ρ : Ro} : ∀ {vs : List Value} {cs : List AV}, absL vs = some cs → relL ρ cs vs ∧ cs.all AV.isOne = true
  | [], cs, h => by simp [absL] at h; subst h; simp [relL]
  | v :: vs, cs, h => by
    simp only [absL, Option.bind_eq_some_iff, Option.map_eq_some_iff] at h
    obtain ⟨c, hc, ds, hd, rfl⟩ := h
    have h1 := absC1_rel (ρ := ρ) hc
    have h2 := absL_rel (ρ := ρ) hd
    refine ⟨relL_cons h1.1 h2.1, ?_⟩
    simp only [List.all_cons, h1.2, h2.2, Bool.and_self]
theorem absC_rel {ρ : Ro} {v : Value} {c : AV} (h : absC v = some c) : rel ρ c v := by
  unfold absC at h
  split at h
  · simp only [Option.map_eq_some_iff] at h
    obtain ⟨cs, hc, rfl⟩ := h
    have := absL_rel (ρ := ρ) hc
    exact ⟨this.2, _, this.1, by simp⟩
  · simp only [Option.map_eq_some_iff] at h
    obtain ⟨cs, hc, rfl⟩ := h
    have := absL_rel (ρ := ρ) hc
    exact ⟨_, this.1, by simp⟩
  · exact (absC1_rel h).1

/-! ### Cells of a value -/
def AV.cells : AV → Option (List AV)
  | .agg cs => some cs
  | .tuple _ => none
  | .other v => if v.oneCell' then some [.other v] else none
  | .bool b => some [.bool b]
  | .int k n => some [.int k n]
  | .str s => some [.str s]
  | .ptr a => some [.ptr a]
  | .slice a n c => some [.slice a n c]
  | .empty => some [.empty]
  | .func f cs => some [.func f cs]
  | .nilFunc => some [.nilFunc]
theorem cells_one {v : Value} (h : v.oneCell' = true) : v.cells = #[v] := by cases v <;> simp [Value.oneCell'] at h <;> rfl
theorem cells_rel {ρ : Ro} {c : AV} {v : Value} {cs : List AV} (h : rel ρ c v) (hc : c.cells = some cs) : relL ρ cs v.cells.toList ∧ cs.all AV.isOne = true := by
  have key : c.isOne = true → cs = [c] → relL ρ cs v.cells.toList ∧ cs.all AV.isOne = true := by
    rintro h1 rfl
    rw [cells_one (oneCell_of_isOne h h1)]
    exact ⟨relL_one h, by simp [h1]⟩
  cases c with
  | agg ds =>
    simp only [AV.cells] at hc
    cases hc
    obtain ⟨h1, vs, hv, rfl⟩ := h
    exact ⟨by simpa [Value.cells] using hv, h1⟩
  | tuple vs => simp [AV.cells] at hc
  | other u =>
    simp only [AV.cells] at hc
    split at hc
    · rename_i h1
      cases hc
      exact key h1 rfl
    · cases hc
  | _ => simp only [AV.cells] at hc; cases hc; exact key rfl rfl

/-! ### Loads, fields, elements -/
def ldAgg (v : AV) (n : Nat) (H : AH) : Option AV := match v with
  | .ptr (some p) => (H.ldN p n).map .agg
  | _ => none
def ldOne (v : AV) (H : AH) : Option AV := match v with
  | .ptr (some p) => H.ld p
  | _ => none
def aLoad (P : Program) (t : TypeId) (v : AV) (H : AH) : Option AV := match aggO P t with
  | some true => ldAgg v (P.cellsOf t) H
  | some false => ldOne v H
  | none => none

section
variable {P : Program} {ρ : Ro} {H : AH} {w : World}

theorem rel_ptr {p : Nat × Nat} {v' : Value} (h : rel ρ (.ptr (some p)) v') : ∃ r, ρ p.1 = some r ∧ v' = .pointer (some ⟨r.blk, r.base + p.2, none⟩) := by
  simp only [rel, cAddr, Option.map_eq_some_iff] at h
  obtain ⟨x, ⟨r, hr, rfl⟩, rfl⟩ := h
  exact ⟨r, hr, rfl⟩
theorem rel_ptr_mk {b o : Nat} {r : RB} (hr : ρ b = some r) : rel ρ (.ptr (some (b, o))) (.pointer (some ⟨r.blk, r.base + o, none⟩)) := by
  simp only [rel, cAddr, Option.map_eq_some_iff]
  exact ⟨_, ⟨r, hr, rfl⟩, rfl⟩

theorem aLoad_sound (h : Sim P ρ H w) {t : TypeId} {v c : AV} {v' : Value} (hv : rel ρ v v') (hl : aLoad P t v H = some c) :
    ∃ c', (Instr.loadAt t v').run P w = .ok c' w ∧ rel ρ c c' := by
  unfold aLoad at hl
  split at hl
  · rename_i ha
    unfold ldAgg at hl
    split at hl
    · rename_i p
      obtain ⟨r, hr, rfl⟩ := rel_ptr hv
      simp only [Option.map_eq_some_iff] at hl
      obtain ⟨cs, hcs, rfl⟩ := hl
      obtain ⟨r', vs, hr', hvs, _, h1, hrun⟩ := run_loadN h hcs
      rw [hr] at hr'
      cases hr'
      exact ⟨.agg vs.toArray, by simp [Instr.loadAt, Instr.sureAddr, loadVar, run_isAgg ha, run_size' (aggO_info ha), hrun], h1, vs, hvs, rfl⟩
    · cases hl
  · rename_i ha
    unfold ldOne at hl
    split at hl
    · rename_i p
      obtain ⟨r, hr, rfl⟩ := rel_ptr hv
      obtain ⟨r', u, hr', hc, hcell, _⟩ := ld_sound h hl
      rw [hr] at hr'
      cases hr'
      exact ⟨u, by simp [Instr.loadAt, Instr.sureAddr, loadVar, run_isAgg ha, hcell], hc⟩
    · cases hl
  · cases hl

def ptrAdd (v : AV) (n : Nat) : Option AV := match v with
  | .ptr (some (b, o)) => some (.ptr (some (b, o + n)))
  | _ => none
def aFieldAddr (P : Program) (s : TypeId) (f : Nat) (v : AV) : Option AV := match P.underlying s with
  | some (.struct fs) => match fs[f]? with
    | some fd => if (P.info? fd.type).isSome = true ∧ P.cellsOf fd.type ≠ 0 then ptrAdd v fd.offset else none
    | none => none
  | _ => none
theorem ptrAdd_sound {v c : AV} {v' : Value} {n : Nat} (hv : rel ρ v v') (h : ptrAdd v n = some c) : ∃ a : Addr, v' = .pointer (some a) ∧ rel ρ c (.pointer (some (a.add n))) := by
  unfold ptrAdd at h
  split at h
  · rename_i b o
    cases h
    obtain ⟨r, hr, rfl⟩ := rel_ptr hv
    refine ⟨_, rfl, ?_⟩
    rw [add_at]
    have := rel_ptr_mk (o := o + n) hr
    simpa [Nat.add_assoc] using this
  · cases h
theorem aFieldAddr_sound {s : TypeId} {f : Nat} {v c : AV} {v' : Value} (hv : rel ρ v v') (h : aFieldAddr P s f v = some c) :
    ∃ c', (Instr.fieldAt s v' f).run P w = .ok c' w ∧ rel ρ c c' := by
  unfold aFieldAddr at h
  split at h
  · rename_i fs hs
    split at h
    · rename_i fd hf
      split at h
      · rename_i hi
        obtain ⟨a, rfl, hc⟩ := ptrAdd_sound hv h
        exact ⟨_, by simp [Instr.fieldAt, run_underlying hs, hf, Instr.sureAddr, fieldPlace, run_size' hi.1, hi.2], hc⟩
      · cases h
    · cases h
  · cases h

def aPart (P : Program) (t : TypeId) (cs : List AV) (off : Nat) : Option AV := match aggO P t with
  | some true => if off + P.cellsOf t ≤ cs.length then some (.agg ((cs.drop off).take (P.cellsOf t))) else none
  | some false => cs[off]?
  | none => none
theorem aPart_sound {t : TypeId} {cs : List AV} {vs : List Value} {off : Nat} {c : AV} (hv : relL ρ cs vs) (h1 : cs.all AV.isOne = true) (h : aPart P t cs off = some c) :
    ∃ c', (part t vs.toArray off).run P w = .ok c' w ∧ rel ρ c c' := by
  unfold aPart at h
  split at h
  · rename_i ha
    split at h
    · rename_i hle
      cases h
      refine ⟨.agg ((vs.drop off).take (P.cellsOf t)).toArray, ?_, ?_, _, relL_take _ (relL_drop _ hv), rfl⟩
      · simp only [part, Sem.run_bind, run_isAgg ha, Result.andThen_ok, if_true, run_size' (aggO_info ha), Sem.run_pure]
        congr 2
        apply Array.ext'
        simp [List.take_drop]
      · rw [List.all_eq_true] at h1 ⊢
        exact fun c hc => h1 c (List.mem_of_mem_drop (List.mem_of_mem_take hc))
    · cases h
  · rename_i ha
    obtain ⟨v, hv, hi⟩ := relL_get hv off c h
    exact ⟨v, by simp [part, run_isAgg ha, hi], hv⟩
  · cases h

def aField (P : Program) (t : TypeId) (f : Nat) (v : AV) : Option AV := match P.underlying t with
  | some (.struct fs) => match fs[f]? with
    | some fd => (match v with | .agg cs => aPart P fd.type cs fd.offset | _ => none)
    | none => none
  | _ => none
theorem aField_sound {t : TypeId} {f : Nat} {v c : AV} {v' : Value} (hv : rel ρ v v') (h : aField P t f v = some c) :
    ∃ c', (Instr.field t v' f).run P w = .ok c' w ∧ rel ρ c c' := by
  unfold aField at h
  split at h
  · rename_i fs hs
    split at h
    · rename_i fd hf
      split at h
      · rename_i cs
        obtain ⟨h1, vs, hvs, rfl⟩ := hv
        obtain ⟨c', hrun, hc⟩ := aPart_sound (P := P) (w := w) hvs h1 h
        exact ⟨c', by simp [Instr.field, run_underlying hs, hf, asAgg, hrun], hc⟩
      · cases h
    · cases h
  · cases h

def idxPtr (v i : AV) (len sz : Nat) : Option AV := match i with
  | .int _ n => if 0 ≤ n ∧ n < (len : Int) then ptrAdd v (n.toNat * sz) else none
  | _ => none
def idxSl (v i : AV) (sz : Nat) : Option AV := match v with
  | .slice (some (b, o)) len _ => (match i with
    | .int _ n => if 0 ≤ n ∧ n < (len : Int) then some (.ptr (some (b, o + n.toNat * sz))) else none
    | _ => none)
  | _ => none
def aIndexAddr (P : Program) (t : TypeId) (v i : AV) : Option AV := match P.underlying t with
  | some (.array len e) => if (P.info? e).isSome = true then idxPtr v i len (P.cellsOf e) else none
  | some (.slice e) => if (P.info? e).isSome = true then idxSl v i (P.cellsOf e) else none
  | _ => none
theorem aIndexAddr_sound {t : TypeId} {v i c : AV} {v' i' : Value} (hv : rel ρ v v') (hi : rel ρ i i') (h : aIndexAddr P t v i = some c) :
    ∃ c', (Instr.indexAt t v' i').run P w = .ok c' w ∧ rel ρ c c' := by
  unfold aIndexAddr at h
  split at h
  · rename_i len e hs
    split at h
    · rename_i hinf
      unfold idxPtr at h
      split at h
      · rename_i k n
        split at h
        · rename_i hn
          obtain ⟨a, rfl, hc⟩ := ptrAdd_sound hv h
          simp only [rel] at hi
          subst hi
          exact ⟨_, by simp [Instr.indexAt, asIntOf, run_underlying hs, Instr.sureAddr, hn, run_size' hinf], hc⟩
        · cases h
      · cases h
    · cases h
  · rename_i e hs
    split at h
    · rename_i hinf
      unfold idxSl at h
      split at h
      · rename_i b o len cap
        split at h
        · rename_i k n
          split at h
          · rename_i hn
            cases h
            simp only [rel, cAddr, Option.map_eq_some_iff] at hi hv
            subst hi
            obtain ⟨x, y, ⟨r, hr, rfl⟩, hy, _, rfl⟩ := hv
            refine ⟨.pointer (some ⟨r.blk, r.base + (o + n.toNat * P.cellsOf e), none⟩), ?_, rel_ptr_mk hr⟩
            simp [Instr.indexAt, asIntOf, run_underlying hs, hn, run_size' hinf, add_at, Nat.add_assoc]
          · cases h
        · cases h
      · cases h
    · cases h
  · cases h

def idxStr (v i : AV) : Option AV := match v, i with
  | .str s, .int _ n => if 0 ≤ n then (s[n.toNat]?).map fun b => .int .u8 b.toNat else none
  | _, _ => none
def idxAgg (P : Program) (e : TypeId) (len sz : Nat) (v i : AV) : Option AV := match v, i with
  | .agg cs, .int _ n => if 0 ≤ n ∧ n < (len : Int) then aPart P e cs (n.toNat * sz) else none
  | _, _ => none
def aIndex (P : Program) (t : TypeId) (v i : AV) : Option AV := match P.underlying t with
  | some (.array len e) => if (P.info? e).isSome = true then idxAgg P e len (P.cellsOf e) v i else none
  | some .string => idxStr v i
  | _ => none
theorem aIndex_sound {t : TypeId} {v i c : AV} {v' i' : Value} (hv : rel ρ v v') (hi : rel ρ i i') (h : aIndex P t v i = some c) :
    ∃ c', (Instr.index t v' i').run P w = .ok c' w ∧ rel ρ c c' := by
  unfold aIndex at h
  split at h
  · rename_i len e hs
    split at h
    · rename_i hinf
      unfold idxAgg at h
      split at h
      · rename_i cs k n
        split at h
        · rename_i hn
          simp only [rel] at hi
          subst hi
          obtain ⟨h1, vs, hvs, rfl⟩ := hv
          obtain ⟨c', hrun, hc⟩ := aPart_sound (P := P) (w := w) hvs h1 h
          exact ⟨c', by simp [Instr.index, asIntOf, run_underlying hs, hn, run_size' hinf, hrun], hc⟩
        · cases h
      · cases h
    · cases h
  · rename_i hs
    unfold idxStr at h
    split at h
    · rename_i s k n
      split at h
      · rename_i hn
        simp only [Option.map_eq_some_iff] at h
        obtain ⟨b, hb, rfl⟩ := h
        simp only [rel] at hi hv
        subst hi hv
        exact ⟨.int .u8 b.toNat, by simp [Instr.index, asIntOf, run_underlying hs, hn, hb], by simp [rel]⟩
      · cases h
    · cases h
  · cases h

def aExtract (v : AV) (i : Nat) : Option AV := match v with
  | .tuple vs => vs[i]?
  | _ => none
theorem aExtract_sound {v c : AV} {v' : Value} {i : Nat} (hv : rel ρ v v') (h : aExtract v i = some c) : ∃ c', (Instr.extract v' i).run P w = .ok c' w ∧ rel ρ c c' := by
  unfold aExtract at h
  split at h
  · obtain ⟨vs, hvs, rfl⟩ := hv
    obtain ⟨u, hu, hi⟩ := relL_get hvs i c h
    exact ⟨u, by simp [Instr.extract, hi], hu⟩
  · cases h

/-! ### Operators -/
def aBinI (op : BinOp) (k : IntKind) (a b : Int) : Option AV := match op with
  | .add => some (.int k (k.wrap (a + b)))
  | .sub => some (.int k (k.wrap (a - b)))
  | .mul => some (.int k (k.wrap (a * b)))
  | .quo => if b = 0 then none else some (.int k (k.wrap (a.tdiv b)))
  | .rem => if b = 0 then none else some (.int k (a.tmod b))
  | .eql => some (.bool (a == b))
  | .neq => some (.bool (a != b))
  | .lss => some (.bool (decide (a < b)))
  | .leq => some (.bool (decide (a ≤ b)))
  | .gtr => some (.bool (decide (a > b)))
  | .geq => some (.bool (decide (a ≥ b)))
  | .and => some (.int k (bits .and k a b))
  | .or => some (.int k (bits .or k a b))
  | .xor => some (.int k (bits .xor k a b))
  | .andNot => some (.int k (bits .andNot k a b))
  | _ => none
def aShift (op : BinOp) (k : IntKind) (x y : Int) : Option AV := if y < 0 then none else match op with
  | .shl => some (.int k (k.wrap (x * 2 ^ (min y.toNat k.bits))))
  | .shr => some (.int k (x.fdiv (2 ^ (min y.toNat k.bits))))
  | _ => none
def aBinS (op : BinOp) (x y : ByteArray) : Option AV := match op with
  | .add => if ((x.size + y.size : Nat) : Int) ≤ 9223372036854775807 then some (.str (x ++ y)) else none
  | .eql => some (.bool (x.toList == y.toList))
  | .neq => some (.bool (!(x.toList == y.toList)))
  | .lss => some (.bool (Op.bytesLess x.toList y.toList))
  | .leq => some (.bool (Op.bytesLess x.toList y.toList || x.toList == y.toList))
  | .gtr => some (.bool (!(Op.bytesLess x.toList y.toList || x.toList == y.toList)))
  | .geq => some (.bool (!(Op.bytesLess x.toList y.toList)))
  | _ => none
def eqT (P : Program) (t : TypeId) (a b : AV) : Option Bool := match P.underlying t with
  | some (.int _) => (match a, b with | .int k x, .int k' y => if k = k' then some (x == y) else none | _, _ => none)
  | some .bool => (match a, b with | .bool x, .bool y => some (x == y) | _, _ => none)
  | some .string => (match a, b with | .str x, .str y => some (x.toList == y.toList) | _, _ => none)
  | _ => none
def eqFs (P : Program) : List Field → List AV → List AV → Option Bool
  | [], [], [] => some true
  | f :: fs, a :: as, b :: bs => (eqT P f.type a b).bind fun e => (eqFs P fs as bs).map fun r => e && r
  | _, _, _ => none
def flatField (i : Nat) (f : Field) : Bool :=
  f.offset == i && f.name != "_"
def flatFields : Nat → List Field → Bool
  | _, [] => true
  | i, f :: fs => flatField i f && flatFields (i + 1) fs
def flatS (P : Program) (t : TypeId) (fs : Array Field) : Bool := flatFields 0 fs.toList && !(P.stoodInHeld t) && !(P.eqGuardType P.depth t)
def aEq (P : Program) (t : TypeId) (a b : AV) : Option Bool := match P.underlying t with
  | some .bool => (match a, b with | .bool x, .bool y => some (x == y) | _, _ => none)
  | some (.pointer _) => (match a, b with
    | .ptr none, .ptr y => some y.isNone
    | .ptr (some _), .ptr none => some false
    | _, _ => none)
  | some (.slice _) => (match a, b with
    | .slice none _ _, .slice y _ _ => some y.isNone
    | .slice (some _) _ _, .slice none _ _ => some false
    | .slice none _ _, .empty => some false
    | .empty, .slice none _ _ => some false
    | _, _ => none)
  | some (.struct fs) => (match a, b with
    | .agg xs, .agg ys => if flatS P t fs then eqFs P fs.toList xs ys else none
    | _, _ => none)
  | _ => none
def aBin (P : Program) (op : BinOp) (t : TypeId) (a b : AV) : Option AV := match a, b with
  | .int k x, .int k' y => (match op with
    | .shl => aShift .shl k x y
    | .shr => aShift .shr k x y
    | op => if k = k' then aBinI op k x y else none)
  | .str x, .str y => aBinS op x y
  | a, b => (match op with
    | .eql => (aEq P t a b).map .bool
    | .neq => (aEq P t a b).map fun e => .bool (!e)
    | _ => none)
end
end Go.Ri
