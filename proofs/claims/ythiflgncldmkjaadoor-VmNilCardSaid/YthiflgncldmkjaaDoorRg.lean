/- Stores, append, copy, clear. -/
import Derived.Test.YthiflgncldmkjaaDoorRf
import Derived.Laws.AppendOwn
set_option linter.unusedVariables false
set_option linter.unusedSimpArgs false
namespace Go.Ri
section
variable {P : Program} {ρ : Ro} {H : AH} {w : World}

/-- Cells written at a pointer or a row's begin; none: nothing is asked of the place. -/
def stAt (p : Nat × Nat) (cs : List AV) (H : AH) : Option AH := match cs with
  | [] => some H
  | c :: cs => H.st p (c :: cs)
theorem stAt_sound (h : Sim P ρ H w) {b o : Nat} {cs : List AV} {H' : AH} {r : RB} (hr : ρ b = some r) (hc : stAt (b, o) cs H = some H') {us : List Value} (hu : relL ρ cs us) (h1 : cs.all AV.isOne = true) :
    ∃ w', (storeCells ⟨r.blk, r.base + o, none⟩ us).run P w = .ok () w' ∧ Out P ρ H w ρ H' w' := by
  cases cs with
  | nil =>
    cases hc
    simp only [relL] at hu
    subst hu
    exact ⟨w, rfl, .refl h⟩
  | cons c cs =>
    obtain ⟨r', w', hr', hrun, ho⟩ := st_sound h hc hu h1
    rw [hr] at hr'
    cases hr'
    exact ⟨w', hrun, ho⟩

def stV (v : AV) (cs : List AV) (H : AH) : Option AH := match v with
  | .ptr (some p) => H.st p cs
  | _ => none
def aStore (P : Program) (t : TypeId) (v x : AV) (H : AH) : Option AH :=
  if (P.info? t).isSome = true then x.cells.bind fun cs => if cs.length = P.cellsOf t then stV v cs H else none else none
theorem aStore_sound (h : Sim P ρ H w) {t : TypeId} {v x : AV} {v' x' : Value} {H' : AH} (hv : rel ρ v v') (hx : rel ρ x x') (hc : aStore P t v x H = some H') :
    ∃ w', (Instr.storeAt t v' x').run P w = .ok () w' ∧ Out P ρ H w ρ H' w' := by
  unfold aStore at hc
  split at hc
  · rename_i hinf
    simp only [Option.bind_eq_some_iff] at hc
    obtain ⟨cs, hcs, hc⟩ := hc
    split at hc
    · rename_i hl
      unfold stV at hc
      split at hc
      · rename_i p
        obtain ⟨b, o⟩ := p
        obtain ⟨r, hr, rfl⟩ := rel_ptr hv
        obtain ⟨hcr, h1⟩ := cells_rel hx hcs
        obtain ⟨r', w', hr', hrun, ho⟩ := st_sound h hc hcr h1
        rw [hr] at hr'
        cases hr'
        have hsz : x'.cells.size = P.cellsOf t := by
          have := relL_length hcr
          simp only [Array.length_toList] at this
          omega
        exact ⟨w', by simp [Instr.storeAt, Instr.sureAddr, storeVar, run_size' hinf, hsz, hrun], ho⟩
      · cases hc
    · cases hc
  · cases hc

def aLenOf (v : AV) : Option Nat := match v with
  | .slice _ n _ => some n
  | .empty => some 0
  | .str s => some s.size
  | _ => none
theorem aLenOf_sound {v : AV} {v' : Value} {n : Nat} (hv : rel ρ v v') (h : aLenOf v = some n) : (Builtin.lenOf v').run P w = .ok n w := by
  unfold aLenOf at h
  split at h
  · obtain ⟨_, _, _, _, _, rfl⟩ := hv; cases h; rfl
  · obtain ⟨_, _, rfl⟩ := hv; cases h; rfl
  · simp only [rel] at hv; subst hv; cases h; rfl
  · cases h

def strCells (s : ByteArray) : List AV := s.data.toList.map fun b => .int .u8 b.toNat
/-- The first cells of a slice or a string. -/
def srcN (sz n : Nat) (v : AV) (H : AH) : Option (List AV) := match n with
  | 0 => some []
  | n + 1 => match v with
    | .slice (some p) _ _ => H.ldN p ((n + 1) * sz)
    | .str s => if n + 1 = s.size ∧ sz = 1 then some (strCells s) else none
    | _ => none
theorem strCells_rel (s : ByteArray) : relL ρ (strCells s) (s.data.map fun b => Value.int .u8 b.toNat).toList ∧ (strCells s).all AV.isOne = true := by
  have key : ∀ l : List UInt8, relL ρ (l.map fun b => AV.int .u8 b.toNat) (l.map fun b => Value.int .u8 b.toNat) ∧ (l.map fun b => AV.int .u8 b.toNat).all AV.isOne = true := by
    intro l
    induction l with
    | nil => simp [relL]
    | cons b l ih =>
      refine ⟨relL_cons (by simp [rel]) ih.1, ?_⟩
      simp only [List.map_cons, List.all_cons, ih.2, Bool.and_true]
      rfl
  simpa [strCells] using key s.data.toList

theorem srcN_sound (h : Sim P ρ H w) {sz n : Nat} {v : AV} {v' : Value} {cs : List AV} (hv : rel ρ v v') (hn : ∃ m, aLenOf v = some m) (hc : srcN sz n v H = some cs) :
    ∃ us : Array Value, relL ρ cs us.toList ∧ cs.all AV.isOne = true ∧ cs.length = n * sz ∧ (∀ k, (Builtin.firstCells sz n v').run P { w with drawn := k } = .ok us { w with drawn := k }) := by
  cases n with
  | zero =>
    cases hc
    refine ⟨#[], by simp [relL], rfl, by simp, fun k => ?_⟩
    obtain ⟨m, hm⟩ := hn
    unfold aLenOf at hm
    split at hm
    · obtain ⟨x, _, _, _, _, rfl⟩ := hv
      cases x <;> simp [Builtin.firstCells, loadCells, loadCellsFrom]
    · obtain ⟨x, _, rfl⟩ := hv
      simp [Builtin.firstCells, loadCells, loadCellsFrom]
    · simp only [rel] at hv; subst hv
      simp [Builtin.firstCells]
    · cases hm
  | succ n =>
    unfold srcN at hc
    simp only at hc
    split at hc
    · rename_i p len cap
      obtain ⟨b, o⟩ := p
      obtain ⟨r, vs, hr, hvs, hn', hcl, h1, hcell⟩ := ldN_sound h hc
      simp only [rel, cAddr, Option.map_eq_some_iff] at hv
      obtain ⟨x, y, ⟨r', hr', rfl⟩, hy, hle, rfl⟩ := hv
      rw [hr] at hr'
      cases hr'
      refine ⟨vs.toArray, hvs, h1, hcl, fun k => ?_⟩
      have := run_loadCells_list (P := P) { w with drawn := k } ⟨r.blk, r.base + o, none⟩ vs (fun j v hj => hcell j v hj)
      rw [hn'] at this
      simpa [Builtin.firstCells] using this
    · rename_i s
      split at hc
      · rename_i hs
        obtain ⟨hs, rfl⟩ := hs
        cases hc
        simp only [rel] at hv
        subst hv
        refine ⟨s.data.map fun b => Value.int .u8 b.toNat, (strCells_rel s).1, (strCells_rel (ρ := ρ) s).2, ?_, fun k => ?_⟩
        · simp only [strCells, List.length_map, Array.length_toList, Nat.mul_one]
          exact hs.symm
        · rw [hs]
          have : (s.extract 0 s.size).data = s.data := by simp [ByteArray.data_extract]
          simp [Builtin.firstCells, this]
      · cases hc
    · cases hc

theorem run_append_fit {st xt ty e : TypeId} {i : TypeInfo} {dx : TypeDesc} {base : Option Addr} {sLen sCap n : Nat} {x' : Value} {us : Array Value} {w' : World} (ht : P.underlying st = some (.slice e)) (hx : P.underlying xt = some dx)
    (hdx : ∀ k, dx ≠ .int k) (hi : P.info? e = some i) (hl : (Builtin.lenOf x').run P w = .ok n w) (hf : (Builtin.firstCells i.size n x').run P w = .ok us w) (hfit : sLen + n ≤ sCap)
    (hst : (match base with | some a => storeCells (a.add (sLen * i.size)) us.toList | none => pure () : Sem Unit).run P w = .ok () w') :
    (Builtin.append_ #[st, xt] ty #[.slice base sLen sCap, x']).run P w = .ok (.slice base (sLen + n) sCap) w' := by
  have hz : (dx matches .int _) = false := by
    cases dx <;> first | rfl | (exact absurd rfl (hdx _))
  cases base with
  | none =>
    simp only [Sem.run_pure] at hst
    cases hst
    simp [Builtin.append_, run_underlying ht, run_underlying hx, sizeOf, typeInfo, hi, hl, hf, hfit, hz]
  | some a =>
    simp [Builtin.append_, run_underlying ht, run_underlying hx, sizeOf, typeInfo, hi, hl, hf, hfit, hz, hst]

theorem run_append_more {st xt ty e : TypeId} {i : TypeInfo} {z : Value} {dx : TypeDesc} {base : Option Addr} {sLen sCap n : Nat} {x' : Value} {us os : Array Value} (ht : P.underlying st = some (.slice e)) (hx : P.underlying xt = some dx)
    (hdx : ∀ k, dx ≠ .int k) (hi : P.info? e = some i) (hz : i.zero = some z) (hl : (Builtin.lenOf x').run P w = .ok n w) (hf : ∀ k, (Builtin.firstCells i.size n x').run P { w with drawn := k } = .ok us { w with drawn := k })
    (ho : ∀ k, (Builtin.firstCells i.size sLen (.slice base sLen sCap)).run P { w with drawn := k } = .ok os { w with drawn := k }) (hg : sCap < sLen + n) (hb : (sLen + n) * i.bytes ≤ 140737488355328) (h63 : sLen + n ≤ 9223372036854775807) :
    ∃ cap more, sLen + n ≤ cap ∧ more = Builtin.zeroCells z.cells (cap - (sLen + n)) ∧ (Builtin.append_ #[st, xt] ty #[.slice base sLen sCap, x']).run P w =
      .ok (.slice (some ⟨w.heap.size, 0, none⟩) (sLen + n) cap) (World.alloc { w with drawn := w.drawn + 1 } (.cells (os ++ us ++ more) e)) := by
  have hzz : (dx matches .int _) = false := by
    cases dx <;> first | rfl | (exact absurd rfl (hdx _))
  have hn : ¬ (sLen + n ≤ sCap) := by omega
  have h63' : ¬ (9223372036854775807 < ((sLen : Int) + (n : Int))) := by omega
  have hfits := growslice_fits (bytes := i.bytes) hg hb
  have h48' : ¬ (281474976710656 < Builtin.nextslicecap (sLen + n) sCap * i.bytes) := by omega
  refine ⟨grownCap w (sLen + n) sCap e, _, grownCap_ge w _ _ _, rfl, ?_⟩
  have hf' := hf (w.drawn + 1)
  have ho' := ho (w.drawn + 1)
  simp only [World.drew_eq] at hf' ho'
  simp [Builtin.append_, run_underlying ht, run_underlying hx, sizeOf, typeInfo, zeroValue, hi, hz, hl, hf', ho', hn, hzz, h63', h48', Question.forced, newRow, grownCap]

/-- The old cells of a slice that grows. -/
def oldN (sz n : Nat) (p : Option (Nat × Nat)) (H : AH) : Option (List AV) := match n, p with
  | 0, _ => some []
  | n + 1, some p => H.ldN p ((n + 1) * sz)
  | _, none => none
theorem oldN_sound (h : Sim P ρ H w) {sz n c : Nat} {p : Option (Nat × Nat)} {x : Option Addr} {cs : List AV} (hx : cAddr ρ p = some x) (hc : oldN sz n p H = some cs) :
    ∃ us : Array Value, relL ρ cs us.toList ∧ cs.all AV.isOne = true ∧ cs.length = n * sz ∧ (∀ k, (Builtin.firstCells sz n (.slice x n c)).run P { w with drawn := k } = .ok us { w with drawn := k }) := by
  unfold oldN at hc
  split at hc
  · cases hc
    refine ⟨#[], by simp [relL], rfl, by simp, fun k => ?_⟩
    cases x <;> simp [Builtin.firstCells, loadCells, loadCellsFrom]
  · rename_i n q
    obtain ⟨b, o⟩ := q
    obtain ⟨r, vs, hr, hvs, hn', hcl, h1, hcell⟩ := ldN_sound h hc
    simp only [cAddr, Option.map_eq_some_iff] at hx
    obtain ⟨r', hr', rfl⟩ := hx
    rw [hr] at hr'
    cases hr'
    refine ⟨vs.toArray, hvs, h1, hcl, fun k => ?_⟩
    have := run_loadCells_list (P := P) { w with drawn := k } ⟨r.blk, r.base + o, none⟩ vs (fun j v hj => hcell j v hj)
    rw [hn'] at this
    simpa [Builtin.firstCells] using this
  · cases hc

def grow (sz bytes : Nat) (e : TypeId) (olds news : List AV) (need : Nat) (H : AH) : Option (AV × AH) :=
  if need * bytes ≤ 140737488355328 ∧ need ≤ 9223372036854775807 then some (.slice (some (H.next, 0)) need (.op sz), H.new (olds ++ news) e) else none

theorem zeroCells_size (z : Array Value) (n : Nat) : (Builtin.zeroCells z n).size = n * z.size := by simp [Builtin.zeroCells]

/-- The arm in which a new array is made. -/
theorem grow_sound (h : Sim P ρ H w) {H0 : AH} (hk : ∀ b B, H0.m b = some B → H.m b = some B) (hn : H0.next = H.next) {st xt ty e : TypeId} {i : TypeInfo} {z : Value} {dx : TypeDesc} {base : Option Addr} {sLen sCap n sz : Nat} {x' : Value} {us os : Array Value} {news olds : List AV} {v : AV} {H' : AH}
    (ht : P.underlying st = some (.slice e)) (hx : P.underlying xt = some dx) (hdx : ∀ k, dx ≠ .int k) (hi : P.info? e = some i) (hz : i.zero = some z) (hsz : i.size = sz) (hzs : z.cells.size = sz) (hpos : 0 < sz)
    (hl : (Builtin.lenOf x').run P w = .ok n w) (hf : ∀ k, (Builtin.firstCells i.size n x').run P { w with drawn := k } = .ok us { w with drawn := k })
    (ho : ∀ k, (Builtin.firstCells i.size sLen (.slice base sLen sCap)).run P { w with drawn := k } = .ok os { w with drawn := k }) (hg : sCap < sLen + n)
    (hus : relL ρ news us.toList) (hos : relL ρ olds os.toList) (h1 : news.all AV.isOne = true) (h2 : olds.all AV.isOne = true) (hnl : news.length = n * sz) (hol : olds.length = sLen * sz)
    (hc : grow sz i.bytes e olds news (sLen + n) H0 = some (v, H')) :
    ∃ ρ' v' w', (Builtin.append_ #[st, xt] ty #[.slice base sLen sCap, x']).run P w = .ok v' w' ∧ rel ρ' v v' ∧ Out P ρ H w ρ' H' w' := by
  unfold grow at hc
  split at hc
  · rename_i hb
    obtain ⟨hb, h63⟩ := hb
    cases hc
    obtain ⟨cap, more, hcap, hmore, hrun⟩ := run_append_more (P := P) (w := w) ht hx hdx hi hz hl hf ho hg hb h63 (ty := ty)
    have h0 : Sim P ρ H0 w := h.sub hn hk
    have hd := h0.drew (w.drawn + 1)
    have hrel : relL ρ (olds ++ news) (os ++ us).toList := by rw [Array.toList_append]; exact relL_append hos hus
    have hall : (olds ++ news).all AV.isOne = true := by rw [List.all_append, h1, h2]; rfl
    obtain ⟨ρ', hρ, hout⟩ : ∃ ρ', ρ' H0.next = some ⟨w.heap.size, 0, ((os ++ us).toList ++ more.toList).length⟩ ∧ Out P ρ H0 { w with drawn := w.drawn + 1 } ρ' (H0.new (olds ++ news) e) (World.alloc { w with drawn := w.drawn + 1 } (.cells ((os ++ us).toList ++ more.toList).toArray e)) :=
      ⟨_, by simp, new_sound (elem := e) (more := more.toList) hd hrel hall⟩
    have hout2 : Out P ρ H w ρ' (H0.new (olds ++ news) e) (World.alloc { w with drawn := w.drawn + 1 } (.cells (os ++ us ++ more) e)) := by
      have e1 : ((os ++ us).toList ++ more.toList).toArray = os ++ us ++ more := by apply Array.ext'; simp
      rw [e1] at hout
      have hsub : Out P ρ H w ρ H0 { w with drawn := w.drawn + 1 } :=
        ⟨fun _ _ => rfl, Nat.le_of_eq hn.symm, hd, rfl, rfl, rfl, Nat.le_refl _, fun _ _ _ => rfl, fun b B r hb hρ _ => ⟨b, B, r, hk b B hb, hρ, rfl, id⟩⟩
      exact hsub.trans hout
    refine ⟨ρ', _, _, hrun, ?_, hout2⟩
    have hlen1 := relL_length hrel
    have hlim : ((os ++ us).toList ++ more.toList).length = cap * sz := by
      rw [List.length_append, hlen1, List.length_append, hnl, hol, hmore, Array.length_toList, zeroCells_size, hzs, ← Nat.add_mul, ← Nat.add_mul]
      congr 1
      omega
    refine ⟨some ⟨w.heap.size, 0, none⟩, cap, ?_, ?_, hcap, rfl⟩
    · simp only [cAddr, hρ]
      rfl
    · simp only [cCap, hρ, Option.map_some, hlim, Nat.sub_zero, Option.some.injEq]
      exact Nat.mul_div_cancel _ hpos
  · cases hc

def seqT (P : Program) (t : TypeId) : Bool := match P.underlying t with
  | some (.slice _) => true
  | some .string => true
  | _ => false
theorem seqT_spec {t : TypeId} (h : seqT P t = true) : ∃ d, P.underlying t = some d ∧ ∀ k, d ≠ .int k := by
  unfold seqT at h
  split at h
  · rename_i hu; exact ⟨_, hu, fun k => by simp⟩
  · rename_i hu; exact ⟨_, hu, fun k => by simp⟩
  · cases h

def isSl : AV → Bool
  | .slice _ _ _ => true
  | .empty => true
  | _ => false
/-- The arm in which what is appended goes behind the old cells: the block is then known under a new id. -/
theorem inplace_sound (h : Sim P ρ H w) {b o len n sz y : Nat} {B : Blk} {r : RB} {e : TypeId} {us : List Value} {news olds : List AV} (hB : H.m b = some B) (hr : ρ b = some r) (hrw : B.rw_ = true) (hel : B.elem = e)
    (hy : y = (r.lim - o) / sz) (hpos : 0 < sz) (hn : 0 < n) (hfit : len + n ≤ y) (hold : oldN sz len (some (b, o)) H = some olds) (hus : relL ρ news us) (h1 : news.all AV.isOne = true) (h2 : olds.all AV.isOne = true) (hul : us.length = n * sz) :
    ∃ ρ' w', (storeCells ⟨r.blk, r.base + o + len * sz, none⟩ us).run P w = .ok () w' ∧ rel ρ' (.slice (some (H.next, 0)) (len + n) (.op sz)) (.slice (some ⟨r.blk, r.base + o, none⟩) (len + n) y) ∧
      Out P ρ H w ρ' ((H.kill b).new (olds ++ news) e) w' := by
  obtain ⟨r0, cs, fr, vs, hr0, hw, hs, hf, hv, hvl, hcs, hall⟩ := h.blk b B hB
  rw [hr] at hr0
  cases hr0
  have hfr := hf hrw
  subst hfr
  subst hel
  have hroom : (len + n) * sz ≤ r.lim - o := by
    have := Nat.div_mul_le_self (r.lim - o) sz
    rw [← hy] at this
    exact Nat.le_trans (Nat.mul_le_mul_right _ hfit) this
  have hexp : (len + n) * sz = len * sz + n * sz := Nat.add_mul _ _ _
  have hp2 : 0 < n * sz := Nat.mul_pos hn hpos
  have hone : ∀ v ∈ us, v.oneCell' = true := fun v hvm => by
    obtain ⟨c, hc, hcv⟩ := relL_mem hus hvm
    exact oneCell_of_isOne hcv (List.all_eq_true.1 h1 c hc)
  have hrun := run_storeCells_at P r.blk (r.base + o + len * sz) B.elem us 0 cs w hw (by omega) hone
  have hlt : r.blk < w.heap.size := (Array.getElem?_eq_some_iff.1 hw).1
  have hself := setRow_heap w r.blk cs (cs.toList.take (r.base + o + len * sz + 0) ++ us ++ cs.toList.drop (r.base + o + len * sz + 0 + us.length)).toArray B.elem (0, 0) hw
  have hbl := relL_length hv
  -- the old cells
  have holds : relL ρ olds ((vs.drop o).take (len * sz)) ∧ olds.length = len * sz ∧ o + len * sz ≤ vs.length ∨ (len = 0 ∧ olds = []) := by
    unfold oldN at hold
    split at hold
    · cases hold; exact .inr ⟨rfl, rfl⟩
    · rename_i k q heq
      cases heq
      simp only [Nat.succ_eq_add_one] at *
      simp only [AH.ldN, hB, Option.bind_some] at hold
      split at hold
      · rename_i hle
        cases hold
        exact .inl ⟨relL_take _ (relL_drop _ hv), by simp; omega, by omega⟩
      · cases hold
    · cases hold
  obtain ⟨os, hos, hol, hocs⟩ : ∃ os, relL ρ olds os ∧ os.length = len * sz ∧ ∀ i v, os[i]? = some v → cs[r.base + o + i]? = some v := by
    rcases holds with ⟨ha, hb, hc⟩ | ⟨rfl, rfl⟩
    · refine ⟨_, ha, by simp; omega, fun i v hi => ?_⟩
      rw [List.getElem?_take] at hi
      split at hi
      · rw [List.getElem?_drop] at hi
        have := hcs _ v hi
        rwa [← Nat.add_assoc] at this
      · cases hi
    · exact ⟨[], relL_nil ρ, by simp, fun i v hi => by simp at hi⟩
  have hle : ρ.le (fun x => if x = H.next then some ⟨r.blk, r.base + o, r.lim - o⟩ else ρ x) := by
    intro b' r' hb'
    have : b' ≠ H.next := fun e => by
      subst e
      rw [h.fresh _ (Nat.le_refl _)] at hb'
      cases hb'
    simp [this, hb']
  have hkill : ∀ b' B', b' ≠ H.next → ((H.kill b).new (olds ++ news) B.elem).m b' = some B' → b' ≠ b ∧ H.m b' = some B' := by
    intro b' B' hne hh
    simp only [AH.new, AH.kill, setM_other _ _ hne] at hh
    by_cases hbb : b' = b
    · subst hbb; simp [setM_same] at hh
    · rw [setM_other _ _ hbb] at hh; exact ⟨hbb, hh⟩
  have hnext : ((H.kill b).new (olds ++ news) B.elem).m H.next = some ⟨olds ++ news, B.elem, true⟩ := by simp [AH.new, AH.kill, setM_same]
  refine ⟨fun x => if x = H.next then some ⟨r.blk, r.base + o, r.lim - o⟩ else ρ x, _, hrun, ⟨some ⟨r.blk, r.base + o, none⟩, y, by simp [cAddr], ?_, hfit, rfl⟩, fun b' hb' => by simp [Nat.ne_of_lt hb'], Nat.le_succ _, ⟨fun b' B' hB' => ?_, ?_, fun b' hb' => ?_, fun g hg => ?_⟩, rfl, rfl, rfl, by simp [World.setRow], fun i hi hfoot => ?_, ?_⟩
  · simp only [cCap, if_true, Option.map_some, Nat.sub_zero, hy]
  · by_cases hbb : b' = H.next
    · subst hbb
      rw [hnext] at hB'
      cases hB'
      refine ⟨⟨r.blk, r.base + o, r.lim - o⟩, _, _, os ++ us, by simp, hself, ?_, fun _ => rfl, relL_mono hle _ (relL_append hos hus), ?_, fun i v hi => ?_, ?_⟩
      · simp; omega
      · simp only [List.length_append]; omega
      · simp only [List.getElem?_toArray]
        have hcl : cs.toList.length = cs.size := by simp
        have e2 : min (r.base + o + len * sz + 0) cs.toList.length = r.base + o + len * sz := by omega
        rw [List.append_assoc, List.getElem?_append]
        simp only [List.length_take, e2]
        rw [List.getElem?_append] at hi
        by_cases hi1 : i < os.length
        · rw [if_pos hi1] at hi
          rw [if_pos (by omega), List.getElem?_take, if_pos (by omega)]
          have := hocs i v hi
          simpa using this
        · rw [if_neg hi1] at hi
          rw [if_neg (by omega), List.getElem?_append]
          have hlt2 := (List.getElem?_eq_some_iff.1 hi).1
          rw [if_pos (by omega), show r.base + o + i - (r.base + o + len * sz) = i - os.length by omega]
          exact hi
      · rw [List.all_append, h1, h2]; rfl
    · obtain ⟨hne, hB0⟩ := hkill b' B' hbb hB'
      obtain ⟨r', cs', fr', vs', g1, g2, g3, g4, g5, g6⟩ := h.blk b' B' hB0
      refine ⟨r', cs', fr', vs', hle _ _ g1, ?_, g3, g4, relL_mono hle _ g5, g6⟩
      rw [getElem?_setRow]
      · exact g2
      · exact fun e => hne (h.inj b' b B' B r' r hB0 hB g1 hr e)
  · intro b1 b2 B1 B2 r1 r2 hb1 hb2 g1 g2 he
    by_cases e1 : b1 = H.next <;> by_cases e2 : b2 = H.next
    · rw [e1, e2]
    · obtain ⟨hne, hB0⟩ := hkill b2 B2 e2 hb2
      simp only [e1, e2, if_false, if_true] at g1 g2
      cases g1
      exact absurd (h.inj b2 b B2 B r2 r hB0 hB g2 hr he.symm) hne
    · obtain ⟨hne, hB0⟩ := hkill b1 B1 e1 hb1
      simp only [e1, e2, if_false, if_true] at g1 g2
      cases g2
      exact absurd (h.inj b1 b B1 B r1 r hB0 hB g1 hr he) hne
    · obtain ⟨_, k1⟩ := hkill b1 B1 e1 hb1
      obtain ⟨_, k2⟩ := hkill b2 B2 e2 hb2
      simp only [e1, e2, if_false] at g1 g2
      exact h.inj b1 b2 B1 B2 r1 r2 k1 k2 g1 g2 he
  · simp only [AH.new, AH.kill] at hb'
    have : b' ≠ H.next := by omega
    simp only [this, if_false]
    exact h.fresh b' (by omega)
  · obtain ⟨l, hg'⟩ := h.glob g hg
    exact ⟨l, hle _ _ hg'⟩
  · rw [getElem?_setRow]
    exact fun e => hfoot b B r hB hrw hr e.symm
  · intro b' B' r' hb' hr' hlt'
    by_cases hbb : b' = H.next
    · simp only [hbb, if_true] at hr'
      cases hr'
      exact ⟨b, B, r, hB, hr, rfl, fun _ => hrw⟩
    · obtain ⟨_, hB0⟩ := hkill b' B' hbb hb'
      simp only [hbb, if_false] at hr'
      exact ⟨b', B', r', hB0, hr', rfl, id⟩

/-- Appending cells to a slice. -/
def appTo (sz bytes : Nat) (e : TypeId) (s : AV) (n : Nat) (news : List AV) (H : AH) : Option (AV × AH) := match n with
  | 0 => some (s, H)
  | n + 1 => match s with
    | .slice p len (.kn c) => if len + (n + 1) ≤ c then (match p with
        | some p => (stAt (p.1, p.2 + len * sz) news H).map fun H' => (.slice (some p) (len + (n + 1)) (.kn c), H')
        | none => none)
      else (oldN sz len p H).bind fun olds => grow sz bytes e olds news (len + (n + 1)) H
    | .slice (some p) len (.op z) => (H.m p.1).bind fun B => if z = sz ∧ B.rw_ = true ∧ B.elem = e then
        (oldN sz len (some p) H).bind fun olds => grow sz bytes e olds news (len + (n + 1)) (H.kill p.1) else none
    | _ => none
def aAppend (P : Program) (st xt : TypeId) (s x : AV) (H : AH) : Option (AV × AH) := match P.underlying st with
  | some (.slice e) => (P.info? e).bind fun i => (zeroL P e).bind fun z => if seqT P xt = true ∧ 0 < z.length ∧ z.length = i.size ∧ isSl s = true then
      (aLenOf x).bind fun n => (srcN i.size n x H).bind fun news => appTo i.size i.bytes e s n news H else none
  | _ => none

theorem aAppend_sound (h : Sim P ρ H w) {st xt ty : TypeId} {s x v : AV} {s' x' : Value} {H' : AH} (hs : rel ρ s s') (hx : rel ρ x x') (hc : aAppend P st xt s x H = some (v, H')) :
    ∃ ρ' v' w', (Builtin.append_ #[st, xt] ty #[s', x']).run P w = .ok v' w' ∧ rel ρ' v v' ∧ Out P ρ H w ρ' H' w' := by
  unfold aAppend at hc
  split at hc
  · rename_i e ht
    simp only [Option.bind_eq_some_iff] at hc
    obtain ⟨i, hi, z, hz, hc⟩ := hc
    split at hc
    · rename_i hcond
      obtain ⟨hseq, hz0, hzl, hsl⟩ := hcond
      obtain ⟨dx, hxt, hdx⟩ := seqT_spec hseq
      simp only [Option.bind_eq_some_iff] at hc
      obtain ⟨n, hn, news, hnews, hc⟩ := hc
      obtain ⟨i', zv, hi', hzv, hzr, hz1⟩ := zeroL_sound (ρ := ρ) hz
      rw [hi] at hi'
      cases hi'
      have hzs : zv.cells.size = i.size := by
        have := relL_length hzr
        simp only [Array.length_toList] at this
        omega
      have hl := aLenOf_sound (P := P) (w := w) hx hn
      obtain ⟨us, hus, h1, hnl, hf⟩ := srcN_sound h hx ⟨n, hn⟩ hnews
      have hfw : (Builtin.firstCells i.size n x').run P w = .ok us w := hf w.drawn
      unfold appTo at hc
      split at hc
      · cases hc
        have hus0 : us = #[] := by
          have := relL_length hus
          simp only [Array.length_toList] at this
          exact Array.eq_empty_of_size_eq_zero (by omega)
        subst hus0
        unfold isSl at hsl
        split at hsl
        · obtain ⟨a, c, ha, hcc, hle, rfl⟩ := hs
          refine ⟨ρ, _, w, run_append_fit (P := P) (w := w) ht hxt hdx hi hl hfw (by omega) ?_, ⟨a, c, ha, hcc, hle, rfl⟩, .refl h⟩
          cases a <;> simp [storeCells]
        · obtain ⟨a, c, rfl⟩ := hs
          refine ⟨ρ, _, w, run_append_fit (P := P) (w := w) ht hxt hdx hi hl hfw (by omega) ?_, ⟨a, c, rfl⟩, .refl h⟩
          simp [storeCells]
        · cases hsl
      · rename_i n
        split at hc
        · rename_i p len c
          obtain ⟨a, y, ha, hy, hle, rfl⟩ := hs
          cases hy
          split at hc
          · rename_i hfit
            split at hc
            · rename_i p
              obtain ⟨b, o⟩ := p
              simp only [Option.map_eq_some_iff] at hc
              obtain ⟨H1, hst, hc⟩ := hc
              cases hc
              simp only [cAddr, Option.map_eq_some_iff] at ha
              obtain ⟨r, hr, rfl⟩ := ha
              obtain ⟨w1, hrun, hout⟩ := stAt_sound h hr hst hus h1
              refine ⟨ρ, _, w1, run_append_fit (P := P) (w := w) ht hxt hdx hi hl hfw hfit ?_, ⟨_, _, ?_, rfl, hfit, rfl⟩, hout⟩
              · simp only [add_at]
                rw [Nat.add_assoc]
                exact hrun
              · simp [cAddr, hr]
            · cases hc
          · rename_i hfit
            simp only [Option.bind_eq_some_iff] at hc
            obtain ⟨olds, hold, hc⟩ := hc
            obtain ⟨os, hos, h2, hol, hof⟩ := oldN_sound (c := c) h ha hold
            exact grow_sound h (fun _ _ hb => hb) rfl ht hxt hdx hi hzv rfl hzs (by omega) hl hf hof (by omega) hus hos h1 h2 hnl hol hc
        · rename_i p len zz
          obtain ⟨b, o⟩ := p
          simp only [Option.bind_eq_some_iff] at hc
          obtain ⟨B, hB, hc⟩ := hc
          split at hc
          · rename_i hcc
            obtain ⟨rfl, hrw, hel⟩ := hcc
            simp only [Option.bind_eq_some_iff] at hc
            obtain ⟨olds, hold, hc⟩ := hc
            obtain ⟨a, y, ha, hy, hle, rfl⟩ := hs
            have hold0 := hold
            obtain ⟨os, hos, h2, hol, hof⟩ := oldN_sound (c := y) h ha hold
            by_cases hfit : len + (n + 1) ≤ y
            · unfold grow at hc
              split at hc
              · rename_i hbb
                cases hc
                simp only [cAddr, Option.map_eq_some_iff] at ha
                obtain ⟨r, hr, rfl⟩ := ha
                simp only [cCap, hr, Option.map_some, Option.some.injEq] at hy
                have hul := relL_length hus
                obtain ⟨ρ', w1, hrun, hrel, hout⟩ := inplace_sound h hB hr hrw hel hy.symm (by omega) (Nat.succ_pos n) hfit hold0 hus h1 h2 (by omega)
                refine ⟨ρ', _, w1, run_append_fit (P := P) (w := w) ht hxt hdx hi hl hfw hfit ?_, hrel, hout⟩
                simp only [add_at]
                exact hrun
              · cases hc
            · have hk : ∀ b' B', (H.kill b).m b' = some B' → H.m b' = some B' := fun b' B' hh => by
                by_cases hbb : b' = b
                · subst hbb; simp [AH.kill, setM_same] at hh
                · simpa [AH.kill, setM_other _ _ hbb] using hh
              exact grow_sound h hk rfl ht hxt hdx hi hzv rfl hzs (by omega) hl hf hof (by omega) hus hos h1 h2 hnl hol hc
          · cases hc
        · cases hc
    · cases hc
  · cases hc

/-! ### copy, clear -/
def aCopy (P : Program) (dt : TypeId) (d x : AV) (H : AH) : Option (AV × AH) := match P.underlying dt with
  | some (.slice e) => (P.info? e).bind fun i => (aLenOf x).bind fun m => (match d with
    | .slice p len _ => (srcN i.size (Nat.min m len) x H).bind fun cs => (match p with
      | some p => (stAt p cs H).map fun H' => (.int .i64 (Nat.min m len : Nat), H')
      | none => some (.int .i64 (Nat.min m len : Nat), H))
    | .empty => some (.int .i64 0, H)
    | _ => none)
  | _ => none
theorem aCopy_sound (h : Sim P ρ H w) {dt st ty : TypeId} {d x v : AV} {d' x' : Value} {H' : AH} (hd : rel ρ d d') (hx : rel ρ x x') (hc : aCopy P dt d x H = some (v, H')) :
    ∃ v' w', (Builtin.copy_ #[dt, st] ty #[d', x']).run P w = .ok v' w' ∧ rel ρ v v' ∧ Out P ρ H w ρ H' w' := by
  unfold aCopy at hc
  split at hc
  · rename_i e ht
    simp only [Option.bind_eq_some_iff] at hc
    obtain ⟨i, hi, m, hm, hc⟩ := hc
    have hl := aLenOf_sound (P := P) (w := w) hx hm
    split at hc
    · rename_i p len cap
      simp only [Option.bind_eq_some_iff] at hc
      obtain ⟨cs, hcs, hc⟩ := hc
      obtain ⟨us, hus, h1, hnl, hf⟩ := srcN_sound h hx ⟨m, hm⟩ hcs
      have hfw : (Builtin.firstCells i.size (Nat.min m len) x').run P w = .ok us w := hf w.drawn
      obtain ⟨a, c, ha, hcc, hle, rfl⟩ := hd
      split at hc
      · rename_i q
        obtain ⟨b, o⟩ := q
        simp only [Option.map_eq_some_iff] at hc
        obtain ⟨H1, hst, hc⟩ := hc
        cases hc
        simp only [cAddr, Option.map_eq_some_iff] at ha
        obtain ⟨r, hr, rfl⟩ := ha
        obtain ⟨w1, hrun, hout⟩ := stAt_sound h hr hst hus h1
        have hfw2 : (Builtin.firstCells i.size (min m len) x').run P w = .ok us w := hfw
        exact ⟨goInt (Nat.min m len : Nat), w1, by simp [Builtin.copy_, run_underlying ht, hl, sizeOf, typeInfo, hi, hfw2, hrun], by simp [rel, goInt], hout⟩
      · cases hc
        simp only [cAddr, Option.some.injEq] at ha
        subst ha
        have hfw2 : (Builtin.firstCells i.size (min m len) x').run P w = .ok us w := hfw
        exact ⟨goInt (Nat.min m len : Nat), w, by simp [Builtin.copy_, run_underlying ht, hl, sizeOf, typeInfo, hi, hfw2], by simp [rel, goInt], .refl h⟩
    · cases hc
      obtain ⟨a, c, rfl⟩ := hd
      have hmin : Nat.min m 0 = 0 := Nat.min_zero m
      obtain ⟨us, hus, h1, hnl, hf⟩ := srcN_sound (sz := i.size) (n := 0) (cs := []) h hx ⟨m, hm⟩ rfl
      have hfw : (Builtin.firstCells i.size 0 x').run P w = .ok us w := hf w.drawn
      have hus0 : us = #[] := by
        have := relL_length hus
        simp only [Array.length_toList] at this
        exact Array.eq_empty_of_size_eq_zero (by simpa using this)
      subst hus0
      refine ⟨.int .i64 0, w, ?_, by simp [rel], .refl h⟩
      simp [Builtin.copy_, run_underlying ht, hl, sizeOf, typeInfo, hi, hfw, storeCells, goInt]
    · cases hc
  · cases hc

def aClear (P : Program) (t : TypeId) (v : AV) (H : AH) : Option (AV × AH) := match P.underlying t with
  | some (.slice e) => (match v with
    | .slice (some p) n _ => (zeroL P e).bind fun z => if 0 < z.length then (stAt p (pat z (n * z.length)) H).map fun H' => (.tuple [], H') else none
    | .slice none _ _ => some (.tuple [], H)
    | .empty => some (.tuple [], H)
    | _ => none)
  | _ => none
theorem aClear_sound (h : Sim P ρ H w) {t ty : TypeId} {x v : AV} {x' : Value} {H' : AH} (hx : rel ρ x x') (hc : aClear P t x H = some (v, H')) :
    ∃ v' w', (Builtin.clear_ #[t] ty #[x']).run P w = .ok v' w' ∧ rel ρ v v' ∧ Out P ρ H w ρ H' w' := by
  have hnil : rel ρ (.tuple []) (.tuple #[]) := ⟨[], relL_nil ρ, rfl⟩
  unfold aClear at hc
  split at hc
  · rename_i e ht
    split at hc
    · rename_i p n cap
      obtain ⟨b, o⟩ := p
      simp only [Option.bind_eq_some_iff] at hc
      obtain ⟨z, hz, hc⟩ := hc
      split at hc
      · rename_i hpos
        simp only [Option.map_eq_some_iff] at hc
        obtain ⟨H1, hst, hc⟩ := hc
        cases hc
        obtain ⟨i, zv, hi, hzv, hzr, hz1⟩ := zeroL_sound (ρ := ρ) hz
        have hzl : zv.cells.size = z.length := by
          have := relL_length hzr
          simpa using this
        obtain ⟨hpr, hp1⟩ := pat_rel hzr hz1 (n * z.length) (.inr hpos)
        obtain ⟨a, c, ha, hcc, hle, rfl⟩ := hx
        simp only [cAddr, Option.map_eq_some_iff] at ha
        obtain ⟨r, hr, rfl⟩ := ha
        obtain ⟨w1, hrun, hout⟩ := stAt_sound h hr hst hpr hp1
        refine ⟨.tuple #[], w1, ?_, hnil, hout⟩
        cases n with
        | zero =>
          simp only [Nat.zero_mul] at hrun
          simp [storeCells] at hrun
          subst hrun
          simp [Builtin.clear_, run_underlying ht]
        | succ n =>
          have hzc : (zeroValue e).run P w = .ok zv w := by simp [zeroValue, run_typeInfo hi, hzv]
          have hz' : (Builtin.zeroCells zv.cells (n + 1)).toList = ((Array.range ((n + 1) * z.length)).map (zv.cells[· % zv.cells.size]!)).toList := by simp [Builtin.zeroCells, hzl]
          have hrun' : (storeCells ⟨r.blk, r.base + o, none⟩ (Builtin.zeroCells zv.cells (n + 1)).toList).run P w = .ok () w1 := by rw [hz']; exact hrun
          simp [Builtin.clear_, run_underlying ht, hzc, hrun']
      · cases hc
    · cases hc
      obtain ⟨a, c, ha, hcc, hle, rfl⟩ := hx
      cases ha
      exact ⟨.tuple #[], w, by simp [Builtin.clear_, run_underlying ht], hnil, .refl h⟩
    · cases hc
      obtain ⟨a, c, rfl⟩ := hx
      exact ⟨.tuple #[], w, by simp [Builtin.clear_, run_underlying ht], hnil, .refl h⟩
    · cases hc
  · cases hc
end
end Go.Ri
