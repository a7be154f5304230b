/- Frames, regions in the order of the text, code, functions. -/
import Derived.Test.YthiflgncldmkjaaDoorRh
set_option linter.unusedVariables false
set_option linter.unusedSimpArgs false
namespace Go.Ri

abbrev Tm := Nat → AV
def upd (T : Tm) (d : Nat) (v : AV) : Tm := fun t => if t = d then v else T t
/-- A slot is written: `nt` slots are there. -/
def putA (nt : Nat) (T : Tm) (d : Option Nat) (v : AV) : Option Tm := match d with
  | none => some T
  | some d => if d < nt then some (upd T d v) else none

def TRel (ρ : Ro) (nt : Nat) (T : Tm) (a : Act) : Prop := a.tmps.size = nt ∧ ∀ t, rel ρ (T t) (a.tmps.getD t undef)

theorem TRel.mono {ρ ρ' : Ro} {nt : Nat} {T : Tm} {a : Act} (h : TRel ρ nt T a) (hl : ρ.le ρ') : TRel ρ' nt T a := ⟨h.1, fun t => rel_mono hl _ (h.2 t)⟩
theorem putA_rel {ρ : Ro} {nt : Nat} {T T' : Tm} {a : Act} {d : Option Nat} {v : AV} {v' : Value} (h : TRel ρ nt T a) (hv : rel ρ v v') (hp : putA nt T d v = some T') : TRel ρ nt T' (a.put d v') := by
  cases d with
  | none => cases hp; exact h
  | some d =>
    simp only [putA] at hp
    split at hp
    · rename_i hlt
      cases hp
      refine ⟨by simp [Act.put, h.1], fun t => ?_⟩
      by_cases e : t = d
      · subst e
        have : t < a.tmps.size := by rw [h.1]; exact hlt
        simp [upd, Act.put, this, hv]
      · have := h.2 t
        simp only [upd, if_neg e, Act.put]
        simpa [Array.getD_eq_getD_getElem?, Array.getElem?_setIfInBounds_ne (Ne.symm e)] using this
    · cases hp

theorem evo_rel {P : Program} {ρ : Ro} {H : AH} {w : World} (h : Sim P ρ H w) {nt : Nat} {T : Tm} {a : Act} (ht : TRel ρ nt T a) : EvRel ρ (evo P.globals.size T) a.eval := by
  intro x c hx
  cases x with
  | tmp t => cases hx; exact ht.2 t
  | const v => exact absC_rel hx
  | global g =>
    simp only [evo] at hx
    split at hx
    · rename_i hg
      cases hx
      obtain ⟨l, hl⟩ := h.glob g hg
      have := rel_ptr_mk (o := 0) hl
      exact this
    · cases hx
  | func f =>
    cases hx
    exact ⟨[], relL_nil ρ, rfl⟩

/-- Whether a guarded operation is carried out. -/
def gd (ops : Array Oper) (T : Tm) (o : Oper) : Option Bool := match o.guard with
  | none => some true
  | some (j, want) => match (ops[j]?).bind (·.dst) with
    | some d => (match T d with
      | .bool b => some (b == want)
      | .tuple _ => some false
      | _ => none)
    | none => some false
theorem gd_sound {ρ : Ro} {nt : Nat} {ops : Array Oper} {T : Tm} {a : Act} {o : Oper} {g : Bool} (ht : TRel ρ nt T a) (h : gd ops T o = some g) : Region.wanted o (yielded ops a.tmps) = g := by
  unfold gd at h
  unfold Region.wanted
  split at h
  · rename_i hg
    cases h
    simp [hg]
  · rename_i j want hg
    simp only [hg]
    split at h
    · rename_i d hd
      have hr := ht.2 d
      split at h
      · rename_i b hb
        cases h
        rw [hb] at hr
        simp only [rel] at hr
        have hlt : d < a.tmps.size := by
          rcases Nat.lt_or_ge d a.tmps.size with hlt | hge
          · exact hlt
          · simp [Array.getD_eq_getD_getElem?, Array.getElem?_eq_none hge, undef] at hr
        have : a.tmps[d]? = some (.bool b) := by
          rw [Array.getD_eq_getD_getElem?, Array.getElem?_eq_getElem hlt, Option.getD_some] at hr
          rw [Array.getElem?_eq_getElem hlt, hr]
        simp [yielded, hd, this]
      · rename_i vs hb
        cases h
        rw [hb] at hr
        obtain ⟨us, _, hr⟩ := hr
        have : yielded ops a.tmps j = none := by
          unfold yielded
          rw [hd]
          simp only [Option.bind_some]
          rcases Nat.lt_or_ge d a.tmps.size with hlt | hge
          · rw [Array.getD_eq_getD_getElem?, Array.getElem?_eq_getElem hlt, Option.getD_some] at hr
            rw [Array.getElem?_eq_getElem hlt, hr]
          · rw [Array.getElem?_eq_none hge]
        simp [this]
      · cases h
    · rename_i hd
      cases h
      simp [yielded, hd]

inductive OpK where
  | light
  | new
  | heavy
  deriving DecidableEq
def opK : Op → OpK
  | .alloc _ => .new
  | .box _ _ => .new
  | .buildSlice _ _ _ => .new
  | .makeSlice _ _ _ => .new
  | .store _ _ _ => .heavy
  | .call c => (match c.callee with
    | .builtin .len => .light
    | _ => .heavy)
  | _ => .light

def newSt (nb : NB) (H : AH) : AV × AH := (nb.val H.next, H.new nb.cells nb.elem)
def aOp (P : Program) (call : CallF) (T : Tm) (o : Op) (H : AH) : Option (AV × AH) := match opK o with
  | .light => (aLight P (evo P.globals.size T) o H).map fun v => (v, H)
  | .new => (aNew P (evo P.globals.size T) o).map fun nb => newSt nb H
  | .heavy => aHeavy P call (evo P.globals.size T) o H

/-- Operations in the order of the text. -/
def aOps (P : Program) (nt : Nat) (call : CallF) (ops : Array Oper) : List Oper → Tm → AH → Option (Tm × AH)
  | [], T, H => some (T, H)
  | o :: l, T, H => (gd ops T o).bind fun g => if g = true then
      (aOp P call T o.op H).bind fun r => (putA nt T o.dst r.1).bind fun T' => aOps P nt call ops l T' r.2
    else (putA nt T o.dst (.tuple [])).bind fun T' => aOps P nt call ops l T' H

section
variable {P : Program} {call : CallF}

theorem aOp_sound (hcall : CallOk P call) {ρ : Ro} {H : AH} {w : World} {nt : Nat} {T : Tm} {a : Act} (h : Sim P ρ H w) (ht : TRel ρ nt T a) {o : Oper} {v : AV} {H' : AH} (hc : aOp P call T o.op H = some (v, H'))
    {K : Act → World → Prop} {Q : Exit → Act → World → Prop} (hK : ∀ ρ' v' w', Out P ρ H w ρ' H' w' → rel ρ' v v' → K (a.put o.dst v') w') : o.wp P a w K Q := by
  have he := evo_rel h ht
  unfold aOp at hc
  split at hc
  · simp only [Option.map_eq_some_iff] at hc
    obtain ⟨v0, hv, hc⟩ := hc
    cases hc
    obtain ⟨v', hrun, hr⟩ := aLight_sound h he hv
    unfold Oper.wp
    rw [hrun]
    exact hK ρ v' w (.refl h) hr
  · simp only [Option.map_eq_some_iff] at hc
    obtain ⟨nb, hnb, hc⟩ := hc
    cases hc
    obtain ⟨arr, v', hrun, hr, h1, hval⟩ := aNew_sound (w := w) he hnb
    unfold Oper.wp
    rw [hrun]
    have hout := new_sound (elem := nb.elem) (more := []) h hr h1
    simp only [List.append_nil, Array.toArray_toList, Array.length_toList] at hout
    exact hK _ v' _ hout (hval _ _ (by simp))
  · exact aHeavy_sound hcall h he hc hK

theorem aOps_sound (hcall : CallOk P call) {nt : Nat} {ops : Array Oper} {Q : Exit → Act → World → Prop} : ∀ (l : List Oper) (k : Nat) (ρ : Ro) (H : AH) (w : World) (T T' : Tm) (H' : AH) (a : Act), l = ops.toList.drop k → Sim P ρ H w → TRel ρ nt T a → a.defers = [] →
    aOps P nt call ops l T H = some (T', H') → (∀ ρ' a' w', Out P ρ H w ρ' H' w' → TRel ρ' nt T' a' → a'.defers = [] → Q .normal a' w') → wpOps P ops Q (List.range' k (ops.size - k)) a w
  | [], k, ρ, H, w, T, T', H', a, hl, h, ht, hd, hc, hQ => by
    have : ops.size - k = 0 := by
      have := congrArg List.length hl
      simp at this
      omega
    rw [this]
    cases hc
    exact hQ ρ a w (.refl h) ht hd
  | o :: l, k, ρ, H, w, T, T', H', a, hl, h, ht, hd, hc, hQ => by
    have hlen := congrArg List.length hl
    simp only [List.length_cons, List.length_drop, Array.length_toList] at hlen
    have hk : ops[k]? = some o := by
      have := congrArg (·[0]?) hl
      simpa using this.symm
    have hl' : l = ops.toList.drop (k + 1) := by
      rw [← List.drop_drop, ← hl]
      rfl
    rw [show ops.size - k = (ops.size - (k + 1)) + 1 by omega, List.range'_succ]
    simp only [wpOps, hk]
    simp only [aOps, Option.bind_eq_some_iff] at hc
    obtain ⟨g, hg, hc⟩ := hc
    rw [gd_sound ht hg]
    split at hc
    · rename_i hgt
      rw [if_pos hgt]
      simp only [Option.bind_eq_some_iff] at hc
      obtain ⟨⟨v, H1⟩, hop, T1, hT1, hc⟩ := hc
      refine .inl (aOp_sound hcall h ht hop fun ρ1 v' w1 hout hr => ?_)
      refine aOps_sound hcall l (k + 1) ρ1 H1 w1 T1 T' H' _ hl' hout.sim (putA_rel (ht.mono (hout.le h)) hr hT1) ?_ hc fun ρ2 a2 w2 ho2 => hQ ρ2 a2 w2 (hout.trans ho2)
      cases o.dst <;> simpa [Act.put] using hd
    · rename_i hgt
      rw [if_neg hgt]
      simp only [Option.bind_eq_some_iff] at hc
      obtain ⟨T1, hT1, hc⟩ := hc
      refine aOps_sound hcall l (k + 1) ρ H w T1 T' H' _ hl' h (putA_rel ht (v := .tuple []) ⟨[], relL_nil ρ, rfl⟩ hT1) ?_ hc hQ
      cases o.dst <;> simpa [Act.put] using hd
end

/-! ### Code -/
inductive Ex where
  | normal
  | exit (id : Nat)
  | ret
  deriving DecidableEq
def Ex.toExit : Ex → Exit
  | .normal => .normal
  | .exit id => .exit id
  | .ret => .ret

/-- What a region's draw of its order comes to; filled in below. -/
abbrev DrawF := Array Oper → Tm → AH → Option (Tm × AH)
abbrev St := Tm × AH
abbrev ItF := (St → Option (Ex × St)) → St → Option (Ex × St)

def noNormal (r : Ex × St) : Option (Ex × St) := match r.1 with
  | .normal => none
  | _ => some r

def aCode (P : Program) (nt : Nat) (call : CallF) (draw : DrawF) (it : ItF) : Code → Tm → AH → Option (Ex × St)
  | .skip, T, H => some (.normal, T, H)
  | .label _, T, H => some (.normal, T, H)
  | .region _ ops d, T, H => if d = true then (draw ops T H).map fun s => (.normal, s) else (aOps P nt call ops ops.toList T H).map fun s => (.normal, s)
  | .seq a b, T, H => (aCode P nt call draw it a T H).bind fun r => match r.1 with
    | .normal => aCode P nt call draw it b r.2.1 r.2.2
    | e => some (e, r.2)
  | .cond c x y, T, H => (evo P.globals.size T c).bind fun v => (asB v).bind fun t => if t = true then aCode P nt call draw it x T H else aCode P nt call draw it y T H
  | .block id c, T, H => (aCode P nt call draw it c T H).map fun r => match r.1 with
    | .exit j => if j = id then (.normal, r.2) else (.exit j, r.2)
    | e => (e, r.2)
  | .loop c, T, H => (it (fun s => aCode P nt call draw it c s.1 s.2) (T, H)).bind noNormal
  | .scope c, T, H => aCode P nt call draw it c T H
  | .exit id, T, H => some (.exit id, T, H)
  | .ret, T, H => some (.ret, T, H)
  | _, _, _ => none

/-- So many rounds at most. -/
def iter : Nat → ItF
  | 0, _, _ => none
  | n + 1, g, s => (g s).bind fun r => match r.1 with
    | .normal => iter n g r.2
    | e => some (e, r.2)

def DrawOk (P : Program) (nt : Nat) (draw : DrawF) : Prop := ∀ id ops ρ H w T T' H' a Q, Sim P ρ H w → TRel ρ nt T a → a.defers = [] → draw ops T H = some (T', H') →
  (∀ ρ' a' w', Out P ρ H w ρ' H' w' → TRel ρ' nt T' a' → a'.defers = [] → Q .normal a' w') → (Code.region id ops true).wp P Q a w

/-- The outcome of code, and what is to be shown behind it. -/
def Ends (P : Program) (nt : Nat) (ρ : Ro) (H : AH) (w : World) (e : Ex) (T' : Tm) (H' : AH) (Q : Exit → Act → World → Prop) : Prop :=
  ∀ ρ' a' w', Out P ρ H w ρ' H' w' → TRel ρ' nt T' a' → a'.defers = [] → Q e.toExit a' w'

theorem aCode_sound {P : Program} {nt : Nat} {call : CallF} {draw : DrawF} {n : Nat} (hcall : CallOk P call) (hdraw : DrawOk P nt draw) : ∀ (c : Code) (ρ : Ro) (H : AH) (w : World) (T T' : Tm) (H' : AH) (a : Act) (e : Ex) (Q : Exit → Act → World → Prop),
    Sim P ρ H w → TRel ρ nt T a → a.defers = [] → aCode P nt call draw (iter n) c T H = some (e, T', H') → Ends P nt ρ H w e T' H' Q → c.wp P Q a w := by
  intro c
  induction c with
  | skip =>
    intro ρ H w T T' H' a e Q h ht hd hc hQ
    cases hc
    exact wp_skip (hQ ρ a w (.refl h) ht hd)
  | label l =>
    intro ρ H w T T' H' a e Q h ht hd hc hQ
    cases hc
    exact wp_label (hQ ρ a w (.refl h) ht hd)
  | region id ops d =>
    intro ρ H w T T' H' a e Q h ht hd hc hQ
    simp only [aCode] at hc
    split at hc
    · rename_i hdt
      subst hdt
      simp only [Option.map_eq_some_iff] at hc
      obtain ⟨⟨T1, H1⟩, hc, he⟩ := hc
      cases he
      exact hdraw id ops ρ H w T T' H' a Q h ht hd hc hQ
    · rename_i hdt
      have : d = false := by cases d <;> simp_all
      subst this
      simp only [Option.map_eq_some_iff] at hc
      obtain ⟨⟨T1, H1⟩, hc, he⟩ := hc
      cases he
      refine wp_region ?_
      rw [List.range_eq_range']
      exact aOps_sound hcall ops.toList 0 ρ H w T T' H' a (by simp) h ht hd hc hQ
  | seq x y ihx ihy =>
    intro ρ H w T T' H' a e Q h ht hd hc hQ
    simp only [aCode, Option.bind_eq_some_iff] at hc
    obtain ⟨⟨e1, T1, H1⟩, h1, hc⟩ := hc
    refine wp_seq (ihx ρ H w T T1 H1 a e1 _ h ht hd h1 fun ρ1 a1 w1 ho1 ht1 hd1 => ?_)
    cases e1 with
    | normal => exact ihy ρ1 H1 w1 T1 T' H' a1 e Q ho1.sim ht1 hd1 hc fun ρ2 a2 w2 ho2 ht2 hd2 => hQ ρ2 a2 w2 (ho1.trans ho2) ht2 hd2
    | exit id => cases hc; exact hQ ρ1 a1 w1 ho1 ht1 hd1
    | ret => cases hc; exact hQ ρ1 a1 w1 ho1 ht1 hd1
  | cond c x y ihx ihy =>
    intro ρ H w T T' H' a e Q h ht hd hc hQ
    simp only [aCode, Option.bind_eq_some_iff] at hc
    obtain ⟨v, hv, t, htb, hc⟩ := hc
    have hr := evo_rel h ht _ _ hv
    unfold asB at htb
    split at htb
    · cases htb
      simp only [rel] at hr
      refine wp_cond hr ?_
      split at hc
      · rename_i htt
        rw [if_pos htt]
        exact ihx ρ H w T T' H' a e Q h ht hd hc hQ
      · rename_i htt
        rw [if_neg htt]
        exact ihy ρ H w T T' H' a e Q h ht hd hc hQ
    · cases htb
  | block id c ih =>
    intro ρ H w T T' H' a e Q h ht hd hc hQ
    simp only [aCode, Option.map_eq_some_iff] at hc
    obtain ⟨⟨e1, T1, H1⟩, h1, hc⟩ := hc
    refine wp_block (ih ρ H w T T1 H1 a e1 _ h ht hd h1 fun ρ1 a1 w1 ho1 ht1 hd1 => ?_)
    cases e1 with
    | normal => cases hc; exact hQ ρ1 a1 w1 ho1 ht1 hd1
    | exit j =>
      simp only at hc
      simp only [Ex.toExit, Exit.inBlock]
      split at hc
      · rename_i hj
        cases hc
        rw [if_pos hj]
        exact hQ ρ1 a1 w1 ho1 ht1 hd1
      · rename_i hj
        cases hc
        rw [if_neg hj]
        exact hQ ρ1 a1 w1 ho1 ht1 hd1
    | ret => cases hc; exact hQ ρ1 a1 w1 ho1 ht1 hd1
  | loop c ih =>
    intro ρ H w T T' H' a e Q h ht hd hc hQ
    simp only [aCode, Option.bind_eq_some_iff] at hc
    obtain ⟨r0, hc, hn0⟩ := hc
    have hr0 : r0 = (e, T', H') := by
      unfold noNormal at hn0
      split at hn0
      · cases hn0
      · cases hn0; rfl
    subst hr0
    -- the rounds that are left
    have key : ∀ (m : Nat) (ρ : Ro) (H : AH) (w : World) (T : Tm) (a : Act), Sim P ρ H w → TRel ρ nt T a → a.defers = [] →
        iter m (fun s => aCode P nt call draw (iter n) c s.1 s.2) (T, H) = some (e, T', H') → Ends P nt ρ H w e T' H' Q →
          ∀ (b : Frame) (k : List Item) (cs : List Frame), ∃ e a' w', Q e a' w' ∧ Arrives P (lone (b.at a (.code c :: .inLoop c :: k)) cs w) b k cs e a' w' := by
      intro m
      induction m with
      | zero => intro ρ H w T a _ _ _ hc _; cases hc
      | succ m ihm =>
        intro ρ H w T a h ht hd hc hQ b k cs
        simp only [iter, Option.bind_eq_some_iff] at hc
        obtain ⟨⟨e1, T1, H1⟩, h1, hc⟩ := hc
        obtain ⟨e2, a2, w2, hq, harr⟩ := ih ρ H w T T1 H1 a e1 (fun x a' w' => ∃ ρ1, x = e1.toExit ∧ Out P ρ H w ρ1 H1 w' ∧ TRel ρ1 nt T1 a' ∧ a'.defers = []) h ht hd h1
          (fun ρ1 a1 w1 ho1 ht1 hd1 => ⟨ρ1, rfl, ho1, ht1, hd1⟩) b (.inLoop c :: k) cs
        obtain ⟨ρ1, rfl, ho1, ht1, hd1⟩ := hq
        cases e1 with
        | normal =>
          obtain ⟨e3, a3, w3, hq3, harr3⟩ := ihm ρ1 H1 w2 T1 a2 ho1.sim ht1 hd1 hc (fun ρ2 a' w' ho2 ht2 hd2 => hQ ρ2 a' w' (ho1.trans ho2) ht2 hd2) b k cs
          exact ⟨e3, a3, w3, hq3, .of_steps (Steps.trans harr (.one step_inLoop)) harr3⟩
        | exit id => cases hc; exact ⟨_, a2, w2, hQ ρ1 a2 w2 ho1 ht1 hd1, .pass (x := .inLoop c) rfl (fun _ _ => .inl (by simp [Ex.toExit])) harr⟩
        | ret => cases hc; exact ⟨_, a2, w2, hQ ρ1 a2 w2 ho1 ht1 hd1, .pass (x := .inLoop c) rfl (fun _ _ => .inl (by simp [Ex.toExit])) harr⟩
    intro b k cs
    obtain ⟨e2, a2, w2, hq2, harr2⟩ := key n ρ H w T a h ht hd hc hQ b k cs
    exact ⟨e2, a2, w2, hq2, .of_steps (.one step_loop) harr2⟩
  | rangeFunc f params assign body ih1 ih2 =>
    intro ρ H w T T' H' a e Q h ht hd hc hQ
    cases hc
  | exit id =>
    intro ρ H w T T' H' a e Q h ht hd hc hQ
    cases hc
    exact wp_exit (hQ ρ a w (.refl h) ht hd)
  | scope c ih =>
    intro ρ H w T T' H' a e Q h ht hd hc hQ
    simp only [aCode] at hc
    refine wp_scope_straight (ih ρ H w T T' H' a e _ h ht hd hc fun ρ1 a1 w1 ho1 ht1 hd1 => ?_)
    have := hQ ρ1 a1 w1 ho1 ht1 hd1
    cases e <;> exact this
  | goto l =>
    intro ρ H w T T' H' a e Q h ht hd hc hQ
    cases hc
  | ret =>
    intro ρ H w T T' H' a e Q h ht hd hc hQ
    cases hc
    exact wp_ret (hQ ρ a w (.refl h) ht hd)
  | refuse why =>
    intro ρ H w T T' H' a e Q h ht hd hc hQ
    cases hc
end Go.Ri
