/- Operations: those that only look, those that make a block, those that write or call. -/
import Derived.Test.YthiflgncldmkjaaDoorRg
set_option linter.unusedVariables false
set_option linter.unusedSimpArgs false
namespace Go.Ri

abbrev CallF := FuncId → List AV → AH → Option (AV × AH)

def evo (ng : Nat) (T : Nat → AV) : Operand → Option AV
  | .tmp t => some (T t)
  | .const v => absC v
  | .global g => if g < ng then some (.ptr (some (g, 0))) else none
  | .func f => some (.func f [])
def evL (ev : Operand → Option AV) : List Operand → Option (List AV)
  | [] => some []
  | x :: xs => (ev x).bind fun v => (evL ev xs).map fun vs => v :: vs
def evP (ev : Operand → Option AV) : List (Nat × Operand) → Option (List (Nat × AV))
  | [] => some []
  | (i, x) :: xs => (ev x).bind fun v => (evP ev xs).map fun vs => (i, v) :: vs
def evO (ev : Operand → Option AV) : Option Operand → Option (Option AV)
  | none => some none
  | some x => (ev x).map some
def asB : AV → Option Bool
  | .bool b => some b
  | _ => none
def nilC : AV → Option AV
  | .ptr (some p) => some (.ptr (some p))
  | _ => none

/-- The operations that only look. -/
def aLight (P : Program) (ev : Operand → Option AV) (o : Op) (H : AH) : Option AV := match o with
  | .move x => ev x
  | .assign x => ev x
  | .pick c a b => (ev c).bind fun v => (asB v).bind fun t => if t = true then ev a else ev b
  | .build t parts => (evP ev parts.toList).bind fun ps => aBuild P t ps
  | .load t x => (ev x).bind fun v => aLoad P t v H
  | .nilCheck x => (ev x).bind nilC
  | .binOp op t x y _ => (ev x).bind fun a => (ev y).bind fun b => aBin P op t a b
  | .unOp op _ x => (ev x).bind fun v => aUn op v
  | .convert s d x => (ev x).bind fun v => aConvert P s d v H
  | .makeFunc (.func f) first caps => if first.size = 0 then (evL ev caps.toList).map fun cs => .func f cs else none
  | .slice t x lo hi mx => (ev x).bind fun v => (evO ev lo).bind fun lo => (evO ev hi).bind fun hi => (evO ev mx).bind fun mx => aSlice P t v lo hi mx
  | .fieldAddr s x f => (ev x).bind fun v => aFieldAddr P s f v
  | .field t x f => (ev x).bind fun v => aField P t f v
  | .indexAddr t x i => (ev x).bind fun v => (ev i).bind fun i => aIndexAddr P t v i
  | .index t x i => (ev x).bind fun v => (ev i).bind fun i => aIndex P t v i
  | .extract x i => (ev x).bind fun v => aExtract v i
  | .call c => (match c.callee with
    | .builtin .len => (match c.args.toList, c.argTypes.toList with
      | [x], [t] => (ev x).bind fun v => aLen P t v
      | _, _ => none)
    | _ => none)
  | _ => none

/-- The operations that make a block. -/
def aNew (P : Program) (ev : Operand → Option AV) (o : Op) : Option NB := match o with
  | .alloc e => nAlloc P e
  | .box e x => (ev x).bind fun v => nBox e v
  | .buildSlice t len parts => (evP ev parts.toList).bind fun ps => nBuildSlice P t len ps
  | .makeSlice t l c => (ev l).bind fun l => (ev c).bind fun c => nMakeSlice P t l c
  | _ => none

/-- The operations that write, or call. -/
def aHeavy (P : Program) (call : CallF) (ev : Operand → Option AV) (o : Op) (H : AH) : Option (AV × AH) := match o with
  | .store t a x => (ev a).bind fun p => (ev x).bind fun v => (aStore P t p v H).map fun H' => (.tuple [], H')
  | .call c => (match c.callee with
    | .value f => (ev f).bind fun fv => (match fv with
      | .func f cs => (evL ev c.args.toList).bind fun vs => call f (vs ++ cs) H
      | _ => none)
    | .builtin .append => (match c.args.toList, c.argTypes.toList with
      | [s, x], [st, xt] => (ev s).bind fun s => (ev x).bind fun x => aAppend P st xt s x H
      | _, _ => none)
    | .builtin .copy => (match c.args.toList, c.argTypes.toList with
      | [s, x], [st, xt] => (ev s).bind fun s => (ev x).bind fun x => aCopy P st s x H
      | _, _ => none)
    | .builtin .clear => (match c.args.toList, c.argTypes.toList with
      | [x], [t] => (ev x).bind fun x => aClear P t x H
      | _, _ => none)
    | _ => none)
  | _ => none

section
variable {P : Program} {ρ : Ro} {H : AH} {w : World}

def EvRel (ρ : Ro) (ev : Operand → Option AV) (e' : Operand → Value) : Prop := ∀ x c, ev x = some c → rel ρ c (e' x)
theorem evL_sound {ev : Operand → Option AV} {e' : Operand → Value} (h : EvRel ρ ev e') : ∀ {xs : List Operand} {vs}, evL ev xs = some vs → relL ρ vs (xs.map e')
  | [], vs, k => by simp [evL] at k; subst k; simp [relL]
  | x :: xs, vs, k => by
    simp only [evL, Option.bind_eq_some_iff, Option.map_eq_some_iff] at k
    obtain ⟨v, hv, us, hus, rfl⟩ := k
    exact relL_cons (h _ _ hv) (evL_sound h hus)
theorem evP_sound {ev : Operand → Option AV} {e' : Operand → Value} (h : EvRel ρ ev e') : ∀ {xs : List (Nat × Operand)} {vs}, evP ev xs = some vs → partsRel ρ vs (xs.map fun (i, x) => (i, e' x))
  | [], vs, k => by simp [evP] at k; subst k; trivial
  | (i, x) :: xs, vs, k => by
    simp only [evP, Option.bind_eq_some_iff, Option.map_eq_some_iff] at k
    obtain ⟨v, hv, us, hus, rfl⟩ := k
    exact ⟨rfl, h _ _ hv, evP_sound h hus⟩
theorem evO_sound {ev : Operand → Option AV} {e' : Operand → Value} (h : EvRel ρ ev e') {x : Option Operand} {v : Option AV} (k : evO ev x = some v) : oRel ρ v (x.map e') := by
  cases x with
  | none => cases k; trivial
  | some x =>
    simp only [evO, Option.map_eq_some_iff] at k
    obtain ⟨u, hu, rfl⟩ := k
    exact h _ _ hu

theorem list_one {α : Type} {a : Array α} {x : α} (h : a.toList = [x]) : a = #[x] := by apply Array.ext'; simpa using h
theorem list_two {α : Type} {a : Array α} {x y : α} (h : a.toList = [x, y]) : a = #[x, y] := by apply Array.ext'; simpa using h

theorem aLight_sound (h : Sim P ρ H w) {ev : Operand → Option AV} {e' : Operand → Value} (he : EvRel ρ ev e') {o : Oper} {v : AV} (hc : aLight P ev o.op H = some v) :
    ∃ v', (execOp e' o).run P w = .ok (.value v') w ∧ rel ρ v v' := by
  have fin : ∀ {s : Sem Value} {v' : Value}, s.run P w = .ok v' w → (do pure (Next.value (← s)) : Sem Next).run P w = .ok (.value v') w := fun hs => by simp [hs]
  unfold aLight at hc
  split at hc
  · rename_i x ho
    exact ⟨e' x, by simp [execOp, ho], he _ _ hc⟩
  · rename_i x ho
    exact ⟨e' x, by simp [execOp, ho], he _ _ hc⟩
  · rename_i c a b ho
    simp only [Option.bind_eq_some_iff] at hc
    obtain ⟨cv, hcv, t, ht, hc⟩ := hc
    unfold asB at ht
    split at ht
    · cases ht
      have hcr := he _ _ hcv
      simp only [rel] at hcr
      refine ⟨if t = true then e' a else e' b, by simp [execOp, ho, hcr, asBool], ?_⟩
      split at hc
      · rename_i htt; rw [if_pos htt]; exact he _ _ hc
      · rename_i htt; rw [if_neg htt]; exact he _ _ hc
    · cases ht
  · rename_i t parts ho
    simp only [Option.bind_eq_some_iff] at hc
    obtain ⟨ps, hps, hc⟩ := hc
    have hp := evP_sound he hps
    obtain ⟨c', hrun, hr⟩ := aBuild_sound (P := P) (w := w) (parts' := parts.map fun (i, x) => (i, e' x)) (by simpa using hp) hc
    exact ⟨c', by simp only [execOp, ho]; exact fin hrun, hr⟩
  · rename_i t x ho
    simp only [Option.bind_eq_some_iff] at hc
    obtain ⟨xv, hx, hc⟩ := hc
    obtain ⟨c', hrun, hr⟩ := aLoad_sound h (he _ _ hx) hc
    exact ⟨c', by simp only [execOp, ho]; exact fin hrun, hr⟩
  · rename_i x ho
    simp only [Option.bind_eq_some_iff] at hc
    obtain ⟨xv, hx, hc⟩ := hc
    unfold nilC at hc
    split at hc
    · rename_i p
      cases hc
      have hr := he _ _ hx
      obtain ⟨r, hrr, hv⟩ := rel_ptr hr
      exact ⟨e' x, by simp [execOp, ho, hv], hr⟩
    · cases hc
  · rename_i op t x y _ ho
    simp only [Option.bind_eq_some_iff] at hc
    obtain ⟨xv, hx, yv, hy, hc⟩ := hc
    obtain ⟨c', hrun, hr⟩ := aBin_sound (P := P) (w := w) x y (he _ _ hx) (he _ _ hy) hc
    exact ⟨c', by simp only [execOp, ho]; exact fin hrun, hr⟩
  · rename_i op _ x ho
    simp only [Option.bind_eq_some_iff] at hc
    obtain ⟨xv, hx, hc⟩ := hc
    obtain ⟨c', hrun, hr⟩ := aUn_sound (P := P) (w := w) (he _ _ hx) hc
    exact ⟨c', by simp only [execOp, ho]; exact fin hrun, hr⟩
  · rename_i s d x ho
    simp only [Option.bind_eq_some_iff] at hc
    obtain ⟨xv, hx, hc⟩ := hc
    obtain ⟨c', hrun, hr⟩ := aConvert_sound h (he _ _ hx) hc
    exact ⟨c', by simp only [execOp, ho]; exact fin hrun, hr⟩
  · rename_i f first caps ho
    split at hc
    · rename_i hz
      simp only [Option.map_eq_some_iff] at hc
      obtain ⟨cs, hcs, rfl⟩ := hc
      have hf : first = #[] := Array.eq_empty_of_size_eq_zero hz
      subst hf
      refine ⟨.func (.func f) #[] (caps.map e'), by simp [execOp, ho, Instr.makeFunc], (caps.map e').toList, by simpa using evL_sound he hcs, by simp only [Array.toArray_toList]⟩
    · cases hc
  · rename_i t x lo hi mx ho
    simp only [Option.bind_eq_some_iff] at hc
    obtain ⟨xv, hx, lv, hl, hv, hh, mv, hm, hc⟩ := hc
    obtain ⟨c', hrun, hr⟩ := aSlice_sound (P := P) (w := w) (he _ _ hx) (evO_sound he hl) (evO_sound he hh) (evO_sound he hm) hc
    exact ⟨c', by simp only [execOp, ho]; exact fin hrun, hr⟩
  · rename_i s x f ho
    simp only [Option.bind_eq_some_iff] at hc
    obtain ⟨xv, hx, hc⟩ := hc
    obtain ⟨c', hrun, hr⟩ := aFieldAddr_sound (P := P) (w := w) (he _ _ hx) hc
    exact ⟨c', by simp only [execOp, ho]; exact fin hrun, hr⟩
  · rename_i s x f ho
    simp only [Option.bind_eq_some_iff] at hc
    obtain ⟨xv, hx, hc⟩ := hc
    obtain ⟨c', hrun, hr⟩ := aField_sound (P := P) (w := w) (he _ _ hx) hc
    exact ⟨c', by simp only [execOp, ho]; exact fin hrun, hr⟩
  · rename_i t x i ho
    simp only [Option.bind_eq_some_iff] at hc
    obtain ⟨xv, hx, iv, hi, hc⟩ := hc
    obtain ⟨c', hrun, hr⟩ := aIndexAddr_sound (P := P) (w := w) (he _ _ hx) (he _ _ hi) hc
    exact ⟨c', by simp only [execOp, ho]; exact fin hrun, hr⟩
  · rename_i t x i ho
    simp only [Option.bind_eq_some_iff] at hc
    obtain ⟨xv, hx, iv, hi, hc⟩ := hc
    obtain ⟨c', hrun, hr⟩ := aIndex_sound (P := P) (w := w) (he _ _ hx) (he _ _ hi) hc
    exact ⟨c', by simp only [execOp, ho]; exact fin hrun, hr⟩
  · rename_i x i ho
    simp only [Option.bind_eq_some_iff] at hc
    obtain ⟨xv, hx, hc⟩ := hc
    obtain ⟨c', hrun, hr⟩ := aExtract_sound (P := P) (w := w) (he _ _ hx) hc
    exact ⟨c', by simp only [execOp, ho]; exact fin hrun, hr⟩
  · rename_i c ho
    split at hc
    · rename_i hcal
      split at hc
      · rename_i x t ha ht
        simp only [Option.bind_eq_some_iff] at hc
        obtain ⟨xv, hx, hc⟩ := hc
        obtain ⟨c', hrun, hr⟩ := aLen_sound (P := P) (w := w) (ty := o.type) (he _ _ hx) hc
        exact ⟨c', by simp [execOp, ho, resolve, hcal, invoke, builtin, list_one ha, list_one ht, hrun], hr⟩
      · cases hc
    · cases hc
  · cases hc

theorem aNew_sound {ev : Operand → Option AV} {e' : Operand → Value} (he : EvRel ρ ev e') {o : Oper} {nb : NB} (hc : aNew P ev o.op = some nb) :
    ∃ arr v', (execOp e' o).run P w = .ok (.value v') (w.alloc (.cells arr nb.elem)) ∧ relL ρ nb.cells arr.toList ∧ nb.cells.all AV.isOne = true ∧ ∀ (ρ' : Ro) id, ρ' id = some ⟨w.heap.size, 0, arr.size⟩ → rel ρ' (nb.val id) v' := by
  unfold aNew at hc
  split at hc
  · rename_i e ho
    obtain ⟨arr, v', hrun, h1, h2, h3⟩ := nAlloc_sound (P := P) (ρ := ρ) (w := w) hc (.tuple #[])
    exact ⟨arr, v', by simp [execOp, ho, hrun], h1, h2, h3⟩
  · rename_i e x ho
    simp only [Option.bind_eq_some_iff] at hc
    obtain ⟨xv, hx, hc⟩ := hc
    obtain ⟨arr, v', hrun, h1, h2, h3⟩ := nBox_sound (P := P) (w := w) (he _ _ hx) hc
    exact ⟨arr, v', by simp [execOp, ho, hrun], h1, h2, h3⟩
  · rename_i t len parts ho
    simp only [Option.bind_eq_some_iff] at hc
    obtain ⟨ps, hps, hc⟩ := hc
    have hp := evP_sound he hps
    obtain ⟨arr, v', hrun, h1, h2, h3⟩ := nBuildSlice_sound (P := P) (w := w) (parts' := parts.map fun (i, x) => (i, e' x)) (by simpa using hp) hc
    exact ⟨arr, v', by simp [execOp, ho, hrun], h1, h2, h3⟩
  · rename_i t l c ho
    simp only [Option.bind_eq_some_iff] at hc
    obtain ⟨lv, hl, cv, hcv, hc⟩ := hc
    obtain ⟨arr, v', hrun, h1, h2, h3⟩ := nMakeSlice_sound (P := P) (w := w) (he _ _ hl) (he _ _ hcv) hc
    exact ⟨arr, v', by simp [execOp, ho, hrun], h1, h2, h3⟩
  · cases hc

/-- What is asked of calls. -/
def CallOk (P : Program) (call : CallF) : Prop := ∀ f vs H v H', call f vs H = some (v, H') →
  (∃ fn, P.funcs[f]? = some fn ∧ (fn.name == "runtime.NumGoroutine") = false ∧ fn.body.isNone = false) ∧
  ∀ ρ w us, Sim P ρ H w → relL ρ vs us → Calls P f us.toArray w fun e w' => ∃ ρ' v', e = .returned v' ∧ rel ρ' v v' ∧ Out P ρ H w ρ' H' w'

theorem aHeavy_sound {call : CallF} (hcall : CallOk P call) (h : Sim P ρ H w) {ev : Operand → Option AV} {a : Act} (he : EvRel ρ ev a.eval) {o : Oper} {v : AV} {H' : AH} (hc : aHeavy P call ev o.op H = some (v, H'))
    {K : Act → World → Prop} {Q : Exit → Act → World → Prop} (hK : ∀ ρ' v' w', Out P ρ H w ρ' H' w' → rel ρ' v v' → K (a.put o.dst v') w') : o.wp P a w K Q := by
  unfold aHeavy at hc
  split at hc
  · rename_i t p x ho
    simp only [Option.bind_eq_some_iff, Option.map_eq_some_iff] at hc
    obtain ⟨pv, hp, xv, hx, H1, hst, hc⟩ := hc
    cases hc
    obtain ⟨w', hrun, hout⟩ := aStore_sound h (he _ _ hp) (he _ _ hx) hst
    have : (execOp a.eval o).run P w = .ok .skip w' := by simp [execOp, ho, hrun]
    unfold Oper.wp
    rw [this]
    exact hK ρ undef w' hout ⟨[], relL_nil ρ, rfl⟩
  · rename_i c ho
    split at hc
    · rename_i f hcal
      simp only [Option.bind_eq_some_iff] at hc
      obtain ⟨fv, hf, hc⟩ := hc
      split at hc
      · rename_i g cs
        simp only [Option.bind_eq_some_iff] at hc
        obtain ⟨vs, hvs, hc⟩ := hc
        obtain ⟨⟨fn, hfn, hname, hbody⟩, hC⟩ := hcall _ _ _ _ _ hc
        obtain ⟨cs', hcs', hfv⟩ := he _ _ hf
        have hargs := evL_sound he hvs
        have hall := relL_append hargs hcs'
        have hrun : (execOp a.eval o).run P w = .ok (.enter g (c.args.map a.eval ++ cs'.toArray)) w := by
          simp only [execOp, ho, resolve, hcal, hfv, Deferred.ofValue, Sem.run_bind, Sem.run_pure, Result.andThen_ok, invoke, callFunc, run_program, hfn, hname, hbody]
          simp
        unfold Oper.wp
        rw [hrun, Oper.upon_enter]
        have e1 : (c.args.map a.eval ++ cs'.toArray) = (c.args.toList.map a.eval ++ cs').toArray := by apply Array.ext'; simp
        rw [e1]
        refine (hC ρ w _ h hall).mono ?_
        rintro e w' ⟨ρ', v', rfl, hr, hout⟩
        exact hK ρ' v' w' hout hr
      · cases hc
    · rename_i hcal
      split at hc
      · rename_i s x st xt ha ht
        simp only [Option.bind_eq_some_iff] at hc
        obtain ⟨sv, hs, xv, hx, hc⟩ := hc
        obtain ⟨ρ', v', w', hrun, hr, hout⟩ := aAppend_sound (ty := o.type) h (he _ _ hs) (he _ _ hx) hc
        have : (execOp a.eval o).run P w = .ok (.value v') w' := by simp [execOp, ho, resolve, hcal, invoke, builtin, list_two ha, list_two ht, hrun]
        unfold Oper.wp
        rw [this]
        exact hK ρ' v' w' hout hr
      · cases hc
    · rename_i hcal
      split at hc
      · rename_i s x st xt ha ht
        simp only [Option.bind_eq_some_iff] at hc
        obtain ⟨sv, hs, xv, hx, hc⟩ := hc
        obtain ⟨v', w', hrun, hr, hout⟩ := aCopy_sound (ty := o.type) (st := xt) h (he _ _ hs) (he _ _ hx) hc
        have : (execOp a.eval o).run P w = .ok (.value v') w' := by simp [execOp, ho, resolve, hcal, invoke, builtin, list_two ha, list_two ht, hrun]
        unfold Oper.wp
        rw [this]
        exact hK ρ v' w' hout hr
      · cases hc
    · rename_i hcal
      split at hc
      · rename_i x t ha ht
        simp only [Option.bind_eq_some_iff] at hc
        obtain ⟨xv, hx, hc⟩ := hc
        obtain ⟨v', w', hrun, hr, hout⟩ := aClear_sound (ty := o.type) h (he _ _ hx) hc
        have : (execOp a.eval o).run P w = .ok (.value v') w' := by simp [execOp, ho, resolve, hcal, invoke, builtin, list_one ha, list_one ht, hrun]
        unfold Oper.wp
        rw [this]
        exact hK ρ v' w' hout hr
      · cases hc
    · cases hc
  · cases hc
end
end Go.Ri
