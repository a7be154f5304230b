/- Functions and calls. -/
import Derived.Test.YthiflgncldmkjaaDoorRi
set_option linter.unusedVariables false
set_option linter.unusedSimpArgs false
namespace Go.Ri

def T0 (args : List AV) : Tm := fun t => args.getD t (.tuple [])
def resL (P : Program) (T : Tm) (H : AH) : List ResultVar → Option (List AV)
  | [] => some []
  | .tmp t :: rs => (resL P T H rs).map fun vs => T t :: vs
  | .cell a t :: rs => (aLoad P t (T a) H).bind fun v => (resL P T H rs).map fun vs => v :: vs
def oneOf : List AV → AV
  | [v] => v
  | vs => .tuple vs
def aRes (P : Program) (T : Tm) (H : AH) (rs : List ResultVar) : Option AV := (resL P T H rs).map oneOf

abbrev DrawG := Nat → CallF → DrawF
def endOf (P : Program) (rs : List ResultVar) (r : Ex × St) : Option (AV × AH) := match r.1 with
  | .exit _ => none
  | _ => (aRes P r.2.1 r.2.2 rs).map fun v => (v, r.2.2)
def aFun (P : Program) (draw : DrawG) (call : CallF) (it : ItF) : CallF := fun f args H => match P.funcs[f]? with
  | some fn => (match fn.body with
    | some c => if args.length ≤ fn.ntmps ∧ (fn.name == "runtime.NumGoroutine") = false then
        (aCode P fn.ntmps call (draw fn.ntmps call) it c (T0 args) H).bind (endOf P fn.results.toList) else none
    | none => none)
  | none => none
def aCall (P : Program) (draw : DrawG) : Nat → CallF
  | 0 => fun _ _ _ => none
  | n + 1 => aFun P draw (aCall P draw n) (iter n)

section
variable {P : Program}
theorem T0_rel {ρ : Ro} {args : List AV} {us : List Value} {nt : Nat} (h : relL ρ args us) (hl : args.length ≤ nt) :
    TRel ρ nt (T0 args) { tmps := us.toArray ++ Array.replicate (nt - us.toArray.size) undef, defers := [] } := by
  have hlen := relL_length h
  refine ⟨by simp; omega, fun t => ?_⟩
  by_cases ht : t < args.length
  · obtain ⟨v, hv, hi⟩ := relL_get h t args[t] (List.getElem?_eq_getElem ht)
    have e1 : T0 args t = args[t] := by simp [T0, List.getD_eq_getElem?_getD, List.getElem?_eq_getElem ht]
    have e2 : (us.toArray ++ Array.replicate (nt - us.toArray.size) undef).getD t undef = v := by
      rw [Array.getD_eq_getD_getElem?, Array.getElem?_append_left (by simp; omega)]
      simp [hi]
    rw [e1, e2]
    exact hv
  · have e1 : T0 args t = .tuple [] := by simp [T0, List.getD_eq_getElem?_getD, List.getElem?_eq_none (Nat.le_of_not_lt ht)]
    have e2 : (us.toArray ++ Array.replicate (nt - us.toArray.size) undef).getD t undef = undef := by
      rw [Array.getD_eq_getD_getElem?, Array.getElem?_append_right (by simp; omega), Array.getElem?_replicate]
      split <;> rfl
    rw [e1, e2]
    exact ⟨[], relL_nil ρ, rfl⟩

def resF (tmps : Array Value) : ResultVar → Sem Value
  | .tmp t => pure (tmps.getD t undef)
  | .cell x t => do loadVar t (← asAddr (tmps.getD x undef))
theorem resL_sound {ρ : Ro} {H : AH} {w : World} {nt : Nat} {T : Tm} {a : Act} (h : Sim P ρ H w) (ht : TRel ρ nt T a) : ∀ (rs : List ResultVar) (vs : List AV), resL P T H rs = some vs →
    ∃ us, relL ρ vs us ∧ (rs.mapM (resF a.tmps)).run P w = .ok us w
  | [], vs, hr => by cases hr; exact ⟨[], relL_nil ρ, by simp⟩
  | .tmp t :: rs, vs, hr => by
    simp only [resL, Option.map_eq_some_iff] at hr
    obtain ⟨us, hus, rfl⟩ := hr
    obtain ⟨ws, hw, hrun⟩ := resL_sound h ht rs us hus
    exact ⟨_, relL_cons (ht.2 t) hw, by simp only [List.mapM_cons, Sem.run_bind, resF, Sem.run_pure, Result.andThen_ok, hrun]⟩
  | .cell x t :: rs, vs, hr => by
    simp only [resL, Option.bind_eq_some_iff, Option.map_eq_some_iff] at hr
    obtain ⟨v, hv, us, hus, rfl⟩ := hr
    obtain ⟨ws, hw, hrun⟩ := resL_sound h ht rs us hus
    obtain ⟨v', hl, hvr⟩ := aLoad_sound h (ht.2 x) hv
    have hp : ∃ p, T x = .ptr (some p) := by
      unfold aLoad at hv
      split at hv
      · unfold ldAgg at hv
        split at hv
        · exact ⟨_, by assumption⟩
        · cases hv
      · unfold ldOne at hv
        split at hv
        · exact ⟨_, by assumption⟩
        · cases hv
      · cases hv
    obtain ⟨p, hp⟩ := hp
    have hx := ht.2 x
    rw [hp] at hx
    obtain ⟨r, hr, hxv⟩ := rel_ptr hx
    rw [hxv] at hl
    simp only [Instr.loadAt, Instr.sureAddr, Sem.run_bind, Sem.run_pure, Result.andThen_ok] at hl
    exact ⟨_, relL_cons hvr hw, by simp only [List.mapM_cons, Sem.run_bind, resF, hxv, asAddr, Sem.run_pure, Result.andThen_ok, hl, hrun]⟩

theorem aRes_sound {ρ : Ro} {H : AH} {w : World} {nt : Nat} {T : Tm} {a : Act} (h : Sim P ρ H w) (ht : TRel ρ nt T a) {fn : Func} {v : AV} (hr : aRes P T H fn.results.toList = some v) :
    ∃ v', rel ρ v v' ∧ (results fn a.tmps).run P w = .ok v' w := by
  simp only [aRes, Option.map_eq_some_iff] at hr
  obtain ⟨vs, hvs, rfl⟩ := hr
  obtain ⟨us, hus, hrun⟩ := resL_sound h ht _ vs hvs
  have hm : (results fn a.tmps).run P w = .ok (if h : us.toArray.size = 1 then us.toArray[0] else .tuple us.toArray) w := by
    have : results fn a.tmps = (do let vs ← fn.results.mapM (resF a.tmps); pure (if h : vs.size = 1 then vs[0] else .tuple vs) : Sem Value) := rfl
    rw [this, Array.mapM_eq_mapM_toList]
    simp only [Sem.run_bind, Sem.run_map, hrun, Result.andThen_ok, Sem.run_pure]
  have hlen := relL_length hus
  unfold oneOf
  split
  · simp only [relL] at hus
    obtain ⟨x, us', hx, rfl, rfl⟩ := hus
    refine ⟨x, hx, ?_⟩
    rw [hm]
    simp
  · rename_i hne
    refine ⟨.tuple us.toArray, ⟨us, hus, rfl⟩, ?_⟩
    rw [hm, dif_neg]
    intro e
    rw [List.size_toArray, hlen] at e
    match vs, e with
    | [v], _ => exact hne v rfl

theorem aFun_sound {draw : DrawG} {call : CallF} {n : Nat} (hcall : CallOk P call) (hdraw : ∀ nt, DrawOk P nt (draw nt call)) : CallOk P (aFun P draw call (iter n)) := by
  intro f vs H v H' hc
  unfold aFun at hc
  split at hc
  · rename_i fn hfn
    split at hc
    · rename_i c hb
      split at hc
      · rename_i hcond
        refine ⟨⟨fn, hfn, hcond.2, by simp [hb]⟩, fun ρ w us h hus => ?_⟩
        simp only [Option.bind_eq_some_iff] at hc
        obtain ⟨⟨e, T', H1⟩, hcode, hend⟩ := hc
        refine calls_of_wp hfn hb ?_
        refine aCode_sound hcall (hdraw fn.ntmps) c ρ H w (T0 vs) T' H1 _ e _ h (T0_rel hus hcond.1) rfl hcode fun ρ1 a1 w1 ho1 ht1 hd1 => ?_
        have key : ∀ v0, aRes P T' H1 fn.results.toList = some v0 → (v0, H1) = (v, H') → (a1.defers = [] ∧ ∃ v1, (results fn a1.tmps).run P w1 = .ok v1 w1 ∧
            (∃ ρ' v', Ending.returned v1 = .returned v' ∧ rel ρ' v v' ∧ Out P ρ H w ρ' H' w1)) := by
          intro v0 hv0 he
          cases he
          obtain ⟨v', hr, hrun⟩ := aRes_sound (fn := fn) ho1.sim ht1 hv0
          exact ⟨hd1, v', hrun, ρ1, v', rfl, hr, ho1⟩
        unfold endOf at hend
        cases e with
        | normal =>
          simp only [Option.map_eq_some_iff] at hend
          obtain ⟨v0, hv0, he⟩ := hend
          exact key v0 hv0 he
        | exit id => cases hend
        | ret =>
          simp only [Option.map_eq_some_iff] at hend
          obtain ⟨v0, hv0, he⟩ := hend
          exact key v0 hv0 he
      · cases hc
    · cases hc
  · cases hc

theorem aCall_sound {draw : DrawG} (hdraw : ∀ nt call, CallOk P call → DrawOk P nt (draw nt call)) : ∀ n, CallOk P (aCall P draw n)
  | 0 => fun f vs H v H' hc => by cases hc
  | n + 1 => aFun_sound (aCall_sound hdraw n) fun nt => hdraw nt _ (aCall_sound hdraw n)
end
end Go.Ri
