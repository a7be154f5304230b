/- The two spellings of the interpreter are one. -/
import Derived.Test.YthiflgncldmkjaaDoorRk
set_option linter.unusedVariables false
set_option linter.unusedSimpArgs false
namespace Go.Ri
section
variable {R : Type}

theorem drawGo_bind (P : Program) (nt : Nat) (call : CallF) (ops : Array Oper) (anc : List Nat) (K : Tm → AH → Option R) : ∀ (l : List Oper) (i id : Nat) (T : Tm) (G : AH) (mb : Nat) (all : List FL) (vers : List (Nat × AH × Nat)) (pend : List PL) (chks : List (Option AV × Option AV)),
    drawGo P nt call ops anc K l i id T G mb all vers pend chks = (drawGo P nt call ops anc (fun T H => some (T, H)) l i id T G mb all vers pend chks).bind fun s => K s.1 s.2
  | [], i, id, T, G, mb, all, vers, pend, chks => by
    simp only [drawGo, chkL_eq, chk_bind, Option.bind_some]
  | o :: l, i, id, T, G, mb, all, vers, pend, chks => by
    simp only [drawGo]
    cases dK o.op with
    | pure => simp only [Option.bind_assoc, drawGo_bind P nt call ops anc K l]
    | read => simp only [Option.bind_assoc, drawGo_bind P nt call ops anc K l]
    | new => simp only [Option.bind_assoc, drawGo_bind P nt call ops anc K l]
    | heavy => simp only [Option.bind_assoc, drawGo_bind P nt call ops anc K l]

theorem drawK_bind (P : Program) (nt : Nat) (call : CallF) (ops : Array Oper) (T : Tm) (H : AH) (K : Tm → AH → Option R) : drawK P nt call ops T H K = (drawA P nt call ops T H).bind fun s => K s.1 s.2 := by
  unfold drawA drawK
  split
  · exact drawGo_bind P nt call ops _ K _ _ _ _ _ _ _ _ _ _
  · rfl

theorem gheavy_eq (ops : Array Oper) (T : Tm) (o : Oper) (G : AH) (x : Option (AV × AH)) (k : AV × AH → Option R) :
    (gheavy ops T o G x).bind k = (gd ops T o).bind fun g => if g = true then x.bind k else k (.tuple [], G) := by
  unfold gheavy
  rw [Option.bind_assoc]
  congr 1
  funext g
  split <;> rfl
theorem gval_eq (ops : Array Oper) (T : Tm) (o : Oper) (x : Option AV) (k : AV → Option R) :
    (gval ops T o x).bind k = (gd ops T o).bind fun g => if g = true then x.bind k else k (.tuple []) := by
  unfold gval
  rw [Option.bind_assoc]
  congr 1
  funext g
  split <;> rfl

theorem aOpsK_bind (P : Program) (nt : Nat) (call : CallF) (ops : Array Oper) (K : Tm → AH → Option R) : ∀ (l : List Oper) (T : Tm) (H : AH),
    aOpsK P nt call ops K l T H = (aOps P nt call ops l T H).bind fun s => K s.1 s.2
  | [], T, H => rfl
  | o :: l, T, H => by
    have ih : ∀ T H, aOpsK P nt call ops K l T H = (aOps P nt call ops l T H).bind fun s => K s.1 s.2 := aOpsK_bind P nt call ops K l
    have comm : ∀ (x : Option (AV × AH)), ((gd ops T o).bind fun g => if g = true then x.bind fun r => (putA nt T o.dst r.1).bind fun T' => aOps P nt call ops l T' r.2 else (putA nt T o.dst (.tuple [])).bind fun T' => aOps P nt call ops l T' H).bind (fun s => K s.1 s.2) =
        (gd ops T o).bind fun g => if g = true then x.bind fun r => (putA nt T o.dst r.1).bind fun T' => aOpsK P nt call ops K l T' r.2 else (putA nt T o.dst (.tuple [])).bind fun T' => aOpsK P nt call ops K l T' H := by
      intro x
      rw [Option.bind_assoc]
      congr 1
      funext g
      split
      · simp only [Option.bind_assoc, ih]
      · simp only [Option.bind_assoc, ih]
    simp only [aOps, comm]
    rw [aOpsK]
    cases hk : opK o.op with
    | light =>
      simp only [gval_eq, aOp, hk]
      congr 1
      funext g
      split
      · simp only [Option.bind_map]; rfl
      · rfl
    | new =>
      simp only [aOp, hk]
      cases hg : o.guard with
      | none =>
        simp only [gd, hg, Option.bind_some, if_true, Option.bind_map]
        rfl
      | some q =>
        simp only [gheavy_eq]
    | heavy => simp only [gheavy_eq, aOp, hk]

theorem bind_id (x : Option R) (f : R → Option R) (h : ∀ r, f r = some r) : x.bind f = x := by
  cases x with
  | none => rfl
  | some r => exact h r

theorem aCodeK_bind (P : Program) (nt : Nat) (call : CallF) (it : ItF) : ∀ {R : Type} (c : Code) (T : Tm) (H : AH) (K : Ex → Tm → AH → Option R),
    aCodeK P nt call it c T H K = (aCode P nt call (drawA P nt call) it c T H).bind fun r => K r.1 r.2.1 r.2.2 := by
  intro R c
  induction c generalizing R with
  | skip => intro T H K; rfl
  | label l => intro T H K; rfl
  | region id ops d =>
    intro T H K
    simp only [aCodeK, aCode]
    cases d with
    | true =>
      simp only [if_true, drawK_bind, Option.bind_map]
      rfl
    | false =>
      simp only [Bool.false_eq_true, if_false, aOpsK_bind, Option.bind_map]
      rfl
  | seq x y ihx ihy =>
    intro T H K
    simp only [aCodeK, aCode]
    split
    · rw [ihx, Option.bind_assoc]
      congr 1
      funext r
      obtain ⟨e, T1, H1⟩ := r
      cases e with
      | normal => exact ihy T1 H1 K
      | exit j => rfl
      | ret => rfl
    · rw [ihx]
      unfold jn
      rw [Option.bind_assoc, Option.bind_assoc]
      congr 1
      funext r
      obtain ⟨e, T1, H1⟩ := r
      cases e with
      | normal => exact ihy T1 H1 K
      | exit j => simp only [jK, Option.bind_map, Option.bind_some]; exact bind_id _ _ fun _ => rfl
      | ret => simp only [jK, Option.bind_map, Option.bind_some]; exact bind_id _ _ fun _ => rfl
  | cond c x y ihx ihy =>
    intro T H K
    simp only [aCodeK, aCode, Option.bind_assoc]
    congr 1
    funext v
    congr 1
    funext t
    split
    · exact ihx T H K
    · exact ihy T H K
  | block id c ih =>
    intro T H K
    simp only [aCodeK, aCode]
    split
    · rw [ih, Option.bind_map]
      congr 1
      funext r
      obtain ⟨e, T1, H1⟩ := r
      cases e with
      | normal => rfl
      | exit j =>
        simp only [Function.comp, cK]
        split <;> rfl
      | ret => rfl
    · rw [ih, Option.bind_map]
      unfold jn
      rw [Option.bind_assoc]
      congr 1
      funext r
      obtain ⟨e, T1, H1⟩ := r
      cases e with
      | normal => rfl
      | exit j =>
        simp only [Function.comp, bK]
        split
        · rfl
        · simp only [Option.bind_map]; exact bind_id _ _ fun _ => rfl
      | ret => simp only [Function.comp, bK, Option.bind_map]; exact bind_id _ _ fun _ => rfl
  | loop c ih =>
    intro T H K
    simp only [aCodeK, aCode, ih, Option.bind_assoc]
    have : ∀ x : Option (Ex × St), (x.bind fun r => rK r.1 r.2.1 r.2.2) = x := fun x => by cases x <;> rfl
    simp only [this]
    congr 1
    funext r
    obtain ⟨e, T1, H1⟩ := r
    cases e <;> rfl
  | rangeFunc f params assign body ih1 ih2 => intro T H K; rfl
  | exit id => intro T H K; rfl
  | scope c ih => intro T H K; simp only [aCodeK, aCode, ih]
  | goto l => intro T H K; rfl
  | ret => intro T H K; rfl
  | refuse why => intro T H K; rfl

/-- A function, as code with what comes behind it. -/
def endK (P : Program) (rs : List ResultVar) (e : Ex) (T : Tm) (H : AH) : Option (AV × AH) := match e with
  | .exit _ => none
  | _ => (aRes P T H rs).map fun v => (v, H)
theorem aFun_eq {P : Program} {call : CallF} {it : ItF} {f : FuncId} {fn : Func} {c : Code} (hf : P.funcs[f]? = some fn) (hb : fn.body = some c) (hn : (fn.name == "runtime.NumGoroutine") = false) (args : List AV) (H : AH) (hl : args.length ≤ fn.ntmps) :
    aFun P (drawA P) call it f args H = aCodeK P fn.ntmps call it c (T0 args) H (endK P fn.results.toList) := by
  unfold aFun
  simp only [hf, hb]
  rw [if_pos ⟨hl, hn⟩, aCodeK_bind]
  rfl
end
end Go.Ri
