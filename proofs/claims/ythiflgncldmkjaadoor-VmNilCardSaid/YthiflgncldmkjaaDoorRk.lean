/- The same, with what comes behind handed along: so that code unfolds into plain steps. And regions that draw their order. -/
import Derived.Test.YthiflgncldmkjaaDoorRj
set_option linter.unusedVariables false
set_option linter.unusedSimpArgs false
namespace Go.Ri

open Classical in
noncomputable def chk {α : Type} (p : Prop) (x : Option α) : Option α := if p then x else none
theorem chk_some {α : Type} {p : Prop} {x : Option α} {y : α} (h : chk p x = some y) : p ∧ x = some y := by
  unfold chk at h
  split at h
  · exact ⟨by assumption, h⟩
  · cases h
theorem chk_pos {α : Type} {p : Prop} (h : p) (x : Option α) : chk p x = x := by unfold chk; rw [if_pos h]
theorem chk_bind {α β : Type} (p : Prop) (x : Option α) (f : α → Option β) : (chk p x).bind f = chk p (x.bind f) := by
  unfold chk
  split <;> rfl

def allEq : List (Option AV × Option AV) → Prop
  | [] => True
  | (a, b) :: l => a = b ∧ allEq l

noncomputable def chkL {α : Type} (l : List (Option AV × Option AV)) (x : Option α) : Option α := match l with
  | [] => x
  | p :: l => chk (allEq (p :: l)) x
theorem chkL_eq {α : Type} (l : List (Option AV × Option AV)) (x : Option α) : chkL l x = chk (allEq l) x := by
  cases l with
  | nil => exact (chk_pos trivial x).symm
  | cons p l => rfl

/-! ### Helpers of the printed functions -/
def updL (T : Nat → AV) (l : List (Nat × AV)) : Nat → AV := l.foldl (fun T p => upd T p.1 p.2) T
def gdv (v : AV) (want : Bool) : Option Bool := match v with
  | .bool b => some (b == want)
  | .tuple _ => some false
  | _ => none
def AH.res (H : AH) (n : Nat) : AH := { H with next := H.next + n }

/-! ### Regions that draw their order -/
structure FL where
  i : Nat
  id : Nat
  B : Blk
def sel (fl : List FL) (A mb : Nat) : List FL := fl.filter fun f => A.testBit f.i && !(mb.testBit f.i)
def selR (fl : List FL) (mb : Nat) : List FL := fl.filter fun f => !(mb.testBit f.i)
def addF (fl : List FL) (G : AH) : AH := fl.foldl (fun G f => G.put f.id f.B) G

/-- The operations that must come first, as bits. -/
def ancStep (acc : List Nat) (o : Oper) : Nat := o.after.toList.foldl (fun s e => if Region.binds .any e = true then s ||| 2 ^ e.on ||| acc.getD e.on 0 else s) 0
def ancB : List Oper → List Nat → List Nat
  | [], acc => acc
  | o :: l, acc => ancB l (acc ++ [ancStep acc o])

inductive DK where
  | pure
  | read
  | new
  | heavy
  deriving DecidableEq
def dK (o : Op) : DK := match opK o with
  | .new => .new
  | .heavy => .heavy
  | .light => match o with
    | .load _ _ => .read
    | .convert _ _ _ => .read
    | _ => .pure

structure PL where
  i : Nat
  f : AH × Nat → Option AV
  v : AV

section
variable {R : Type}
def gval (ops : Array Oper) (T : Tm) (o : Oper) (x : Option AV) : Option AV := (gd ops T o).bind fun g => if g = true then x else some (.tuple [])
def gheavy (ops : Array Oper) (T : Tm) (o : Oper) (G : AH) (x : Option (AV × AH)) : Option (AV × AH) := (gd ops T o).bind fun g => if g = true then x else some (.tuple [], G)

/-- Operations in the order of the text, with the checks that make every other order do the same. -/
noncomputable def drawGo (P : Program) (nt : Nat) (call : CallF) (ops : Array Oper) (anc : List Nat) (K : Tm → AH → Option R) : List Oper → Nat → Nat → Tm → AH → Nat → List FL → List (Nat × AH × Nat) → List PL → List (Option AV × Option AV) → Option R
  | [], _, _, T, G, mb, all, _, _, chks => chkL chks (K T (addF (selR all mb) G))
  | o :: l, i, id, T, G, mb, all, vers, pend, chks => match dK o.op with
    | .pure => (gval ops T o (aLight P (evo P.globals.size T) o.op G)).bind fun v => (putA nt T o.dst v).bind fun T' =>
        drawGo P nt call ops anc K l (i + 1) id T' G mb all vers pend chks
    | .read => ((fun (V : AH × Nat) => gval ops T o (aLight P (evo P.globals.size T) o.op (addF (sel all (anc.getD i 0) V.2) V.1))) (G, mb)).bind fun v => (putA nt T o.dst v).bind fun T' =>
        drawGo P nt call ops anc K l (i + 1) id T' G mb all vers (⟨i, fun V => gval ops T o (aLight P (evo P.globals.size T) o.op (addF (sel all (anc.getD i 0) V.2) V.1)), v⟩ :: pend)
          (((vers.filter fun V => !((anc.getD i 0).testBit V.1)).map fun V => (gval ops T o (aLight P (evo P.globals.size T) o.op (addF (sel all (anc.getD i 0) V.2.2) V.2.1)), some v)) ++ chks)
    | .new => (aNew P (evo P.globals.size T) o.op).bind fun nb => (putA nt T o.dst (nb.val id)).bind fun T' =>
        drawGo P nt call ops anc K l (i + 1) (id + 1) T' G mb (all ++ [⟨i, id, ⟨nb.cells, nb.elem, true⟩⟩]) vers pend chks
    | .heavy => (gheavy ops T o (addF (sel all (anc.getD i 0) mb) G) (aHeavy P call (evo P.globals.size T) o.op (addF (sel all (anc.getD i 0) mb) G))).bind fun r => (putA nt T o.dst r.1).bind fun T' =>
        drawGo P nt call ops anc K l (i + 1) id T' r.2 (mb ||| anc.getD i 0) all ((i, G, mb) :: vers) pend
          (((pend.filter fun p => !((anc.getD i 0).testBit p.i)).map fun p => (p.f (r.2, mb ||| anc.getD i 0), some p.v)) ++ chks)

def looksT (ops : Array Oper) (o : Oper) : List Nat := o.looksAt ops ++ o.dst.toList
def pairOk (ops : Array Oper) (anc : List Nat) (i j : Nat) (x y : Oper) : Bool :=
  (anc.getD j 0).testBit i || (x.apart ops y && !(dK x.op == .heavy && dK y.op == .heavy))
def pairsOk (ops : Array Oper) (anc : List Nat) (j : Nat) (y : Oper) : Nat → List Oper → Bool
  | _, [] => true
  | i, x :: l => (if i < j then pairOk ops anc i j x y else true) && pairsOk ops anc j y (i + 1) l
def allPairs (ops : Array Oper) (anc : List Nat) (whole : List Oper) : Nat → List Oper → Bool
  | _, [] => true
  | j, y :: l => pairsOk ops anc j y 0 whole && allPairs ops anc whole (j + 1) l
def opFine (i : Nat) (o : Oper) : Bool := o.after.toList.all (fun e => !(Region.binds .any e) || decide (e.on < i)) && (!(dK o.op == .new) || o.guard.isNone)
def opsFine : Nat → List Oper → Bool
  | _, [] => true
  | i, o :: l => opFine i o && opsFine (i + 1) l
def guardsFine (anc : List Nat) : Nat → List Oper → Bool
  | _, [] => true
  | i, o :: l => (match o.guard with | some (j, _) => (anc.getD i 0).testBit j | none => true) && guardsFine anc (i + 1) l
def okD (P : Program) (ops : Array Oper) (anc : List Nat) : Bool :=
  opsFine 0 ops.toList && guardsFine anc 0 ops.toList && allPairs ops anc ops.toList 0 ops.toList && P.follows .mixedOrders
def news (l : List Oper) : Nat := (l.filter fun o => dK o.op == .new).length
noncomputable def drawK (P : Program) (nt : Nat) (call : CallF) (ops : Array Oper) (T : Tm) (H : AH) (K : Tm → AH → Option R) : Option R :=
  if okD P ops (ancB ops.toList []) = true then
    drawGo P nt call ops (ancB ops.toList []) K ops.toList 0 H.next T { H with next := H.next + news ops.toList } 0 [] [] [] []
  else none
end
noncomputable def drawA (P : Program) : DrawG := fun nt call ops T H => drawK P nt call ops T H fun T H => some (T, H)

section
variable {R : Type}
def aOpsK (P : Program) (nt : Nat) (call : CallF) (ops : Array Oper) (K : Tm → AH → Option R) : List Oper → Tm → AH → Option R
  | [], T, H => K T H
  | o :: l, T, H => match opK o.op with
    | .light => (gval ops T o (aLight P (evo P.globals.size T) o.op H)).bind fun v => (putA nt T o.dst v).bind fun T' => aOpsK P nt call ops K l T' H
    | .new => match o.guard with
      | none => (aNew P (evo P.globals.size T) o.op).bind fun nb => (putA nt T o.dst (nb.val H.next)).bind fun T' => aOpsK P nt call ops K l T' (H.new nb.cells nb.elem)
      | some _ => (gheavy ops T o H ((aNew P (evo P.globals.size T) o.op).map fun nb => newSt nb H)).bind fun r => (putA nt T o.dst r.1).bind fun T' => aOpsK P nt call ops K l T' r.2
    | .heavy => (gheavy ops T o H (aHeavy P call (evo P.globals.size T) o.op H)).bind fun r => (putA nt T o.dst r.1).bind fun T' => aOpsK P nt call ops K l T' r.2

/-- How many ways lead out at the end; to a block's end. -/
def exs (id : Nat) : Code → Nat
  | .seq a b => exs id a + exs id b
  | .cond _ x y => exs id x + exs id y
  | .block _ c => exs id c
  | .loop c => min 1 (exs id c)
  | .scope c => exs id c
  | .exit j => if j = id then 1 else 0
  | _ => 0
def falls : Code → Nat
  | .skip => 1
  | .label _ => 1
  | .region _ _ _ => 1
  | .seq a b => if falls a = 0 then 0 else falls b
  | .cond _ x y => falls x + falls y
  | .block id c => min 1 (falls c + exs id c)
  | .scope c => falls c
  | _ => 0

/-- Ways that meet again. -/
def jK (K : Ex → Tm → AH → Option R) (e : Ex) (T : Tm) (H : AH) : Option (St ⊕ R) := match e with
  | .normal => some (.inl (T, H))
  | e => (K e T H).map .inr
def bK (id : Nat) (K : Ex → Tm → AH → Option R) (e : Ex) (T : Tm) (H : AH) : Option (St ⊕ R) := match e with
  | .normal => some (.inl (T, H))
  | .exit j => if j = id then some (.inl (T, H)) else (K (.exit j) T H).map .inr
  | .ret => (K .ret T H).map .inr
def jn (x : Option (St ⊕ R)) (f : Tm → AH → Option R) : Option R := x.bind fun r => match r with
  | .inl s => f s.1 s.2
  | .inr r => some r
def lK (K : Ex → Tm → AH → Option R) (r : Ex × St) : Option R := match r.1 with
  | .normal => none
  | .exit j => K (.exit j) r.2.1 r.2.2
  | .ret => K .ret r.2.1 r.2.2
def sK (b : Tm → AH → Option R) (K : Ex → Tm → AH → Option R) (e : Ex) (T : Tm) (H : AH) : Option R := match e with
  | .normal => b T H
  | .exit j => K (.exit j) T H
  | .ret => K .ret T H
def cK (id : Nat) (K : Ex → Tm → AH → Option R) (e : Ex) (T : Tm) (H : AH) : Option R := match e with
  | .normal => K .normal T H
  | .exit j => if j = id then K .normal T H else K (.exit j) T H
  | .ret => K .ret T H
def rK (e : Ex) (T : Tm) (H : AH) : Option (Ex × St) := some (e, T, H)

noncomputable def aCodeK (P : Program) (nt : Nat) (call : CallF) (it : ItF) : {R : Type} → Code → Tm → AH → (Ex → Tm → AH → Option R) → Option R
  | _, .skip, T, H, K => K .normal T H
  | _, .label _, T, H, K => K .normal T H
  | _, .region _ ops d, T, H, K => if d = true then drawK P nt call ops T H (K .normal) else aOpsK P nt call ops (K .normal) ops.toList T H
  | _, .seq a b, T, H, K => if falls a ≤ 1 then aCodeK P nt call it a T H (sK (fun T H => aCodeK P nt call it b T H K) K)
      else jn (aCodeK P nt call it a T H (jK K)) fun T H => aCodeK P nt call it b T H K
  | _, .cond c x y, T, H, K => (evo P.globals.size T c).bind fun v => (asB v).bind fun t => if t = true then aCodeK P nt call it x T H K else aCodeK P nt call it y T H K
  | _, .block id c, T, H, K => if falls c + exs id c ≤ 1 then aCodeK P nt call it c T H (cK id K)
      else jn (aCodeK P nt call it c T H (bK id K)) (K .normal)
  | _, .loop c, T, H, K => (it (fun s => aCodeK P nt call it c s.1 s.2 rK) (T, H)).bind (lK K)
  | _, .scope c, T, H, K => aCodeK P nt call it c T H K
  | _, .exit id, T, H, K => K (.exit id) T H
  | _, .ret, T, H, K => K .ret T H
  | _, _, _, _, _ => none
end
end Go.Ri
