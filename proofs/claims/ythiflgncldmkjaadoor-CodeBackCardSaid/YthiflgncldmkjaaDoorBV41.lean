/- Part 1 of the proof that: Lines go there and back (CodeBack): for every instruction and text the law returns true, and the input reads as it did. Condition: the two tables of package code start as the program's text lays them (the row's own). -/
import Derived.Test.YthiflgncldmkjaaDoorBV40
import Derived.Test.YthiflgncldmkjaaDoorProg
import Derived.Laws.BytesArg
import Derived.Test.YthiflgncldmkjaaDoorRows
import Derived.Test.YthiflgncldmkjaaDoorTie
import Derived.Test.YthiflgncldmkjaaDoorCards
import Derived.Below
import Derived.ChangeSame
import Derived.WalkKit
import Derived.ProofKit
import Derived.OpenShut
import Derived.Deep.DeepHandedRow
import Derived.Lib.LaidTab
/- Running fixed calls; tables of what functions come to. -/
set_option linter.unusedVariables false
set_option linter.unusedSimpArgs false
namespace Go.Ri

/-! ### Regions that draw, with checks that can be run -/
mutual
def eqA : AV → AV → Bool
  | .bool a => fun | .bool b => a == b | _ => false
  | .int k n => fun | .int l m => decide (k = l) && decide (n = m) | _ => false
  | .str a => fun | .str b => decide (a = b) | _ => false
  | .ptr a => fun | .ptr b => decide (a = b) | _ => false
  | .slice a n c => fun | .slice b m d => decide (a = b) && decide (n = m) && decide (c = d) | _ => false
  | .empty => fun | .empty => true | _ => false
  | .func f cs => fun | .func g ds => decide (f = g) && eqAs cs ds | _ => false
  | .nilFunc => fun | .nilFunc => true | _ => false
  | .agg cs => fun | .agg ds => eqAs cs ds | _ => false
  | .tuple cs => fun | .tuple ds => eqAs cs ds | _ => false
  | .other _ => fun _ => false
def eqAs : List AV → List AV → Bool
  | [] => fun | [] => true | _ => false
  | c :: cs => fun | d :: ds => eqA c d && eqAs cs ds | [] => false
end
mutual
theorem eqA_eq : ∀ (a b : AV), eqA a b = true → a = b
  | .bool a, b, h => by cases b <;> simp [eqA] at h; rw [h]
  | .int k n, b, h => by cases b <;> simp [eqA] at h; rw [h.1, h.2]
  | .str a, b, h => by cases b <;> simp [eqA] at h; rw [h]
  | .ptr a, b, h => by cases b <;> simp [eqA] at h; rw [h]
  | .slice a n c, b, h => by cases b <;> simp [eqA] at h; rw [h.1.1, h.1.2, h.2]
  | .empty, b, h => by cases b <;> simp [eqA] at h; rfl
  | .func f cs, b, h => by
    cases b with
    | func g ds => simp [eqA] at h; rw [h.1, eqAs_eq cs ds h.2]
    | _ => simp [eqA] at h
  | .nilFunc, b, h => by cases b <;> simp [eqA] at h; rfl
  | .agg cs, b, h => by
    cases b with
    | agg ds => simp [eqA] at h; rw [eqAs_eq cs ds h]
    | _ => simp [eqA] at h
  | .tuple cs, b, h => by
    cases b with
    | tuple ds => simp [eqA] at h; rw [eqAs_eq cs ds h]
    | _ => simp [eqA] at h
  | .other v, b, h => by simp [eqA] at h
theorem eqAs_eq : ∀ (a b : List AV), eqAs a b = true → a = b
  | [], b, h => by cases b <;> simp [eqAs] at h; rfl
  | c :: cs, b, h => by
    cases b with
    | nil => simp [eqAs] at h
    | cons d ds => simp [eqAs] at h; rw [eqA_eq c d h.1, eqAs_eq cs ds h.2]
end
def eqO : Option AV → Option AV → Bool
  | some a, some b => eqA a b
  | _, _ => false
theorem eqO_eq {a b : Option AV} (h : eqO a b = true) : a = b := by
  cases a <;> cases b <;> simp [eqO] at h
  rw [eqA_eq _ _ h]
def allB : List (Option AV × Option AV) → Bool
  | [] => true
  | (a, b) :: l => eqO a b && allB l
theorem allB_eq : ∀ {l}, allB l = true → allEq l
  | [], _ => trivial
  | (a, b) :: l, h => by
    simp only [allB, Bool.and_eq_true] at h
    exact ⟨eqO_eq h.1, allB_eq h.2⟩

section
variable {R : Type}
def drawGoB (P : Program) (nt : Nat) (call : CallF) (ops : Array Oper) (anc : List Nat) : List Oper → Nat → Nat → Tm → AH → Nat → List FL → List (Nat × AH × Nat) → List PL → List (Option AV × Option AV) → Option (Tm × AH)
  | [], _, _, T, G, mb, all, _, _, chks => if allB chks = true then some (T, addF (selR all mb) G) else none
  | o :: l, i, id, T, G, mb, all, vers, pend, chks => match dK o.op with
    | .pure => (gval ops T o (aLight P (evo P.globals.size T) o.op G)).bind fun v => (putA nt T o.dst v).bind fun T' =>
        drawGoB P nt call ops anc l (i + 1) id T' G mb all vers pend chks
    | .read => ((fun (V : AH × Nat) => gval ops T o (aLight P (evo P.globals.size T) o.op (addF (sel all (anc.getD i 0) V.2) V.1))) (G, mb)).bind fun v => (putA nt T o.dst v).bind fun T' =>
        drawGoB P nt call ops anc l (i + 1) id T' G mb all vers (⟨i, fun V => gval ops T o (aLight P (evo P.globals.size T) o.op (addF (sel all (anc.getD i 0) V.2) V.1)), v⟩ :: pend)
          (((vers.filter fun V => !((anc.getD i 0).testBit V.1)).map fun V => (gval ops T o (aLight P (evo P.globals.size T) o.op (addF (sel all (anc.getD i 0) V.2.2) V.2.1)), some v)) ++ chks)
    | .new => (aNew P (evo P.globals.size T) o.op).bind fun nb => (putA nt T o.dst (nb.val id)).bind fun T' =>
        drawGoB P nt call ops anc l (i + 1) (id + 1) T' G mb (all ++ [⟨i, id, ⟨nb.cells, nb.elem, true⟩⟩]) vers pend chks
    | .heavy => (gheavy ops T o (addF (sel all (anc.getD i 0) mb) G) (aHeavy P call (evo P.globals.size T) o.op (addF (sel all (anc.getD i 0) mb) G))).bind fun r => (putA nt T o.dst r.1).bind fun T' =>
        drawGoB P nt call ops anc l (i + 1) id T' r.2 (mb ||| anc.getD i 0) all ((i, G, mb) :: vers) pend
          (((pend.filter fun p => !((anc.getD i 0).testBit p.i)).map fun p => (p.f (r.2, mb ||| anc.getD i 0), some p.v)) ++ chks)
theorem drawGoB_eq {P : Program} {nt : Nat} {call : CallF} {ops : Array Oper} {anc : List Nat} {r : Tm × AH} : ∀ (l : List Oper) (i id : Nat) (T : Tm) (G : AH) (mb : Nat) (all : List FL) (vers : List (Nat × AH × Nat)) (pend : List PL) (chks : List (Option AV × Option AV)),
    drawGoB P nt call ops anc l i id T G mb all vers pend chks = some r → drawGo P nt call ops anc (fun T H => some (T, H)) l i id T G mb all vers pend chks = some r
  | [], i, id, T, G, mb, all, vers, pend, chks, h => by
    simp only [drawGoB] at h
    split at h
    · rename_i hb
      simp only [drawGo, chkL_eq]
      rw [chk_pos (allB_eq hb)]
      exact h
    · cases h
  | o :: l, i, id, T, G, mb, all, vers, pend, chks, h => by
    simp only [drawGoB] at h
    simp only [drawGo]
    cases hk : dK o.op <;> simp only [hk] at h ⊢ <;> simp only [Option.bind_eq_some_iff] at h ⊢
    all_goals
      obtain ⟨x, hx, T', hT, h⟩ := h
      exact ⟨x, hx, T', hT, drawGoB_eq l _ _ _ _ _ _ _ _ _ h⟩
end
def drawB (P : Program) : DrawG := fun nt call ops T H => if okD P ops (ancB ops.toList []) = true then
    drawGoB P nt call ops (ancB ops.toList []) ops.toList 0 H.next T { H with next := H.next + news ops.toList } 0 [] [] [] []
  else none
theorem drawB_ok {P : Program} {nt : Nat} {call : CallF} (hcall : CallOk P call) : DrawOk P nt (drawB P nt call) := by
  intro id ops ρ H w T T' H' a Q h ht hd hc hQ
  refine drawA_ok hcall id ops ρ H w T T' H' a Q h ht hd ?_ hQ
  simp only [drawB] at hc
  simp only [drawA, drawK]
  split at hc
  · rename_i hok
    rw [if_pos hok]
    exact drawGoB_eq _ _ _ _ _ _ _ _ _ _ hc
  · cases hc
theorem aCallB (P : Program) : ∀ n, CallOk P (aCall P (drawB P) n) := aCall_sound fun nt call h => drawB_ok h

/-! ### Tables -/
/-- What one function comes to. -/
def Ok1 (P : Program) (f : FuncId) (g : List AV → AH → Option (AV × AH)) : Prop := ∀ vs H v H', g vs H = some (v, H') →
  (∃ fn, P.funcs[f]? = some fn ∧ (fn.name == "runtime.NumGoroutine") = false ∧ fn.body.isNone = false) ∧
  ∀ ρ w us, Sim P ρ H w → relL ρ vs us → Calls P f us.toArray w fun e w' => ∃ ρ' v', e = .returned v' ∧ rel ρ' v v' ∧ Out P ρ H w ρ' H' w'
def addT (S : CallF) (f : FuncId) (g : List AV → AH → Option (AV × AH)) : CallF := fun f' vs H => if f' = f then g vs H else S f' vs H
def noT : CallF := fun _ _ _ => none
theorem noT_ok (P : Program) : CallOk P noT := fun f vs H v H' h => by cases h
theorem addT_ok {P : Program} {S : CallF} {f : FuncId} {g : List AV → AH → Option (AV × AH)} (hS : CallOk P S) (hg : Ok1 P f g) : CallOk P (addT S f g) := by
  intro f' vs H v H' h
  unfold addT at h
  split at h
  · rename_i e
    subst e
    exact hg vs H v H' h
  · exact hS f' vs H v H' h
theorem addT_at (S : CallF) (f : FuncId) (g : List AV → AH → Option (AV × AH)) (vs : List AV) (H : AH) : addT S f g f vs H = g vs H := if_pos rfl
theorem addT_ne (S : CallF) {f f' : FuncId} (g : List AV → AH → Option (AV × AH)) (vs : List AV) (H : AH) (h : f' ≠ f) : addT S f g f' vs H = S f' vs H := if_neg h

/-- Values that name no block. -/
def flat : AV → Bool
  | .bool _ | .int _ _ | .str _ | .nilFunc | .other _ => true
  | .ptr none => true
  | .slice none _ (.kn _) => true
  | _ => false
def flatT : AV → Bool
  | .tuple vs => vs.all flat
  | .agg vs => vs.all flat
  | v => flat v
theorem rel_flat {ρ ρ' : Ro} {v : AV} {u : Value} (h : flat v = true) (hr : rel ρ v u) : rel ρ' v u := by
  cases v with
  | ptr a => cases a <;> simp [flat] at h; simpa [rel, cAddr] using hr
  | slice a n c => cases a <;> cases c <;> simp [flat] at h; simpa [rel, cAddr, cCap] using hr
  | empty => simp [flat] at h
  | func f cs => simp [flat] at h
  | agg cs => simp [flat] at h
  | tuple cs => simp [flat] at h
  | bool b => simpa [rel] using hr
  | int k n => simpa [rel] using hr
  | str s => simpa [rel] using hr
  | nilFunc => simpa [rel] using hr
  | other v => simpa [rel] using hr
theorem relL_flat {ρ ρ' : Ro} : ∀ {vs : List AV} {us : List Value}, vs.all flat = true → relL ρ vs us → relL ρ' vs us
  | [], us, _, hr => by simpa [relL] using hr
  | v :: vs, us, h, hr => by
    simp only [List.all_cons, Bool.and_eq_true] at h
    simp only [relL] at hr
    obtain ⟨x, y, hx, hy, rfl⟩ := hr
    exact relL_cons (rel_flat h.1 hx) (relL_flat h.2 hy)
theorem rel_flatT {ρ ρ' : Ro} {v : AV} {u : Value} (h : flatT v = true) (hr : rel ρ v u) : rel ρ' v u := by
  cases v with
  | tuple vs =>
    obtain ⟨us, hus, rfl⟩ := hr
    exact ⟨us, relL_flat h hus, rfl⟩
  | agg vs =>
    obtain ⟨h1, us, hus, rfl⟩ := hr
    exact ⟨h1, us, relL_flat h hus, rfl⟩
  | ptr a => exact rel_flat h hr
  | slice a n c => exact rel_flat h hr
  | empty => exact rel_flat h hr
  | func f cs => exact rel_flat h hr
  | bool b => exact rel_flat h hr
  | int k n => exact rel_flat h hr
  | str s => exact rel_flat h hr
  | nilFunc => exact rel_flat h hr
  | other v => exact rel_flat h hr

theorem cAddr_back {ρ ρ' : Ro} (h : ρ.le ρ') {a x y} (h0 : cAddr ρ a = some x) (h1 : cAddr ρ' a = some y) : cAddr ρ a = some y := by
  rw [cAddr_mono h h0] at h1
  rw [← h1, h0]
theorem cCap_back {ρ ρ' : Ro} (h : ρ.le ρ') {a c x y} (h0 : cCap ρ a c = some x) (h1 : cCap ρ' a c = some y) : cCap ρ a c = some y := by
  rw [cCap_mono h h0] at h1
  rw [← h1, h0]
mutual
theorem rel_back {ρ ρ' : Ro} (h : ρ.le ρ') : ∀ (c : AV) {u v}, rel ρ c u → rel ρ' c v → rel ρ c v
  | .bool _, _, _, _, e => by simpa [rel] using e
  | .int _ _, _, _, _, e => by simpa [rel] using e
  | .str _, _, _, _, e => by simpa [rel] using e
  | .ptr a, u, v, g, e => by
    simp only [rel] at g e ⊢
    obtain ⟨x, hx, rfl⟩ := e
    obtain ⟨y, hy, rfl⟩ := g
    exact ⟨x, cAddr_back h hy hx, rfl⟩
  | .slice a n c, u, v, g, e => by
    simp only [rel] at g e ⊢
    obtain ⟨x, y, hx, hy, hn, rfl⟩ := e
    obtain ⟨x', y', hx', hy', hn', rfl⟩ := g
    exact ⟨x, y, cAddr_back h hx' hx, cCap_back h hy' hy, hn, rfl⟩
  | .empty, _, _, _, e => by simpa [rel] using e
  | .func f cs, u, v, g, e => by
    simp only [rel] at g e ⊢
    obtain ⟨x, hx, rfl⟩ := e
    obtain ⟨y, hy, rfl⟩ := g
    exact ⟨x, relL_back h cs hy hx, rfl⟩
  | .nilFunc, _, _, _, e => by simpa [rel] using e
  | .agg cs, u, v, g, e => by
    simp only [rel] at g e ⊢
    obtain ⟨h1, x, hx, rfl⟩ := e
    obtain ⟨_, y, hy, rfl⟩ := g
    exact ⟨h1, x, relL_back h cs hy hx, rfl⟩
  | .tuple cs, u, v, g, e => by
    simp only [rel] at g e ⊢
    obtain ⟨x, hx, rfl⟩ := e
    obtain ⟨y, hy, rfl⟩ := g
    exact ⟨x, relL_back h cs hy hx, rfl⟩
  | .other _, _, _, _, e => by simpa [rel] using e
theorem relL_back {ρ ρ' : Ro} (h : ρ.le ρ') : ∀ (cs : List AV) {us vs}, relL ρ cs us → relL ρ' cs vs → relL ρ cs vs
  | [], _, _, _, e => by simpa [relL] using e
  | c :: cs, us, vs, g, e => by
    simp only [relL] at g e ⊢
    obtain ⟨x, y, hx, hy, rfl⟩ := e
    obtain ⟨x', y', hx', hy', rfl⟩ := g
    exact ⟨x, y, rel_back h c hx' hx, relL_back h cs hy' hy, rfl⟩
end

/-- The heap is as it was: what the step made is forgotten. -/
theorem Out.forget {P : Program} {ρ ρ' : Ro} {H H' : AH} {w w' : World} (h : Sim P ρ H w) (o : Out P ρ H w ρ' H' w') (hs : ∀ b B, H.m b = some B → H'.m b = some B) : Out P ρ H w ρ H w' := by
  have hle := o.le h
  refine ⟨fun _ _ => rfl, Nat.le_refl _, ⟨fun b B hB => ?_, h.inj, h.fresh, h.glob⟩, o.os, o.tape, o.output, o.size, o.keep, fun b B r hB hr _ => ⟨b, B, r, hB, hr, rfl, id⟩⟩
  obtain ⟨r, cs, fr, vs, g1, g2, g3, g4, g5, g6⟩ := o.sim.blk b B (hs b B hB)
  obtain ⟨r0, cs0, fr0, vs0, k1, k2, k3, k4, k5, k6⟩ := h.blk b B hB
  rw [hle _ _ k1] at g1
  cases g1
  exact ⟨r, cs, fr, vs, k1, g2, g3, g4, relL_back hle _ k5 g5, g6⟩

/-- Every block's id is below the next. -/
def AH.wf (H : AH) : Prop := ∀ b B, H.m b = some B → b < H.next
def AH.sub (H H1 : AH) : Prop := ∀ b B, H.m b = some B → H1.m b = some B
def Fn1 (P : Program) (f : FuncId) : Prop := ∃ fn, P.funcs[f]? = some fn ∧ (fn.name == "runtime.NumGoroutine") = false ∧ fn.body.isNone = false
/-- A function that leaves what was there and answers with something that names no block. -/
theorem ok1_flat {P : Program} {S : CallF} (hS : CallOk P S) {f : FuncId} (hfn : Fn1 P f) {g : List AV → AH → Option (AV × AH)}
    (h : ∀ vs H v H', g vs H = some (v, H') → H' = H ∧ flatT v = true ∧ (H.wf → ∃ n H1, aFun P (drawA P) S (iter n) f vs H = some (v, H1) ∧ H.sub H1)) : Ok1 P f g := by
  intro vs H v H' hg
  obtain ⟨rfl, hv, hr⟩ := h vs H v H' hg
  refine ⟨hfn, fun ρ w us hs hus => ?_⟩
  obtain ⟨n, H1, hrun, hsub⟩ := hr fun b B hB => hs.dom hB
  obtain ⟨h1, h2⟩ := aFun_sound (draw := drawA P) (n := n) hS (fun nt => drawA_ok hS) f vs H' v H1 hrun
  refine (h2 ρ w us hs hus).mono ?_
  rintro e w' ⟨ρ', v', rfl, hr, hout⟩
  exact ⟨ρ, v', rfl, rel_flatT hv hr, hout.forget hs hsub⟩

/-- Nothing that was there has turned. -/
theorem Out.still {P : Program} {ρ : Ro} {H : AH} {w w' : World} (h : Sim P ρ H w) (h1 : w'.os = w.os) (h2 : w'.tape = w.tape) (h3 : w'.output = w.output) (h4 : w.heap.size ≤ w'.heap.size) (h5 : ∀ i, i < w.heap.size → w'.heap[i]? = w.heap[i]?) : Out P ρ H w ρ H w' := by
  refine ⟨fun _ _ => rfl, Nat.le_refl _, ⟨fun b B hB => ?_, h.inj, h.fresh, h.glob⟩, h1, h2, h3, h4, fun i hi _ => h5 i hi, fun b B r hB hr _ => ⟨b, B, r, hB, hr, rfl, id⟩⟩
  obtain ⟨r, cs, fr, vs, g1, g2, g3⟩ := h.blk b B hB
  exact ⟨r, cs, fr, vs, g1, by rw [h5 _ (Array.getElem?_eq_some_iff.1 g2).1]; exact g2, g3⟩

/-- A call on a heap of which only the first few blocks matter. -/
theorem ok1_small {P : Program} {f : FuncId} {vs : List AV} {v : AV} {n k : Nat} {m : Nat → Option Blk} {H1 : AH} (hv : flatT v = true) (hvs : vs.all flat = true) (hg : P.globals.size ≤ n)
    (hm : ∀ b B, m b = some B → b < n ∧ B.rw_ = false ∧ B.cells.all flat = true)
    (hrun : aCall P (drawB P) k f vs ⟨m, n⟩ = some (v, H1)) : Ok1 P f (fun us H => chk (us = vs ∧ n ≤ H.next ∧ (∀ b B, m b = some B → H.m b = some B)) (some (v, H))) := by
  intro us H v' H' hc
  obtain ⟨⟨rfl, hn, hsub⟩, e⟩ := chk_some hc
  cases e
  obtain ⟨h1, h2⟩ := aCallB P k f us _ v H1 hrun
  refine ⟨h1, fun ρ w xs hs hxs => ?_⟩
  have hs0 : Sim P (fun b => if b < n then ρ b else none) ⟨m, n⟩ w := by
    refine ⟨fun b B hB => ?_, fun b b' B B' r r' hB hB' hor hr hr' => ?_, fun b hb => ?_, fun g hgl => ?_⟩
    · obtain ⟨hb, hrw, hfl⟩ := hm b B hB
      obtain ⟨r, cs, fr, ws, g1, g2, g3, g4, g5, g6⟩ := hs.blk b B (hsub b B hB)
      exact ⟨r, cs, fr, ws, by simp only [if_pos hb]; exact g1, g2, g3, g4, relL_flat hfl g5, g6⟩
    · simp only [if_pos (hm b B hB).1] at hr
      simp only [if_pos (hm b' B' hB').1] at hr'
      exact hs.inj b b' B B' r r' (hsub b B hB) (hsub b' B' hB') hor hr hr'
    · exact if_neg (by simp only at hb; omega)
    · obtain ⟨l, hl⟩ := hs.glob g hgl
      exact ⟨l, by simp only [if_pos (show g < n by omega)]; exact hl⟩
  refine (h2 _ w xs hs0 (relL_flat hvs hxs)).mono ?_
  rintro e w' ⟨ρ', v', rfl, hr, hout⟩
  refine ⟨ρ, v', rfl, rel_flatT hv hr, .still hs hout.os hout.tape hout.output hout.size fun i hi => hout.keep i hi fun b B r hB hrw _ => ?_⟩
  rw [(hm b B hB).2.1] at hrw
  cases hrw
end Go.Ri
/- Functions of the program as plain Lean functions over abstract values, each tied to the interpreter by the kernel. Written by a program of ours (shal.py). -/
set_option linter.unusedVariables false
set_option maxRecDepth 100000
namespace Go.Proofs.YthiflgncldmkjaaDoor
open Go.Ri

noncomputable def F3 (call : CallF) (it : ItF) (x0 : AV) (H : AH) : Option (AV × AH) :=
 (nBox 24 x0).bind fun nb1 =>
 (ptrAdd (nb1.val H.next) 0).bind fun v2 =>
 (ldOne v2 (H.new nb1.cells nb1.elem)).bind fun v3 =>
 (aLen Tryd.prog 22 v3).bind fun v4 =>
 (aBin Tryd.prog .gtr 3 v4 (.int .i64 500)).bind fun v5 =>
 ((gdv v5 false).bind fun g6 => if g6 = true then (ldAgg (nb1.val H.next) 4 (H.new nb1.cells nb1.elem)) else some (.tuple [])).bind fun v7 =>
 ((gdv v5 false).bind fun g8 => if g8 = true then (call 20 [v7] (H.new nb1.cells nb1.elem)) else some (.tuple [], (H.new nb1.cells nb1.elem))).bind fun r9 =>
 ((gdv v5 false).bind fun g10 => if g10 = true then (ldAgg (nb1.val H.next) 4 r9.2) else some (.tuple [])).bind fun v11 =>
 ((gdv v5 false).bind fun g13 => if g13 = true then (call 21 [v11] r9.2) else some (.tuple [], r9.2)).bind fun r14 =>
 ((gdv v5 false).bind fun g15 => if g15 = true then (aBin Tryd.prog .eql 9 r9.1 r14.1) else some (.tuple [])).bind fun v16 =>
 ((gdv v5 false).bind fun g17 => if g17 = true then (some v16) else some (.tuple [])).bind fun v18 =>
 ((gdv v18 true).bind fun g19 => if g19 = true then (call 22 [] r14.2) else some (.tuple [], r14.2)).bind fun r20 =>
 ((gdv v5 false).bind fun g22 => if g22 = true then ((asB v18).bind fun b21 => if b21 = true then some r20.1 else some (.bool false)) else some (.tuple [])).bind fun v23 =>
 ((asB v5).bind fun b24 => if b24 = true then some (.bool true) else some v23).bind fun v25 =>
 chkL [(((gdv v5 false).bind fun g12 => if g12 = true then (ldAgg (nb1.val H.next) 4 (H.new nb1.cells nb1.elem)) else some (.tuple [])), some v11)] (some (v25, r20.2))
theorem F3_eq (call : CallF) (it : ItF) (x0 : AV) (H : AH) : aFun Tryd.prog (drawA Tryd.prog) call it 3 [x0] H = F3 call it x0 H :=
  (aFun_eq Tryd.func3 rfl (by kernel_rfl) _ H (Nat.le_of_ble_eq_true (by kernel_rfl))).trans (by kernel_rfl)

noncomputable def F4 (call : CallF) (it : ItF) (x0 : AV) (x1 : AV) (H : AH) : Option (AV × AH) :=
 (nBox 29 x0).bind fun nb1 =>
 (aLen Tryd.prog 9 x1).bind fun v2 =>
 (aBin Tryd.prog .gtr 3 v2 (.int .i64 500)).bind fun v3 =>
 (asB v3).bind fun b4 => if b4 = true then
  ((call 22 [] (H.new nb1.cells nb1.elem)).bind fun r5 =>
  some (r5.1, r5.2))
 else
  ((ldAgg (nb1.val H.next) 3 (H.new nb1.cells nb1.elem)).bind fun v6 =>
  (call 23 [v6] (H.new nb1.cells nb1.elem)).bind fun r7 =>
  (aExtract r7.1 0).bind fun v8 =>
  (aExtract r7.1 1).bind fun v9 =>
  (call 24 [v8] r7.2).bind fun r10 =>
  (aExtract r10.1 0).bind fun v11 =>
  (aExtract r10.1 1).bind fun v12 =>
  (nAlloc Tryd.prog 29).bind fun nb13 =>
  ((aStore Tryd.prog 29 (nb13.val r10.2.next) v11 (r10.2.new nb13.cells nb13.elem)).map fun H' => ((.tuple [] : AV), H')).bind fun r14 =>
  (aBin Tryd.prog .eql 30 v9 (.int .i64 0)).bind fun v15 =>
  ((gdv v15 true).bind fun g16 => if g16 = true then (some v12) else some (.tuple [])).bind fun v17 =>
  ((gdv v15 true).bind fun g18 => if g18 = true then (aBin Tryd.prog .neq 30 v17 (.int .i64 0)) else some (.tuple [])).bind fun v19 =>
  ((gdv v15 true).bind fun g20 => if g20 = true then (some v19) else some (.tuple [])).bind fun v21 =>
  ((gdv v21 false).bind fun g22 => if g22 = true then (ldAgg (nb13.val r10.2.next) 3 r14.2) else some (.tuple [])).bind fun v23 =>
  ((gdv v21 false).bind fun g24 => if g24 = true then (ldAgg (nb1.val H.next) 3 r14.2) else some (.tuple [])).bind fun v25 =>
  ((gdv v21 false).bind fun g26 => if g26 = true then (aBin Tryd.prog .neq 29 v23 v25) else some (.tuple [])).bind fun v27 =>
  ((gdv v15 true).bind fun g29 => if g29 = true then ((asB v21).bind fun b28 => if b28 = true then some (.bool true) else some v27) else some (.tuple [])).bind fun v30 =>
  ((asB v15).bind fun b31 => if b31 = true then some v30 else some (.bool false)).bind fun v32 =>
  (asB v32).bind fun b33 => if b33 = true then
   (some ((.bool false), r14.2))
  else
   ((call 24 [x1] r14.2).bind fun r34 =>
   (aExtract r34.1 0).bind fun v35 =>
   (aExtract r34.1 1).bind fun v36 =>
   (nAlloc Tryd.prog 29).bind fun nb37 =>
   ((aStore Tryd.prog 29 (nb37.val r34.2.next) v35 (r34.2.new nb37.cells nb37.elem)).map fun H' => ((.tuple [] : AV), H')).bind fun r38 =>
   (aBin Tryd.prog .neq 30 v36 (.int .i64 0)).bind fun v39 =>
   (asB v39).bind fun b40 => if b40 = true then
    ((ldAgg (nb37.val r34.2.next) 3 r38.2).bind fun v41 =>
    (aBuild Tryd.prog 29 []).bind fun v42 =>
    (aBin Tryd.prog .eql 29 v41 v42).bind fun v43 =>
    ((gdv v43 true).bind fun g44 => if g44 = true then (call 22 [] r38.2) else some (.tuple [], r38.2)).bind fun r45 =>
    ((asB v43).bind fun b46 => if b46 = true then some r45.1 else some (.bool false)).bind fun v47 =>
    some (v47, r45.2))
   else
    ((ldAgg (nb37.val r34.2.next) 3 r38.2).bind fun v48 =>
    (call 23 [v48] r38.2).bind fun r49 =>
    (aExtract r49.1 0).bind fun v50 =>
    (aExtract r49.1 1).bind fun v51 =>
    (aBin Tryd.prog .eql 30 v51 (.int .i64 0)).bind fun v52 =>
    ((gdv v52 true).bind fun g53 => if g53 = true then (some v50) else some (.tuple [])).bind fun v54 =>
    ((gdv v52 true).bind fun g55 => if g55 = true then (some x1) else some (.tuple [])).bind fun v56 =>
    ((gdv v52 true).bind fun g57 => if g57 = true then (aBin Tryd.prog .eql 9 v54 v56) else some (.tuple [])).bind fun v58 =>
    ((asB v52).bind fun b59 => if b59 = true then some v58 else some (.bool false)).bind fun v60 =>
    ((gdv v60 true).bind fun g61 => if g61 = true then (call 22 [] r49.2) else some (.tuple [], r49.2)).bind fun r62 =>
    ((asB v60).bind fun b63 => if b63 = true then some r62.1 else some (.bool false)).bind fun v64 =>
    some (v64, r62.2))))
theorem F4_eq (call : CallF) (it : ItF) (x0 : AV) (x1 : AV) (H : AH) : aFun Tryd.prog (drawA Tryd.prog) call it 4 [x0, x1] H = F4 call it x0 x1 H :=
  (aFun_eq Tryd.func4 rfl (by kernel_rfl) _ H (Nat.le_of_ble_eq_true (by kernel_rfl))).trans (by kernel_rfl)

end Go.Proofs.YthiflgncldmkjaaDoor
/- Functions of the program as plain Lean functions over abstract values, each tied to the interpreter by the kernel. Written by a program of ours (shal.py). -/
set_option linter.unusedVariables false
set_option maxRecDepth 100000
namespace Go.Proofs.YthiflgncldmkjaaDoor
open Go.Ri

noncomputable def F20_J0 (call : CallF) (it : ItF) (T20 : Tm) (H21 : AH) : Option (Ex × St) :=
 (call 62 [(T20 4)] H21).bind fun r22 =>
    (aAppend Tryd.prog 87 9 (T20 3) r22.1 r22.2).bind fun r23 =>
    (nBuildSlice Tryd.prog 87 1 [(0, (.int .u8 32))]).bind fun nb24 =>
    (aAppend Tryd.prog 87 87 r23.1 (nb24.val r23.2.next) (r23.2.new nb24.cells nb24.elem)).bind fun r25 =>
    (aAppend Tryd.prog 87 9 r25.1 (T20 6) r25.2).bind fun r26 =>
    (nBuildSlice Tryd.prog 87 1 [(0, (.int .u8 10))]).bind fun nb27 =>
    (aAppend Tryd.prog 87 87 r26.1 (nb27.val r26.2.next) (r26.2.new nb27.cells nb27.elem)).bind fun r28 =>
    (aBin Tryd.prog .add 3 (T20 11) (.int .i64 1)).bind fun v29 =>
    some (.normal, (updL T20 [(23, (T20 3)), (24, (T20 4)), (25, r22.1), (26, r23.1), (27, (nb24.val r23.2.next)), (28, r25.1), (29, (T20 6)), (30, r26.1), (31, (nb27.val r26.2.next)), (32, r28.1), (3, r28.1), (33, v29), (11, v29)]), r28.2)
noncomputable def F20_L1 (call : CallF) (it : ItF) (s5 : St) : Option (Ex × St) :=
 (aBin Tryd.prog .lss 3 (s5.1 11) (s5.1 10)).bind fun v8 =>
  (asB v8).bind fun b9 => if b9 = true then
   ((idxSl (s5.1 9) (s5.1 11) 3).bind fun v10 =>
   (ldAgg v10 3 s5.2).bind fun v11 =>
   (nAlloc Tryd.prog 29).bind fun nb12 =>
   ((aStore Tryd.prog 29 (nb12.val s5.2.next) v11 (s5.2.new nb12.cells nb12.elem)).map fun H' => ((.tuple [] : AV), H')).bind fun r13 =>
   (ldAgg (nb12.val s5.2.next) 3 r13.2).bind fun v14 =>
   (call 23 [v14] r13.2).bind fun r15 =>
   (aExtract r15.1 0).bind fun v16 =>
   (aExtract r15.1 1).bind fun v17 =>
   jn (
    (aBin Tryd.prog .neq 30 v17 (.int .i64 0)).bind fun v18 =>
    (asB v18).bind fun b19 => if b19 = true then
     (some (.inl ((updL s5.1 [(12, v8), (13, (s5.1 11)), (14, v10), (15, v11), (5, (nb12.val s5.2.next)), (4, (s5.1 11)), (17, v14), (18, r15.1), (16, r15.1), (19, v16), (20, v17), (6, v16), (7, v17), (21, v17), (22, v18), (6, (.str ⟨#[63]⟩))]), r15.2)))
    else
     (some (.inl ((updL s5.1 [(12, v8), (13, (s5.1 11)), (14, v10), (15, v11), (5, (nb12.val s5.2.next)), (4, (s5.1 11)), (17, v14), (18, r15.1), (16, r15.1), (19, v16), (20, v17), (6, v16), (7, v17), (21, v17), (22, v18)]), r15.2))))
   (F20_J0 call it))
  else
   (some (.exit 0, (updL s5.1 [(12, v8)]), s5.2))
noncomputable def F20 (call : CallF) (it : ItF) (x0 : AV) (H : AH) : Option (AV × AH) :=
 (nBox 24 x0).bind fun nb1 =>
 (ptrAdd (nb1.val H.next) 0).bind fun v2 =>
 (ldOne v2 (H.new nb1.cells nb1.elem)).bind fun v3 =>
 (aLen Tryd.prog 22 v3).bind fun v4 =>
 (it (F20_L1 call it) ((updL (T0 [x0]) [(1, (nb1.val H.next)), (2, (.str ⟨#[]⟩)), (3, (.slice none 0 (.kn 0))), (8, v2), (9, v3), (10, v4), (11, (.int .i64 0))]), (H.new nb1.cells nb1.elem))).bind fun r6 => match r6.1 with
  | .normal => none
  | .exit j7 => if j7 = 0 then
  ((cvBytes (r6.2.1 3) r6.2.2).bind fun v30 =>
  some (v30, r6.2.2))
  else
  (none)
  | .ret => some ((r6.2.1 2), r6.2.2)
theorem F20_eq (call : CallF) (it : ItF) (x0 : AV) (H : AH) : aFun Tryd.prog (drawA Tryd.prog) call it 20 [x0] H = F20 call it x0 H :=
  (aFun_eq Tryd.func20 rfl (by kernel_rfl) _ H (Nat.le_of_ble_eq_true (by kernel_rfl))).trans (by kernel_rfl)

noncomputable def F21_J0 (call : CallF) (it : ItF) (T19 : Tm) (H20 : AH) : Option (Ex × St) :=
 (call 64 [(T19 4)] H20).bind fun r21 =>
    (aBin Tryd.prog .add 9 (T19 3) r21.1).bind fun v22 =>
    (aBin Tryd.prog .add 9 v22 (.str ⟨#[32]⟩)).bind fun v23 =>
    (aBin Tryd.prog .add 9 v23 (T19 5)).bind fun v24 =>
    (aBin Tryd.prog .add 9 v24 (.str ⟨#[10]⟩)).bind fun v25 =>
    (aBin Tryd.prog .add 3 (T19 4) (.int .i64 1)).bind fun v26 =>
    some (.normal, (updL T19 [(25, (T19 3)), (26, (T19 4)), (27, r21.1), (28, v22), (29, v23), (30, (T19 5)), (31, v24), (32, v25), (3, v25), (12, (T19 4)), (13, v26), (4, v26)]), r21.2)
noncomputable def F21_L1 (call : CallF) (it : ItF) (s2 : St) : Option (Ex × St) :=
 (ptrAdd (s2.1 1) 0).bind fun v5 =>
  (ldOne v5 s2.2).bind fun v6 =>
  (aLen Tryd.prog 22 v6).bind fun v7 =>
  (aBin Tryd.prog .lss 3 (s2.1 4) v7).bind fun v8 =>
  (asB v8).bind fun b9 => if b9 = true then
   ((ptrAdd (s2.1 1) 0).bind fun v10 =>
   (ldOne v10 s2.2).bind fun v11 =>
   (idxSl v11 (s2.1 4) 3).bind fun v12 =>
   (ldAgg v12 3 s2.2).bind fun v13 =>
   (call 63 [v13] s2.2).bind fun r14 =>
   (aExtract r14.1 0).bind fun v15 =>
   (aExtract r14.1 1).bind fun v16 =>
   jn (
    (aBin Tryd.prog .neq 30 v16 (.int .i64 0)).bind fun v17 =>
    (asB v17).bind fun b18 => if b18 = true then
     (some (.inl ((updL s2.1 [(7, (s2.1 4)), (8, v5), (9, v6), (10, v7), (11, v8), (15, v10), (16, v11), (17, (s2.1 4)), (18, v12), (19, v13), (20, r14.1), (14, r14.1), (21, v15), (22, v16), (5, v15), (6, v16), (23, v16), (24, v17), (5, (.str ⟨#[63]⟩))]), r14.2)))
    else
     (some (.inl ((updL s2.1 [(7, (s2.1 4)), (8, v5), (9, v6), (10, v7), (11, v8), (15, v10), (16, v11), (17, (s2.1 4)), (18, v12), (19, v13), (20, r14.1), (14, r14.1), (21, v15), (22, v16), (5, v15), (6, v16), (23, v16), (24, v17)]), r14.2))))
   (F21_J0 call it))
  else
   (some (.exit 0, (updL s2.1 [(7, (s2.1 4)), (8, v5), (9, v6), (10, v7), (11, v8)]), s2.2))
noncomputable def F21 (call : CallF) (it : ItF) (x0 : AV) (H : AH) : Option (AV × AH) :=
 (nBox 24 x0).bind fun nb1 =>
 (it (F21_L1 call it) ((updL (T0 [x0]) [(1, (nb1.val H.next)), (2, (.str ⟨#[]⟩)), (3, (.str ⟨#[]⟩)), (4, (.int .i64 0))]), (H.new nb1.cells nb1.elem))).bind fun r3 => match r3.1 with
  | .normal => none
  | .exit j4 => if j4 = 0 then
  (some ((r3.2.1 3), r3.2.2))
  else
  (none)
  | .ret => some ((r3.2.1 2), r3.2.2)
theorem F21_eq (call : CallF) (it : ItF) (x0 : AV) (H : AH) : aFun Tryd.prog (drawA Tryd.prog) call it 21 [x0] H = F21 call it x0 H :=
  (aFun_eq Tryd.func21 rfl (by kernel_rfl) _ H (Nat.le_of_ble_eq_true (by kernel_rfl))).trans (by kernel_rfl)

noncomputable def F23_J0 (call : CallF) (it : ItF) (T65 : Tm) (H66 : AH) : Option (Ex × St) :=
 (aBin Tryd.prog .add 3 (T65 45) (.int .i64 1)).bind fun v67 =>
      some (.normal, (updL T65 [(57, v67), (45, v67)]), H66)
noncomputable def F23_L1 (call : CallF) (it : ItF) (s54 : St) : Option (Ex × St) :=
 (aBin Tryd.prog .lss 3 (s54.1 45) (.int .i64 2)).bind fun v57 =>
    (asB v57).bind fun b58 => if b58 = true then
     (jn (
      (idxAgg Tryd.prog 2 2 1 (s54.1 44) (s54.1 45)).bind fun v59 =>
      (aBin Tryd.prog .lss 3 (s54.1 45) (s54.1 5)).bind fun v60 =>
      (asB v60).bind fun b61 => if b61 = true then
       ((call 62 [v59] s54.2).bind fun r62 =>
       (nBuildSlice Tryd.prog 90 1 [(0, r62.1)]).bind fun nb63 =>
       (aAppend Tryd.prog 90 90 (s54.1 4) (nb63.val r62.2.next) (r62.2.new nb63.cells nb63.elem)).bind fun r64 =>
       some (.inl ((updL s54.1 [(46, v57), (47, (s54.1 45)), (48, v59), (6, (s54.1 45)), (7, v59), (49, (s54.1 45)), (50, (s54.1 5)), (51, v60), (52, (s54.1 4)), (53, v59), (54, r62.1), (55, (nb63.val r62.2.next)), (56, r64.1), (4, r64.1)]), r64.2)))
      else
       (some (.inl ((updL s54.1 [(46, v57), (47, (s54.1 45)), (48, v59), (6, (s54.1 45)), (7, v59), (49, (s54.1 45)), (50, (s54.1 5)), (51, v60)]), s54.2))))
     (F23_J0 call it))
    else
     (some (.exit 0, (updL s54.1 [(46, v57)]), s54.2))
noncomputable def F23 (call : CallF) (it : ItF) (x0 : AV) (H : AH) : Option (AV × AH) :=
 (nBox 29 x0).bind fun nb1 =>
 (ptrAdd (nb1.val H.next) 0).bind fun v2 =>
 (ldOne v2 (H.new nb1.cells nb1.elem)).bind fun v3 =>
 (aBin Tryd.prog .lss 3 v3 (.int .i64 1)).bind fun v4 =>
 ((gdv v4 false).bind fun g5 => if g5 = true then (ptrAdd (nb1.val H.next) 0) else some (.tuple [])).bind fun v6 =>
 ((gdv v4 false).bind fun g7 => if g7 = true then (ldOne v6 (H.new nb1.cells nb1.elem)) else some (.tuple [])).bind fun v8 =>
 ((gdv v4 false).bind fun g9 => if g9 = true then (aBin Tryd.prog .gtr 3 v8 (.int .i64 25)) else some (.tuple [])).bind fun v10 =>
 ((asB v4).bind fun b11 => if b11 = true then some (.bool true) else some v10).bind fun v12 =>
 (asB v12).bind fun b13 => if b13 = true then
  (some ((.tuple [(.str ⟨#[]⟩), (.int .i64 61)]), (H.new nb1.cells nb1.elem)))
 else
  ((ptrAdd (nb1.val H.next) 0).bind fun v14 =>
  (ldOne v14 (H.new nb1.cells nb1.elem)).bind fun v15 =>
  (idxPtr (.ptr (some (0, 0))) v15 26 1).bind fun v16 =>
  (ldOne v16 (H.new nb1.cells nb1.elem)).bind fun v17 =>
  (nBuildSlice Tryd.prog 90 1 [(0, v17)]).bind fun nb18 =>
  (ptrAdd (nb1.val H.next) 0).bind fun v19 =>
  (ldOne v19 ((H.new nb1.cells nb1.elem).new nb18.cells nb18.elem)).bind fun v20 =>
  (call 65 [v20] ((H.new nb1.cells nb1.elem).new nb18.cells nb18.elem)).bind fun r21 =>
  (aBin Tryd.prog .lss 3 r21.1 (.int .i64 1)).bind fun v22 =>
  ((gdv v22 true).bind fun g23 => if g23 = true then (ptrAdd (nb1.val H.next) 1) else some (.tuple [])).bind fun v24 =>
  ((gdv v22 true).bind fun g25 => if g25 = true then (ldOne v24 r21.2) else some (.tuple [])).bind fun v26 =>
  ((gdv v22 true).bind fun g27 => if g27 = true then (aBin Tryd.prog .neq 2 v26 (.int .i64 0)) else some (.tuple [])).bind fun v28 =>
  ((asB v22).bind fun b29 => if b29 = true then some v28 else some (.bool false)).bind fun v30 =>
  ((gdv v30 false).bind fun g31 => if g31 = true then (some r21.1) else some (.tuple [])).bind fun v32 =>
  ((gdv v30 false).bind fun g33 => if g33 = true then (aBin Tryd.prog .lss 3 v32 (.int .i64 2)) else some (.tuple [])).bind fun v34 =>
  ((gdv v30 false).bind fun g35 => if g35 = true then (some v34) else some (.tuple [])).bind fun v36 =>
  ((gdv v36 true).bind fun g37 => if g37 = true then (ptrAdd (nb1.val H.next) 2) else some (.tuple [])).bind fun v38 =>
  ((gdv v36 true).bind fun g39 => if g39 = true then (ldOne v38 r21.2) else some (.tuple [])).bind fun v40 =>
  ((gdv v36 true).bind fun g41 => if g41 = true then (aBin Tryd.prog .neq 2 v40 (.int .i64 0)) else some (.tuple [])).bind fun v42 =>
  ((gdv v30 false).bind fun g44 => if g44 = true then ((asB v36).bind fun b43 => if b43 = true then some v42 else some (.bool false)) else some (.tuple [])).bind fun v45 =>
  ((asB v30).bind fun b46 => if b46 = true then some (.bool true) else some v45).bind fun v47 =>
  (asB v47).bind fun b48 => if b48 = true then
   (some ((.tuple [(.str ⟨#[]⟩), (.int .i64 61)]), r21.2))
  else
   ((ptrAdd (nb1.val H.next) 1).bind fun v49 =>
   (ldOne v49 r21.2).bind fun v50 =>
   (ptrAdd (nb1.val H.next) 2).bind fun v51 =>
   (ldOne v51 r21.2).bind fun v52 =>
   (aBuild Tryd.prog 91 [(0, v50), (1, v52)]).bind fun v53 =>
   (it (F23_L1 call it) ((updL (T0 [x0]) [(1, (nb1.val H.next)), (2, (.str ⟨#[]⟩)), (3, (.int .i64 0)), (8, v2), (9, v3), (10, v4), (11, v4), (12, v6), (13, v8), (14, v10), (15, v12), (16, v14), (17, v15), (18, v16), (19, v17), (20, (nb18.val (H.new nb1.cells nb1.elem).next)), (4, (nb18.val (H.new nb1.cells nb1.elem).next)), (21, v19), (22, v20), (23, r21.1), (5, r21.1), (24, r21.1), (25, v22), (26, v22), (27, v24), (28, v26), (29, v28), (30, v30), (31, v30), (32, v32), (33, v34), (34, v36), (35, v38), (36, v40), (37, v42), (38, v45), (39, v47), (40, v49), (41, v50), (42, v51), (43, v52), (44, v53), (45, (.int .i64 0))]), r21.2)).bind fun r55 => match r55.1 with
    | .normal => none
    | .exit j56 => if j56 = 0 then
    ((call 66 [(r55.2.1 4)] r55.2.2).bind fun r68 =>
    some ((.tuple [r68.1, (.int .i64 0)]), r68.2))
    else
    (none)
    | .ret => some ((.tuple [(r55.2.1 2), (r55.2.1 3)]), r55.2.2)))
theorem F23_eq (call : CallF) (it : ItF) (x0 : AV) (H : AH) : aFun Tryd.prog (drawA Tryd.prog) call it 23 [x0] H = F23 call it x0 H :=
  (aFun_eq Tryd.func23 rfl (by kernel_rfl) _ H (Nat.le_of_ble_eq_true (by kernel_rfl))).trans (by kernel_rfl)

end Go.Proofs.YthiflgncldmkjaaDoor
/- Functions of the program as plain Lean functions over abstract values, each tied to the interpreter by the kernel. Written by a program of ours (shal.py). -/
set_option linter.unusedVariables false
set_option maxRecDepth 100000
namespace Go.Proofs.YthiflgncldmkjaaDoor
open Go.Ri

noncomputable def F24_J0 (call : CallF) (it : ItF) (T35 : Tm) (H36 : AH) : Option (Ex × St) :=
 (aBin Tryd.prog .add 3 (T35 15) (.int .i64 1)).bind fun v37 =>
    some (.normal, (updL T35 [(35, v37), (15, v37)]), H36)
noncomputable def F24_J1 (call : CallF) (it : ItF) (T86 : Tm) (H87 : AH) : Option (Ex × St) :=
 (aBin Tryd.prog .add 3 (T86 52) (.int .i64 1)).bind fun v88 =>
      some (.normal, (updL T86 [(76, v88), (52, v88)]), H87)
noncomputable def F24_L2 (call : CallF) (it : ItF) (s64 : St) : Option (Ex × St) :=
 (aBin Tryd.prog .lss 3 (s64.1 52) (.int .i64 2)).bind fun v67 =>
    (asB v67).bind fun b68 => if b68 = true then
     (jn (
      (idxAgg Tryd.prog 94 2 1 (s64.1 51) (s64.1 52)).bind fun v69 =>
      (aBin Tryd.prog .add 3 (s64.1 52) (.int .i64 1)).bind fun v70 =>
      (aLen Tryd.prog 90 (s64.1 4)).bind fun v71 =>
      (aBin Tryd.prog .lss 3 v70 v71).bind fun v72 =>
      (asB v72).bind fun b73 => if b73 = true then
       ((aBin Tryd.prog .add 3 (s64.1 52) (.int .i64 1)).bind fun v74 =>
       (idxSl (s64.1 4) v74 1).bind fun v75 =>
       (ldOne v75 s64.2).bind fun v76 =>
       (call 68 [v76] s64.2).bind fun r77 =>
       (aExtract r77.1 0).bind fun v78 =>
       (aExtract r77.1 1).bind fun v79 =>
       (aBin Tryd.prog .neq 30 v79 (.int .i64 0)).bind fun v80 =>
       (asB v80).bind fun b81 => if b81 = true then
        ((aBuild Tryd.prog 29 []).bind fun v82 =>
        ((aStore Tryd.prog 29 (s64.1 2) v82 r77.2).map fun H' => ((.tuple [] : AV), H')).bind fun r83 =>
        (some (.ret, (updL s64.1 [(53, v67), (54, (s64.1 52)), (55, v69), (8, (s64.1 52)), (9, v69), (56, (s64.1 52)), (57, v70), (58, (s64.1 4)), (59, v71), (60, v72), (62, (s64.1 4)), (63, (s64.1 52)), (64, v74), (65, v75), (66, v76), (67, r77.1), (61, r77.1), (68, v78), (69, v79), (10, v78), (11, v79), (70, v79), (71, v80), (72, v82), (3, (.int .i64 61))]), r83.2)).map .inr)
       else
        ((nilC v69).bind fun v84 =>
        ((aStore Tryd.prog 2 v84 v78 r77.2).map fun H' => ((.tuple [] : AV), H')).bind fun r85 =>
        some (.inl ((updL s64.1 [(53, v67), (54, (s64.1 52)), (55, v69), (8, (s64.1 52)), (9, v69), (56, (s64.1 52)), (57, v70), (58, (s64.1 4)), (59, v71), (60, v72), (62, (s64.1 4)), (63, (s64.1 52)), (64, v74), (65, v75), (66, v76), (67, r77.1), (61, r77.1), (68, v78), (69, v79), (10, v78), (11, v79), (70, v79), (71, v80), (73, v69), (74, v78), (75, v84)]), r85.2))))
      else
       (some (.inl ((updL s64.1 [(53, v67), (54, (s64.1 52)), (55, v69), (8, (s64.1 52)), (9, v69), (56, (s64.1 52)), (57, v70), (58, (s64.1 4)), (59, v71), (60, v72)]), s64.2))))
     (F24_J1 call it))
    else
     (some (.exit 2, (updL s64.1 [(53, v67)]), s64.2))
noncomputable def F24_L3 (call : CallF) (it : ItF) (s5 : St) : Option (Ex × St) :=
 (aBin Tryd.prog .lss 3 (s5.1 15) (.int .i64 26)).bind fun v8 =>
  (asB v8).bind fun b9 => if b9 = true then
   (jn (
    (idxAgg Tryd.prog 9 26 1 (s5.1 14) (s5.1 15)).bind fun v10 =>
    (aBin Tryd.prog .gtr 3 (s5.1 15) (.int .i64 0)).bind fun v11 =>
    ((gdv v11 true).bind fun g12 => if g12 = true then (some (s5.1 4)) else some (.tuple [])).bind fun v13 =>
    ((gdv v11 true).bind fun g14 => if g14 = true then (aLen Tryd.prog 90 v13) else some (.tuple [])).bind fun v15 =>
    ((gdv v11 true).bind fun g16 => if g16 = true then (aBin Tryd.prog .gtr 3 v15 (.int .i64 0)) else some (.tuple [])).bind fun v17 =>
    ((asB v11).bind fun b18 => if b18 = true then some v17 else some (.bool false)).bind fun v19 =>
    ((gdv v19 true).bind fun g20 => if g20 = true then (some (s5.1 4)) else some (.tuple [])).bind fun v21 =>
    ((gdv v19 true).bind fun g22 => if g22 = true then (idxSl v21 (.int .i64 0) 1) else some (.tuple [])).bind fun v23 =>
    ((gdv v19 true).bind fun g24 => if g24 = true then (ldOne v23 s5.2) else some (.tuple [])).bind fun v25 =>
    ((gdv v19 true).bind fun g26 => if g26 = true then (some v10) else some (.tuple [])).bind fun v27 =>
    ((gdv v19 true).bind fun g28 => if g28 = true then (aBin Tryd.prog .eql 9 v25 v27) else some (.tuple [])).bind fun v29 =>
    ((asB v19).bind fun b30 => if b30 = true then some v29 else some (.bool false)).bind fun v31 =>
    (asB v31).bind fun b32 => if b32 = true then
     ((ptrAdd (s5.1 5) 0).bind fun v33 =>
     ((aStore Tryd.prog 3 v33 (s5.1 15) s5.2).map fun H' => ((.tuple [] : AV), H')).bind fun r34 =>
     some (.inl ((updL s5.1 [(16, v8), (17, (s5.1 15)), (18, v10), (6, (s5.1 15)), (7, v10), (19, (s5.1 15)), (20, v11), (21, v11), (22, v13), (23, v15), (24, v17), (25, v19), (26, v19), (27, v21), (28, v23), (29, v25), (30, v27), (31, v29), (32, v31), (33, (s5.1 15)), (34, v33)]), r34.2)))
    else
     (some (.inl ((updL s5.1 [(16, v8), (17, (s5.1 15)), (18, v10), (6, (s5.1 15)), (7, v10), (19, (s5.1 15)), (20, v11), (21, v11), (22, v13), (23, v15), (24, v17), (25, v19), (26, v19), (27, v21), (28, v23), (29, v25), (30, v27), (31, v29), (32, v31)]), s5.2))))
   (F24_J0 call it))
  else
   (some (.exit 0, (updL s5.1 [(16, v8)]), s5.2))
noncomputable def F24 (call : CallF) (it : ItF) (x0 : AV) (H : AH) : Option (AV × AH) :=
 (nAlloc Tryd.prog 29).bind fun nb1 =>
 (call 67 [x0] (H.new nb1.cells nb1.elem)).bind fun r2 =>
 (nAlloc Tryd.prog 29).bind fun nb3 =>
 (ldAgg (.ptr (some (0, 0))) 26 (r2.2.new nb3.cells nb3.elem)).bind fun v4 =>
 (it (F24_L3 call it) ((updL (T0 [x0]) [(2, (nb1.val H.next)), (3, (.int .i64 0)), (12, x0), (13, r2.1), (4, r2.1), (5, (nb3.val r2.2.next)), (14, v4), (15, (.int .i64 0))]), (r2.2.new nb3.cells nb3.elem))).bind fun r6 => match r6.1 with
  | .normal => none
  | .exit j7 => if j7 = 0 then
  ((ptrAdd (r6.2.1 5) 0).bind fun v38 =>
  (ldOne v38 r6.2.2).bind fun v39 =>
  (aBin Tryd.prog .eql 3 v39 (.int .i64 0)).bind fun v40 =>
  ((gdv v40 false).bind fun g41 => if g41 = true then (some (r6.2.1 4)) else some (.tuple [])).bind fun v42 =>
  ((gdv v40 false).bind fun g43 => if g43 = true then (aLen Tryd.prog 90 v42) else some (.tuple [])).bind fun v44 =>
  ((gdv v40 false).bind fun g45 => if g45 = true then (ptrAdd (r6.2.1 5) 0) else some (.tuple [])).bind fun v46 =>
  ((gdv v40 false).bind fun g47 => if g47 = true then (ldOne v46 r6.2.2) else some (.tuple [])).bind fun v48 =>
  ((gdv v40 false).bind fun g49 => if g49 = true then (call 65 [v48] r6.2.2) else some (.tuple [], r6.2.2)).bind fun r50 =>
  ((gdv v40 false).bind fun g51 => if g51 = true then (aBin Tryd.prog .add 3 (.int .i64 1) r50.1) else some (.tuple [])).bind fun v52 =>
  ((gdv v40 false).bind fun g53 => if g53 = true then (aBin Tryd.prog .neq 3 v44 v52) else some (.tuple [])).bind fun v54 =>
  ((asB v40).bind fun b55 => if b55 = true then some (.bool true) else some v54).bind fun v56 =>
  (asB v56).bind fun b57 => if b57 = true then
   ((aBuild Tryd.prog 29 []).bind fun v58 =>
   ((aStore Tryd.prog 29 (r6.2.1 2) v58 r50.2).map fun H' => ((.tuple [] : AV), H')).bind fun r59 =>
   (((ldAgg (r6.2.1 2) 3 r59.2).bind fun v60 => some (v60 :: ((.int .i64 61) :: []))).map oneOf).map fun v => (v, r59.2))
  else
   ((ptrAdd (r6.2.1 5) 1).bind fun v61 =>
   (ptrAdd (r6.2.1 5) 2).bind fun v62 =>
   (aBuild Tryd.prog 95 [(0, v61), (1, v62)]).bind fun v63 =>
   (it (F24_L2 call it) ((updL r6.2.1 [(36, v38), (37, v39), (38, v40), (39, v40), (40, v42), (41, v44), (42, v46), (43, v48), (44, r50.1), (45, v52), (46, v54), (47, v56), (49, v61), (50, v62), (51, v63), (52, (.int .i64 0))]), r50.2)).bind fun r65 => match r65.1 with
    | .normal => none
    | .exit j66 => if j66 = 2 then
    ((ldAgg (r65.2.1 5) 3 r65.2.2).bind fun v89 =>
    ((aStore Tryd.prog 29 (r65.2.1 2) v89 r65.2.2).map fun H' => ((.tuple [] : AV), H')).bind fun r90 =>
    (((ldAgg (r65.2.1 2) 3 r90.2).bind fun v91 => some (v91 :: ((.int .i64 0) :: []))).map oneOf).map fun v => (v, r90.2))
    else
    (none)
    | .ret => (((ldAgg (r65.2.1 2) 3 r65.2.2).bind fun v92 => some (v92 :: ((r65.2.1 3) :: []))).map oneOf).map fun v => (v, r65.2.2)))
  else
  (none)
  | .ret => (((ldAgg (r6.2.1 2) 3 r6.2.2).bind fun v93 => some (v93 :: ((r6.2.1 3) :: []))).map oneOf).map fun v => (v, r6.2.2)
theorem F24_eq (call : CallF) (it : ItF) (x0 : AV) (H : AH) : aFun Tryd.prog (drawA Tryd.prog) call it 24 [x0] H = F24 call it x0 H :=
  (aFun_eq Tryd.func24 rfl (by kernel_rfl) _ H (Nat.le_of_ble_eq_true (by kernel_rfl))).trans (by kernel_rfl)

end Go.Proofs.YthiflgncldmkjaaDoor
/- Functions of the program as plain Lean functions over abstract values, each tied to the interpreter by the kernel. Written by a program of ours (shal.py). -/
set_option linter.unusedVariables false
set_option maxRecDepth 100000
namespace Go.Proofs.YthiflgncldmkjaaDoor
open Go.Ri

noncomputable def F62 (call : CallF) (it : ItF) (x0 : AV) (H : AH) : Option (AV × AH) :=
 (nAlloc Tryd.prog 130).bind fun nb1 =>
 (cvInt .u64 x0).bind fun v2 =>
 jn (
  (aBin Tryd.prog .lss 2 x0 (.int .i64 0)).bind fun v3 =>
  (asB v3).bind fun b4 => if b4 = true then
   ((aUn .neg v2).bind fun v5 =>
   some (.inl ((updL (T0 [x0]) [(2, (.str ⟨#[]⟩)), (3, (nb1.val H.next)), (4, (.int .i64 20)), (6, x0), (7, v2), (5, v2), (8, x0), (9, v3), (10, v2), (11, v5), (5, v5)]), (H.new nb1.cells nb1.elem))))
  else
   (some (.inl ((updL (T0 [x0]) [(2, (.str ⟨#[]⟩)), (3, (nb1.val H.next)), (4, (.int .i64 20)), (6, x0), (7, v2), (5, v2), (8, x0), (9, v3)]), (H.new nb1.cells nb1.elem)))))
 fun T6 H7 =>
 (it (fun s8 =>
   (aBin Tryd.prog .sub 3 (s8.1 4) (.int .i64 1)).bind fun v11 =>
   (aBin Tryd.prog .rem 131 (s8.1 5) (.int .u64 10)).bind fun v12 =>
   (aBin Tryd.prog .add 131 (.int .u64 48) v12).bind fun v13 =>
   (cvInt .u8 v13).bind fun v14 =>
   (idxPtr (s8.1 3) v11 20 1).bind fun v15 =>
   ((aStore Tryd.prog 5 v15 v14 s8.2).map fun H' => ((.tuple [] : AV), H')).bind fun r16 =>
   (aBin Tryd.prog .quo 131 (s8.1 5) (.int .u64 10)).bind fun v17 =>
   (aBin Tryd.prog .eql 131 v17 (.int .u64 0)).bind fun v18 =>
   (asB v18).bind fun b19 => if b19 = true then
    (some (.exit 0, (updL s8.1 [(12, (s8.1 4)), (13, v11), (4, v11), (14, v11), (15, (s8.1 5)), (16, v12), (17, v13), (18, v14), (19, v15), (20, (s8.1 5)), (21, v17), (5, v17), (22, v17), (23, v18)]), r16.2))
   else
    (some (.normal, (updL s8.1 [(12, (s8.1 4)), (13, v11), (4, v11), (14, v11), (15, (s8.1 5)), (16, v12), (17, v13), (18, v14), (19, v15), (20, (s8.1 5)), (21, v17), (5, v17), (22, v17), (23, v18)]), r16.2))) (T6, H7)).bind fun r9 => match r9.1 with
   | .normal => none
   | .exit j10 => if j10 = 0 then
   (jn (
    (aBin Tryd.prog .lss 2 (r9.2.1 0) (.int .i64 0)).bind fun v20 =>
    (asB v20).bind fun b21 => if b21 = true then
     ((aBin Tryd.prog .sub 3 (r9.2.1 4) (.int .i64 1)).bind fun v22 =>
     (idxPtr (r9.2.1 3) v22 20 1).bind fun v23 =>
     ((aStore Tryd.prog 5 v23 (.int .u8 45) r9.2.2).map fun H' => ((.tuple [] : AV), H')).bind fun r24 =>
     some (.inl ((updL r9.2.1 [(24, (r9.2.1 0)), (25, v20), (26, (r9.2.1 4)), (27, v22), (4, v22), (28, v22), (29, v23)]), r24.2)))
    else
     (some (.inl ((updL r9.2.1 [(24, (r9.2.1 0)), (25, v20)]), r9.2.2))))
   fun T25 H26 =>
   (slArr (T25 3) 20 1 (some (T25 4)) none none).bind fun v27 =>
    (cvBytes v27 H26).bind fun v28 =>
    some (v28, H26))
   else
   (none)
   | .ret => some ((r9.2.1 2), r9.2.2)
theorem F62_eq (call : CallF) (it : ItF) (x0 : AV) (H : AH) : aFun Tryd.prog (drawA Tryd.prog) call it 62 [x0] H = F62 call it x0 H :=
  (aFun_eq Tryd.func62 rfl (by kernel_rfl) _ H (Nat.le_of_ble_eq_true (by kernel_rfl))).trans (by kernel_rfl)

noncomputable def F63_J0 (call : CallF) (it : ItF) (T71 : Tm) (H72 : AH) : Option (AV × AH) :=
 some ((.tuple [(T71 5), (.int .i64 0)]), H72)
noncomputable def F63_J1 (call : CallF) (it : ItF) (T60 : Tm) (H61 : AH) : Option (AV × AH) :=
 jn (
    (ptrAdd (T60 4) 1).bind fun v62 =>
    (ldOne v62 H61).bind fun v63 =>
    (aBin Tryd.prog .gtr 3 v63 (.int .i64 1)).bind fun v64 =>
    (asB v64).bind fun b65 => if b65 = true then
     ((aBin Tryd.prog .add 9 (T60 5) (.str ⟨#[32]⟩)).bind fun v66 =>
     (ptrAdd (T60 1) 2).bind fun v67 =>
     (ldOne v67 H61).bind fun v68 =>
     (call 64 [v68] H61).bind fun r69 =>
     (aBin Tryd.prog .add 9 v66 r69.1).bind fun v70 =>
     some (.inl ((updL T60 [(43, v62), (44, v63), (45, v64), (46, (T60 5)), (47, v66), (48, v67), (49, v68), (50, r69.1), (51, v70), (5, v70)]), r69.2)))
    else
     (some (.inl ((updL T60 [(43, v62), (44, v63), (45, v64)]), H61))))
   (F63_J0 call it)
noncomputable def F63 (call : CallF) (it : ItF) (x0 : AV) (H : AH) : Option (AV × AH) :=
 (nBox 29 x0).bind fun nb1 =>
 (ptrAdd (nb1.val H.next) 0).bind fun v2 =>
 (ldOne v2 (H.new nb1.cells nb1.elem)).bind fun v3 =>
 (call 92 [v3] (H.new nb1.cells nb1.elem)).bind fun r4 =>
 (nAlloc Tryd.prog 133).bind fun nb5 =>
 ((aStore Tryd.prog 133 (nb5.val r4.2.next) r4.1 (r4.2.new nb5.cells nb5.elem)).map fun H' => ((.tuple [] : AV), H')).bind fun r6 =>
 (ptrAdd (nb5.val r4.2.next) 0).bind fun v7 =>
 (ldOne v7 r6.2).bind fun v8 =>
 (aBin Tryd.prog .eql 9 v8 (.str ⟨#[]⟩)).bind fun v9 =>
 ((gdv v9 false).bind fun g10 => if g10 = true then (ptrAdd (nb5.val r4.2.next) 1) else some (.tuple [])).bind fun v11 =>
 ((gdv v9 false).bind fun g12 => if g12 = true then (ldOne v11 r6.2) else some (.tuple [])).bind fun v13 =>
 ((gdv v9 false).bind fun g14 => if g14 = true then (aBin Tryd.prog .lss 3 v13 (.int .i64 1)) else some (.tuple [])).bind fun v15 =>
 ((gdv v9 false).bind fun g16 => if g16 = true then (some v15) else some (.tuple [])).bind fun v17 =>
 ((gdv v17 true).bind fun g18 => if g18 = true then (ptrAdd (nb1.val H.next) 1) else some (.tuple [])).bind fun v19 =>
 ((gdv v17 true).bind fun g20 => if g20 = true then (ldOne v19 r6.2) else some (.tuple [])).bind fun v21 =>
 ((gdv v17 true).bind fun g22 => if g22 = true then (aBin Tryd.prog .neq 2 v21 (.int .i64 0)) else some (.tuple [])).bind fun v23 =>
 ((gdv v9 false).bind fun g25 => if g25 = true then ((asB v17).bind fun b24 => if b24 = true then some v23 else some (.bool false)) else some (.tuple [])).bind fun v26 =>
 ((asB v9).bind fun b27 => if b27 = true then some (.bool true) else some v26).bind fun v28 =>
 ((gdv v28 false).bind fun g29 => if g29 = true then (ptrAdd (nb5.val r4.2.next) 1) else some (.tuple [])).bind fun v30 =>
 ((gdv v28 false).bind fun g31 => if g31 = true then (ldOne v30 r6.2) else some (.tuple [])).bind fun v32 =>
 ((gdv v28 false).bind fun g33 => if g33 = true then (aBin Tryd.prog .lss 3 v32 (.int .i64 2)) else some (.tuple [])).bind fun v34 =>
 ((gdv v28 false).bind fun g35 => if g35 = true then (some v34) else some (.tuple [])).bind fun v36 =>
 ((gdv v36 true).bind fun g37 => if g37 = true then (ptrAdd (nb1.val H.next) 2) else some (.tuple [])).bind fun v38 =>
 ((gdv v36 true).bind fun g39 => if g39 = true then (ldOne v38 r6.2) else some (.tuple [])).bind fun v40 =>
 ((gdv v36 true).bind fun g41 => if g41 = true then (aBin Tryd.prog .neq 2 v40 (.int .i64 0)) else some (.tuple [])).bind fun v42 =>
 ((gdv v28 false).bind fun g44 => if g44 = true then ((asB v36).bind fun b43 => if b43 = true then some v42 else some (.bool false)) else some (.tuple [])).bind fun v45 =>
 ((asB v28).bind fun b46 => if b46 = true then some (.bool true) else some v45).bind fun v47 =>
 (asB v47).bind fun b48 => if b48 = true then
  (some ((.tuple [(.str ⟨#[]⟩), (.int .i64 61)]), r6.2))
 else
  ((ptrAdd (nb5.val r4.2.next) 0).bind fun v49 =>
  (ldOne v49 r6.2).bind fun v50 =>
  jn (
   (ptrAdd (nb5.val r4.2.next) 1).bind fun v51 =>
   (ldOne v51 r6.2).bind fun v52 =>
   (aBin Tryd.prog .gtr 3 v52 (.int .i64 0)).bind fun v53 =>
   (asB v53).bind fun b54 => if b54 = true then
    ((aBin Tryd.prog .add 9 v50 (.str ⟨#[32]⟩)).bind fun v55 =>
    (ptrAdd (nb1.val H.next) 1).bind fun v56 =>
    (ldOne v56 r6.2).bind fun v57 =>
    (call 64 [v57] r6.2).bind fun r58 =>
    (aBin Tryd.prog .add 9 v55 r58.1).bind fun v59 =>
    some (.inl ((updL (T0 [x0]) [(1, (nb1.val H.next)), (2, (.str ⟨#[]⟩)), (3, (.int .i64 0)), (6, v2), (7, v3), (8, r4.1), (4, (nb5.val r4.2.next)), (9, v7), (10, v8), (11, v9), (12, v9), (13, v11), (14, v13), (15, v15), (16, v17), (17, v19), (18, v21), (19, v23), (20, v26), (21, v28), (22, v28), (23, v30), (24, v32), (25, v34), (26, v36), (27, v38), (28, v40), (29, v42), (30, v45), (31, v47), (32, v49), (33, v50), (5, v50), (34, v51), (35, v52), (36, v53), (37, v50), (38, v55), (39, v56), (40, v57), (41, r58.1), (42, v59), (5, v59)]), r58.2)))
   else
    (some (.inl ((updL (T0 [x0]) [(1, (nb1.val H.next)), (2, (.str ⟨#[]⟩)), (3, (.int .i64 0)), (6, v2), (7, v3), (8, r4.1), (4, (nb5.val r4.2.next)), (9, v7), (10, v8), (11, v9), (12, v9), (13, v11), (14, v13), (15, v15), (16, v17), (17, v19), (18, v21), (19, v23), (20, v26), (21, v28), (22, v28), (23, v30), (24, v32), (25, v34), (26, v36), (27, v38), (28, v40), (29, v42), (30, v45), (31, v47), (32, v49), (33, v50), (5, v50), (34, v51), (35, v52), (36, v53)]), r6.2))))
  (F63_J1 call it))
theorem F63_eq (call : CallF) (it : ItF) (x0 : AV) (H : AH) : aFun Tryd.prog (drawA Tryd.prog) call it 63 [x0] H = F63 call it x0 H :=
  (aFun_eq Tryd.func63 rfl (by kernel_rfl) _ H (Nat.le_of_ble_eq_true (by kernel_rfl))).trans (by kernel_rfl)

noncomputable def F64 (call : CallF) (it : ItF) (x0 : AV) (H : AH) : Option (AV × AH) :=
 (call 93 [x0] H).bind fun r1 =>
 (it (fun s2 =>
  (aBin Tryd.prog .eql 9 (s2.1 3) (.str ⟨#[]⟩)).bind fun v5 =>
  ((gdv v5 false).bind fun g6 => if g6 = true then (some (s2.1 4)) else some (.tuple [])).bind fun v7 =>
  ((gdv v5 false).bind fun g8 => if g8 = true then (aBin Tryd.prog .gtr 131 v7 (.int .u64 0)) else some (.tuple [])).bind fun v9 =>
  ((asB v5).bind fun b10 => if b10 = true then some (.bool true) else some v9).bind fun v11 =>
  (asB v11).bind fun b12 => if b12 = true then
   ((aBin Tryd.prog .rem 131 (s2.1 4) (.int .u64 10)).bind fun v13 =>
   (aBin Tryd.prog .add 131 (.int .u64 48) v13).bind fun v14 =>
   (cvInt .u8 v14).bind fun v15 =>
   (nBuildSlice Tryd.prog 87 1 [(0, v15)]).bind fun nb16 =>
   (cvBytes (nb16.val s2.2.next) (s2.2.new nb16.cells nb16.elem)).bind fun v17 =>
   (aBin Tryd.prog .add 9 v17 (s2.1 3)).bind fun v18 =>
   (aBin Tryd.prog .quo 131 (s2.1 4) (.int .u64 10)).bind fun v19 =>
   some (.normal, (updL s2.1 [(7, (s2.1 3)), (8, v5), (9, v5), (10, v7), (11, v9), (12, v11), (13, (s2.1 4)), (14, v13), (15, v14), (16, v15), (17, (nb16.val s2.2.next)), (18, v17), (19, (s2.1 3)), (20, v18), (3, v18), (21, (s2.1 4)), (22, v19), (4, v19)]), (s2.2.new nb16.cells nb16.elem)))
  else
   (some (.exit 0, (updL s2.1 [(7, (s2.1 3)), (8, v5), (9, v5), (10, v7), (11, v9), (12, v11)]), s2.2))) ((updL (T0 [x0]) [(2, (.str ⟨#[]⟩)), (3, (.str ⟨#[]⟩)), (5, x0), (6, r1.1), (4, r1.1)]), r1.2)).bind fun r3 => match r3.1 with
  | .normal => none
  | .exit j4 => if j4 = 0 then
  (jn (
   (aBin Tryd.prog .lss 2 (r3.2.1 0) (.int .i64 0)).bind fun v20 =>
   (asB v20).bind fun b21 => if b21 = true then
    ((aBin Tryd.prog .add 9 (.str ⟨#[45]⟩) (r3.2.1 3)).bind fun v22 =>
    some (.inl ((updL r3.2.1 [(23, (r3.2.1 0)), (24, v20), (25, (r3.2.1 3)), (26, v22), (3, v22)]), r3.2.2)))
   else
    (some (.inl ((updL r3.2.1 [(23, (r3.2.1 0)), (24, v20)]), r3.2.2))))
  fun T23 H24 =>
  some ((T23 3), H24))
  else
  (none)
  | .ret => some ((r3.2.1 2), r3.2.2)
theorem F64_eq (call : CallF) (it : ItF) (x0 : AV) (H : AH) : aFun Tryd.prog (drawA Tryd.prog) call it 64 [x0] H = F64 call it x0 H :=
  (aFun_eq Tryd.func64 rfl (by kernel_rfl) _ H (Nat.le_of_ble_eq_true (by kernel_rfl))).trans (by kernel_rfl)

noncomputable def F65 (call : CallF) (it : ItF) (x0 : AV) (H : AH) : Option (AV × AH) :=
 jn (
  (aBin Tryd.prog .eql 3 x0 (.int .i64 4)).bind fun v1 =>
  (asB v1).bind fun b2 => if b2 = true then
   (some (.inl ((updL (T0 [x0]) [(2, (.int .i64 0)), (3, x0), (5, v1), (4, v1)]), H)))
  else
   ((aBin Tryd.prog .eql 3 x0 (.int .i64 5)).bind fun v3 =>
   (asB v3).bind fun b4 => if b4 = true then
    (some (.inl ((updL (T0 [x0]) [(2, (.int .i64 0)), (3, x0), (5, v1), (4, v1), (6, v3), (4, v3)]), H)))
   else
    ((aBin Tryd.prog .eql 3 x0 (.int .i64 6)).bind fun v5 =>
    (asB v5).bind fun b6 => if b6 = true then
     (some (.inl ((updL (T0 [x0]) [(2, (.int .i64 0)), (3, x0), (5, v1), (4, v1), (6, v3), (4, v3), (7, v5), (4, v5)]), H)))
    else
     ((aBin Tryd.prog .eql 3 x0 (.int .i64 19)).bind fun v7 =>
     (asB v7).bind fun b8 => if b8 = true then
      (some (.inl ((updL (T0 [x0]) [(2, (.int .i64 0)), (3, x0), (5, v1), (4, v1), (6, v3), (4, v3), (7, v5), (4, v5), (8, v7), (4, v7)]), H)))
     else
      ((aBin Tryd.prog .eql 3 x0 (.int .i64 24)).bind fun v9 =>
      some (.inl ((updL (T0 [x0]) [(2, (.int .i64 0)), (3, x0), (5, v1), (4, v1), (6, v3), (4, v3), (7, v5), (4, v5), (8, v7), (4, v7), (9, v9), (4, v9)]), H)))))))
 fun T10 H11 =>
 (asB (T10 4)).bind fun b12 => if b12 = true then
   (some ((.int .i64 2), H11))
  else
   (jn (
    (aBin Tryd.prog .eql 3 (T10 3) (.int .i64 1)).bind fun v13 =>
    (asB v13).bind fun b14 => if b14 = true then
     (some (.inl ((updL T10 [(11, v13), (10, v13)]), H11)))
    else
     ((aBin Tryd.prog .eql 3 (T10 3) (.int .i64 2)).bind fun v15 =>
     (asB v15).bind fun b16 => if b16 = true then
      (some (.inl ((updL T10 [(11, v13), (10, v13), (12, v15), (10, v15)]), H11)))
     else
      ((aBin Tryd.prog .eql 3 (T10 3) (.int .i64 3)).bind fun v17 =>
      (asB v17).bind fun b18 => if b18 = true then
       (some (.inl ((updL T10 [(11, v13), (10, v13), (12, v15), (10, v15), (13, v17), (10, v17)]), H11)))
      else
       ((aBin Tryd.prog .eql 3 (T10 3) (.int .i64 17)).bind fun v19 =>
       (asB v19).bind fun b20 => if b20 = true then
        (some (.inl ((updL T10 [(11, v13), (10, v13), (12, v15), (10, v15), (13, v17), (10, v17), (14, v19), (10, v19)]), H11)))
       else
        ((aBin Tryd.prog .eql 3 (T10 3) (.int .i64 18)).bind fun v21 =>
        (asB v21).bind fun b22 => if b22 = true then
         (some (.inl ((updL T10 [(11, v13), (10, v13), (12, v15), (10, v15), (13, v17), (10, v17), (14, v19), (10, v19), (15, v21), (10, v21)]), H11)))
        else
         ((aBin Tryd.prog .eql 3 (T10 3) (.int .i64 20)).bind fun v23 =>
         some (.inl ((updL T10 [(11, v13), (10, v13), (12, v15), (10, v15), (13, v17), (10, v17), (14, v19), (10, v19), (15, v21), (10, v21), (16, v23), (10, v23)]), H11))))))))
   fun T24 H25 =>
   (asB (T24 10)).bind fun b26 => if b26 = true then
     (some ((.int .i64 1), H25))
    else
     (some ((.int .i64 0), H25)))
theorem F65_eq (call : CallF) (it : ItF) (x0 : AV) (H : AH) : aFun Tryd.prog (drawA Tryd.prog) call it 65 [x0] H = F65 call it x0 H :=
  (aFun_eq Tryd.func65 rfl (by kernel_rfl) _ H (Nat.le_of_ble_eq_true (by kernel_rfl))).trans (by kernel_rfl)

noncomputable def F66 (call : CallF) (it : ItF) (x0 : AV) (H : AH) : Option (AV × AH) :=
 (aLen Tryd.prog 90 x0).bind fun v1 =>
 (it (fun s2 =>
  (aBin Tryd.prog .lss 3 (s2.1 8) (s2.1 7)).bind fun v5 =>
  (asB v5).bind fun b6 => if b6 = true then
   ((idxSl (s2.1 6) (s2.1 8) 1).bind fun v7 =>
   (ldOne v7 s2.2).bind fun v8 =>
   jn (
    (aBin Tryd.prog .gtr 3 (s2.1 8) (.int .i64 0)).bind fun v9 =>
    (asB v9).bind fun b10 => if b10 = true then
     ((nBuildSlice Tryd.prog 87 1 [(0, (.int .u8 32))]).bind fun nb11 =>
     (aAppend Tryd.prog 87 87 (s2.1 3) (nb11.val s2.2.next) (s2.2.new nb11.cells nb11.elem)).bind fun r12 =>
     some (.inl ((updL s2.1 [(9, v5), (10, (s2.1 8)), (11, v7), (12, v8), (4, (s2.1 8)), (5, v8), (13, (s2.1 8)), (14, v9), (15, (s2.1 3)), (16, (nb11.val s2.2.next)), (17, r12.1), (3, r12.1)]), r12.2)))
    else
     (some (.inl ((updL s2.1 [(9, v5), (10, (s2.1 8)), (11, v7), (12, v8), (4, (s2.1 8)), (5, v8), (13, (s2.1 8)), (14, v9)]), s2.2))))
   fun T13 H14 =>
   (aAppend Tryd.prog 87 9 (T13 3) (T13 5) H14).bind fun r15 =>
    (aBin Tryd.prog .add 3 (T13 8) (.int .i64 1)).bind fun v16 =>
    some (.normal, (updL T13 [(18, (T13 3)), (19, (T13 5)), (20, r15.1), (3, r15.1), (21, v16), (8, v16)]), r15.2))
  else
   (some (.exit 0, (updL s2.1 [(9, v5)]), s2.2))) ((updL (T0 [x0]) [(2, (.str ⟨#[]⟩)), (3, (.slice none 0 (.kn 0))), (6, x0), (7, v1), (8, (.int .i64 0))]), H)).bind fun r3 => match r3.1 with
  | .normal => none
  | .exit j4 => if j4 = 0 then
  ((cvBytes (r3.2.1 3) r3.2.2).bind fun v17 =>
  some (v17, r3.2.2))
  else
  (none)
  | .ret => some ((r3.2.1 2), r3.2.2)
theorem F66_eq (call : CallF) (it : ItF) (x0 : AV) (H : AH) : aFun Tryd.prog (drawA Tryd.prog) call it 66 [x0] H = F66 call it x0 H :=
  (aFun_eq Tryd.func66 rfl (by kernel_rfl) _ H (Nat.le_of_ble_eq_true (by kernel_rfl))).trans (by kernel_rfl)

noncomputable def F67_J0 (call : CallF) (it : ItF) (T16 : Tm) (H17 : AH) : Option (Ex × St) :=
 (aBin Tryd.prog .add 3 (T16 5) (.int .i64 1)).bind fun v18 =>
     some (.normal, (updL T16 [(12, (T16 5)), (13, v18), (5, v18)]), H17)
noncomputable def F67_L1 (call : CallF) (it : ItF) (s3 : St) : Option (Ex × St) :=
 (aLen Tryd.prog 9 (s3.1 0)).bind fun v6 =>
   (aBin Tryd.prog .lss 3 (s3.1 5) v6).bind fun v7 =>
   (asB v7).bind fun b8 => if b8 = true then
    (jn (
     (idxStr (s3.1 0) (s3.1 5)).bind fun v9 =>
     (aBin Tryd.prog .eql 5 v9 (.int .u8 32)).bind fun v10 =>
     (asB v10).bind fun b11 => if b11 = true then
      ((slStr (s3.1 0) (some (s3.1 4)) (some (s3.1 5)) none).bind fun v12 =>
      (nBuildSlice Tryd.prog 90 1 [(0, v12)]).bind fun nb13 =>
      (aAppend Tryd.prog 90 90 (s3.1 3) (nb13.val s3.2.next) (s3.2.new nb13.cells nb13.elem)).bind fun r14 =>
      (aBin Tryd.prog .add 3 (s3.1 5) (.int .i64 1)).bind fun v15 =>
      some (.inl ((updL s3.1 [(8, (s3.1 5)), (9, (s3.1 0)), (10, v6), (11, v7), (14, (s3.1 0)), (15, (s3.1 5)), (16, v9), (17, v10), (18, (s3.1 3)), (19, (s3.1 0)), (20, (s3.1 4)), (21, (s3.1 5)), (22, v12), (23, (nb13.val s3.2.next)), (24, r14.1), (3, r14.1), (25, (s3.1 5)), (26, v15), (4, v15)]), r14.2)))
     else
      (some (.inl ((updL s3.1 [(8, (s3.1 5)), (9, (s3.1 0)), (10, v6), (11, v7), (14, (s3.1 0)), (15, (s3.1 5)), (16, v9), (17, v10)]), s3.2))))
    (F67_J0 call it))
   else
    (some (.exit 0, (updL s3.1 [(8, (s3.1 5)), (9, (s3.1 0)), (10, v6), (11, v7)]), s3.2))
noncomputable def F67 (call : CallF) (it : ItF) (x0 : AV) (H : AH) : Option (AV × AH) :=
 (aBin Tryd.prog .eql 9 x0 (.str ⟨#[]⟩)).bind fun v1 =>
 (asB v1).bind fun b2 => if b2 = true then
  (some ((.slice none 0 (.kn 0)), H))
 else
  ((it (F67_L1 call it) ((updL (T0 [x0]) [(2, (.slice none 0 (.kn 0))), (6, x0), (7, v1), (3, (.slice none 0 (.kn 0))), (4, (.int .i64 0)), (5, (.int .i64 0))]), H)).bind fun r4 => match r4.1 with
   | .normal => none
   | .exit j5 => if j5 = 0 then
   ((slStr (r4.2.1 0) (some (r4.2.1 4)) none none).bind fun v19 =>
   (nBuildSlice Tryd.prog 90 1 [(0, v19)]).bind fun nb20 =>
   (aAppend Tryd.prog 90 90 (r4.2.1 3) (nb20.val r4.2.2.next) (r4.2.2.new nb20.cells nb20.elem)).bind fun r21 =>
   some (r21.1, r21.2))
   else
   (none)
   | .ret => some ((r4.2.1 2), r4.2.2))
theorem F67_eq (call : CallF) (it : ItF) (x0 : AV) (H : AH) : aFun Tryd.prog (drawA Tryd.prog) call it 67 [x0] H = F67 call it x0 H :=
  (aFun_eq Tryd.func67 rfl (by kernel_rfl) _ H (Nat.le_of_ble_eq_true (by kernel_rfl))).trans (by kernel_rfl)

noncomputable def F68_L0 (call : CallF) (it : ItF) (s34 : St) : Option (Ex × St) :=
 ((gdv (s34.1 7) true).bind fun g37 => if g37 = true then (some (s34.1 8)) else some (.tuple [])).bind fun v38 =>
   ((gdv (s34.1 7) true).bind fun g39 => if g39 = true then (some (s34.1 4)) else some (.tuple [])).bind fun v40 =>
   ((gdv (s34.1 7) true).bind fun g41 => if g41 = true then (aLen Tryd.prog 9 v40) else some (.tuple [])).bind fun v42 =>
   ((gdv (s34.1 7) true).bind fun g43 => if g43 = true then (aBin Tryd.prog .lss 3 v38 v42) else some (.tuple [])).bind fun v44 =>
   ((asB (s34.1 7)).bind fun b45 => if b45 = true then some v44 else some (.bool false)).bind fun v46 =>
   (asB v46).bind fun b47 => if b47 = true then
    ((idxStr (s34.1 4) (s34.1 8)).bind fun v48 =>
    (cvInt .u64 v48).bind fun v49 =>
    (aBin Tryd.prog .sub 131 v49 (.int .u64 48)).bind fun v50 =>
    (idxStr (s34.1 4) (s34.1 8)).bind fun v51 =>
    (aBin Tryd.prog .lss 5 v51 (.int .u8 48)).bind fun v52 =>
    ((gdv v52 false).bind fun g53 => if g53 = true then (some v50) else some (.tuple [])).bind fun v54 =>
    ((gdv v52 false).bind fun g55 => if g55 = true then (aBin Tryd.prog .gtr 131 v54 (.int .u64 9)) else some (.tuple [])).bind fun v56 =>
    ((asB v52).bind fun b57 => if b57 = true then some (.bool true) else some v56).bind fun v58 =>
    ((gdv v58 false).bind fun g59 => if g59 = true then (some (s34.1 6)) else some (.tuple [])).bind fun v60 =>
    ((gdv v58 false).bind fun g61 => if g61 = true then (some v50) else some (.tuple [])).bind fun v62 =>
    ((gdv v58 false).bind fun g63 => if g63 = true then (aBin Tryd.prog .sub 131 (.int .u64 9223372036854775808) v62) else some (.tuple [])).bind fun v64 =>
    ((gdv v58 false).bind fun g65 => if g65 = true then (aBin Tryd.prog .quo 131 v64 (.int .u64 10)) else some (.tuple [])).bind fun v66 =>
    ((gdv v58 false).bind fun g67 => if g67 = true then (aBin Tryd.prog .gtr 131 v60 v66) else some (.tuple [])).bind fun v68 =>
    ((asB v58).bind fun b69 => if b69 = true then some (.bool true) else some v68).bind fun v70 =>
    (asB v70).bind fun b71 => if b71 = true then
     (some (.exit 0, (updL s34.1 [(32, (s34.1 7)), (33, (s34.1 7)), (34, v38), (35, v40), (36, v42), (37, v44), (38, v46), (41, (s34.1 4)), (42, (s34.1 8)), (43, v48), (44, v49), (45, v50), (9, v50), (46, (s34.1 4)), (47, (s34.1 8)), (48, v51), (49, v52), (50, v52), (51, v54), (52, v56), (53, v58), (54, v58), (55, v60), (56, v62), (57, v64), (58, v66), (59, v68), (60, v70), (7, (.bool false))]), s34.2))
    else
     ((aBin Tryd.prog .mul 131 (s34.1 6) (.int .u64 10)).bind fun v72 =>
     (aBin Tryd.prog .add 131 v72 v50).bind fun v73 =>
     (aBin Tryd.prog .add 3 (s34.1 8) (.int .i64 1)).bind fun v74 =>
     some (.normal, (updL s34.1 [(32, (s34.1 7)), (33, (s34.1 7)), (34, v38), (35, v40), (36, v42), (37, v44), (38, v46), (41, (s34.1 4)), (42, (s34.1 8)), (43, v48), (44, v49), (45, v50), (9, v50), (46, (s34.1 4)), (47, (s34.1 8)), (48, v51), (49, v52), (50, v52), (51, v54), (52, v56), (53, v58), (54, v58), (55, v60), (56, v62), (57, v64), (58, v66), (59, v68), (60, v70), (61, (s34.1 6)), (62, v72), (63, v50), (64, v73), (6, v73), (39, (s34.1 8)), (40, v74), (8, v74)]), s34.2)))
   else
    (some (.exit 0, (updL s34.1 [(32, (s34.1 7)), (33, (s34.1 7)), (34, v38), (35, v40), (36, v42), (37, v44), (38, v46)]), s34.2))
noncomputable def F68_J1 (call : CallF) (it : ItF) (T12 : Tm) (H13 : AH) : Option (AV × AH) :=
 (aBin Tryd.prog .neq 9 (T12 4) (.str ⟨#[]⟩)).bind fun v14 =>
  ((gdv v14 true).bind fun g15 => if g15 = true then (some (T12 4)) else some (.tuple [])).bind fun v16 =>
  ((gdv v14 true).bind fun g17 => if g17 = true then (idxStr v16 (.int .i64 0)) else some (.tuple [])).bind fun v18 =>
  ((gdv v14 true).bind fun g19 => if g19 = true then (aBin Tryd.prog .neq 5 v18 (.int .u8 48)) else some (.tuple [])).bind fun v20 =>
  ((gdv v14 true).bind fun g21 => if g21 = true then (some v20) else some (.tuple [])).bind fun v22 =>
  ((gdv v22 false).bind fun g23 => if g23 = true then (some (T12 0)) else some (.tuple [])).bind fun v24 =>
  ((gdv v22 false).bind fun g25 => if g25 = true then (aLen Tryd.prog 9 v24) else some (.tuple [])).bind fun v26 =>
  ((gdv v22 false).bind fun g27 => if g27 = true then (aBin Tryd.prog .eql 3 v26 (.int .i64 1)) else some (.tuple [])).bind fun v28 =>
  ((gdv v14 true).bind fun g30 => if g30 = true then ((asB v22).bind fun b29 => if b29 = true then some (.bool true) else some v28) else some (.tuple [])).bind fun v31 =>
  ((asB v14).bind fun b32 => if b32 = true then some v31 else some (.bool false)).bind fun v33 =>
  (it (F68_L0 call it) ((updL T12 [(6, (.int .u64 0)), (20, (T12 4)), (21, v14), (22, v14), (23, v16), (24, v18), (25, v20), (26, v22), (27, v24), (28, v26), (29, v28), (30, v31), (31, v33), (7, v33), (8, (.int .i64 0))]), H13)).bind fun r35 => match r35.1 with
   | .normal => none
   | .exit j36 => if j36 = 0 then
   ((aUn .not (r35.2.1 7)).bind fun v75 =>
   ((gdv v75 false).bind fun g76 => if g76 = true then (some (r35.2.1 6)) else some (.tuple [])).bind fun v77 =>
   ((gdv v75 false).bind fun g78 => if g78 = true then (aBin Tryd.prog .eql 131 v77 (.int .u64 9223372036854775808)) else some (.tuple [])).bind fun v79 =>
   ((gdv v75 false).bind fun g80 => if g80 = true then (some v79) else some (.tuple [])).bind fun v81 =>
   ((gdv v81 true).bind fun g82 => if g82 = true then (some (r35.2.1 5)) else some (.tuple [])).bind fun v83 =>
   ((gdv v81 true).bind fun g84 => if g84 = true then (aUn .not v83) else some (.tuple [])).bind fun v85 =>
   ((gdv v75 false).bind fun g87 => if g87 = true then ((asB v81).bind fun b86 => if b86 = true then some v85 else some (.bool false)) else some (.tuple [])).bind fun v88 =>
   ((asB v75).bind fun b89 => if b89 = true then some (.bool true) else some v88).bind fun v90 =>
   (asB v90).bind fun b91 => if b91 = true then
    (some ((.tuple [(.int .i64 0), (.int .i64 10)]), r35.2.2))
   else
    ((asB (r35.2.1 5)).bind fun b92 => if b92 = true then
     ((aUn .neg (r35.2.1 6)).bind fun v93 =>
     (cvInt .i64 v93).bind fun v94 =>
     some ((.tuple [v94, (.int .i64 0)]), r35.2.2))
    else
     ((cvInt .i64 (r35.2.1 6)).bind fun v95 =>
     some ((.tuple [v95, (.int .i64 0)]), r35.2.2))))
   else
   (none)
   | .ret => some ((.tuple [(r35.2.1 2), (r35.2.1 3)]), r35.2.2)
noncomputable def F68 (call : CallF) (it : ItF) (x0 : AV) (H : AH) : Option (AV × AH) :=
 jn (
  (aBin Tryd.prog .neq 9 x0 (.str ⟨#[]⟩)).bind fun v1 =>
  ((gdv v1 true).bind fun g2 => if g2 = true then (some x0) else some (.tuple [])).bind fun v3 =>
  ((gdv v1 true).bind fun g4 => if g4 = true then (idxStr v3 (.int .i64 0)) else some (.tuple [])).bind fun v5 =>
  ((gdv v1 true).bind fun g6 => if g6 = true then (aBin Tryd.prog .eql 5 v5 (.int .u8 45)) else some (.tuple [])).bind fun v7 =>
  ((asB v1).bind fun b8 => if b8 = true then some v7 else some (.bool false)).bind fun v9 =>
  (asB v9).bind fun b10 => if b10 = true then
   ((slStr x0 (some (.int .i64 1)) none none).bind fun v11 =>
   some (.inl ((updL (T0 [x0]) [(2, (.int .i64 0)), (3, (.int .i64 0)), (10, x0), (4, x0), (5, (.bool false)), (11, x0), (12, v1), (13, v1), (14, v3), (15, v5), (16, v7), (17, v9), (18, x0), (19, v11), (4, v11), (5, (.bool true))]), H)))
  else
   (some (.inl ((updL (T0 [x0]) [(2, (.int .i64 0)), (3, (.int .i64 0)), (10, x0), (4, x0), (5, (.bool false)), (11, x0), (12, v1), (13, v1), (14, v3), (15, v5), (16, v7), (17, v9)]), H))))
 (F68_J1 call it)
theorem F68_eq (call : CallF) (it : ItF) (x0 : AV) (H : AH) : aFun Tryd.prog (drawA Tryd.prog) call it 68 [x0] H = F68 call it x0 H :=
  (aFun_eq Tryd.func68 rfl (by kernel_rfl) _ H (Nat.le_of_ble_eq_true (by kernel_rfl))).trans (by kernel_rfl)

end Go.Proofs.YthiflgncldmkjaaDoor
/- Functions of the program as plain Lean functions over abstract values, each tied to the interpreter by the kernel. Written by a program of ours (shal.py). -/
set_option linter.unusedVariables false
set_option maxRecDepth 100000
namespace Go.Proofs.YthiflgncldmkjaaDoor
open Go.Ri

noncomputable def F93 (call : CallF) (it : ItF) (x0 : AV) (H : AH) : Option (AV × AH) :=
 (aBin Tryd.prog .lss 2 x0 (.int .i64 0)).bind fun v1 =>
 (asB v1).bind fun b2 => if b2 = true then
  ((call 115 [x0] H).bind fun r3 =>
  (cvInt .u64 r3.1).bind fun v4 =>
  some (v4, r3.2))
 else
  ((cvInt .u64 x0).bind fun v5 =>
  some (v5, H))
theorem F93_eq (call : CallF) (it : ItF) (x0 : AV) (H : AH) : aFun Tryd.prog (drawA Tryd.prog) call it 93 [x0] H = F93 call it x0 H :=
  (aFun_eq Tryd.func93 rfl (by kernel_rfl) _ H (Nat.le_of_ble_eq_true (by kernel_rfl))).trans (by kernel_rfl)

noncomputable def F94_J0 (call : CallF) (it : ItF) (T47 : Tm) (H48 : AH) : Option (AV × AH) :=
 (asB (T47 38)).bind fun b49 => if b49 = true then
        ((ptrAdd (T47 3) 1).bind fun v50 =>
        (ldOne v50 H48).bind fun v51 =>
        (aBin Tryd.prog .geq 2 v51 (.int .i64 0)).bind fun v52 =>
        ((gdv v52 true).bind fun g53 => if g53 = true then (ptrAdd (T47 3) 1) else some (.tuple [])).bind fun v54 =>
        ((gdv v52 true).bind fun g55 => if g55 = true then (ldOne v54 H48) else some (.tuple [])).bind fun v56 =>
        ((gdv v52 true).bind fun g57 => if g57 = true then (some (T47 0)) else some (.tuple [])).bind fun v58 =>
        ((gdv v52 true).bind fun g59 => if g59 = true then (nilC v58) else some (.tuple [])).bind fun v60 =>
        ((gdv v52 true).bind fun g61 => if g61 = true then (ptrAdd v60 1) else some (.tuple [])).bind fun v62 =>
        ((gdv v52 true).bind fun g63 => if g63 = true then (ptrAdd v62 0) else some (.tuple [])).bind fun v64 =>
        ((gdv v52 true).bind fun g65 => if g65 = true then (ldOne v64 H48) else some (.tuple [])).bind fun v66 =>
        ((gdv v52 true).bind fun g67 => if g67 = true then (aLen Tryd.prog 22 v66) else some (.tuple [])).bind fun v68 =>
        ((gdv v52 true).bind fun g69 => if g69 = true then (aBin Tryd.prog .lss 2 v56 v68) else some (.tuple [])).bind fun v70 =>
        ((asB v52).bind fun b71 => if b71 = true then some v70 else some (.bool false)).bind fun v72 =>
        some (v72, H48))
       else
        ((aBin Tryd.prog .eql 3 (T47 15) (.int .i64 19)).bind fun v73 =>
        (asB v73).bind fun b74 => if b74 = true then
         ((ptrAdd (T47 3) 1).bind fun v75 =>
         (ldOne v75 H48).bind fun v76 =>
         (aBin Tryd.prog .geq 2 v76 (.int .i64 0)).bind fun v77 =>
         ((gdv v77 true).bind fun g78 => if g78 = true then (ptrAdd (T47 3) 1) else some (.tuple [])).bind fun v79 =>
         ((gdv v77 true).bind fun g80 => if g80 = true then (ldOne v79 H48) else some (.tuple [])).bind fun v81 =>
         ((gdv v77 true).bind fun g82 => if g82 = true then (some (T47 0)) else some (.tuple [])).bind fun v83 =>
         ((gdv v77 true).bind fun g84 => if g84 = true then (nilC v83) else some (.tuple [])).bind fun v85 =>
         ((gdv v77 true).bind fun g86 => if g86 = true then (ptrAdd v85 0) else some (.tuple [])).bind fun v87 =>
         ((gdv v77 true).bind fun g88 => if g88 = true then (ldOne v87 H48) else some (.tuple [])).bind fun v89 =>
         ((gdv v77 true).bind fun g90 => if g90 = true then (aLen Tryd.prog 36 v89) else some (.tuple [])).bind fun v91 =>
         ((gdv v77 true).bind fun g92 => if g92 = true then (aBin Tryd.prog .lss 2 v81 v91) else some (.tuple [])).bind fun v93 =>
         ((asB v77).bind fun b94 => if b94 = true then some v93 else some (.bool false)).bind fun v95 =>
         ((gdv v95 true).bind fun g96 => if g96 = true then (ptrAdd (T47 3) 2) else some (.tuple [])).bind fun v97 =>
         ((gdv v95 true).bind fun g98 => if g98 = true then (ldOne v97 H48) else some (.tuple [])).bind fun v99 =>
         ((gdv v95 true).bind fun g100 => if g100 = true then (aBin Tryd.prog .geq 2 v99 (.int .i64 0)) else some (.tuple [])).bind fun v101 =>
         ((asB v95).bind fun b102 => if b102 = true then some v101 else some (.bool false)).bind fun v103 =>
         ((gdv v103 true).bind fun g104 => if g104 = true then (ptrAdd (T47 3) 2) else some (.tuple [])).bind fun v105 =>
         ((gdv v103 true).bind fun g106 => if g106 = true then (ldOne v105 H48) else some (.tuple [])).bind fun v107 =>
         ((gdv v103 true).bind fun g108 => if g108 = true then (aBin Tryd.prog .leq 2 v107 (.int .i64 8)) else some (.tuple [])).bind fun v109 =>
         ((asB v103).bind fun b110 => if b110 = true then some v109 else some (.bool false)).bind fun v111 =>
         ((gdv v111 true).bind fun g112 => if g112 = true then (ptrAdd (T47 3) 2) else some (.tuple [])).bind fun v113 =>
         ((gdv v111 true).bind fun g114 => if g114 = true then (ldOne v113 H48) else some (.tuple [])).bind fun v115 =>
         ((gdv v111 true).bind fun g116 => if g116 = true then (some (T47 0)) else some (.tuple [])).bind fun v117 =>
         ((gdv v111 true).bind fun g118 => if g118 = true then (nilC v117) else some (.tuple [])).bind fun v119 =>
         ((gdv v111 true).bind fun g120 => if g120 = true then (ptrAdd v119 0) else some (.tuple [])).bind fun v121 =>
         ((gdv v111 true).bind fun g122 => if g122 = true then (ldOne v121 H48) else some (.tuple [])).bind fun v123 =>
         ((gdv v111 true).bind fun g124 => if g124 = true then (ptrAdd (T47 3) 1) else some (.tuple [])).bind fun v125 =>
         ((gdv v111 true).bind fun g126 => if g126 = true then (ldOne v125 H48) else some (.tuple [])).bind fun v127 =>
         ((gdv v111 true).bind fun g128 => if g128 = true then (idxSl v123 v127 4) else some (.tuple [])).bind fun v129 =>
         ((gdv v111 true).bind fun g130 => if g130 = true then (ptrAdd v129 2) else some (.tuple [])).bind fun v131 =>
         ((gdv v111 true).bind fun g132 => if g132 = true then (ldOne v131 H48) else some (.tuple [])).bind fun v133 =>
         ((gdv v111 true).bind fun g134 => if g134 = true then (aBin Tryd.prog .eql 2 v115 v133) else some (.tuple [])).bind fun v135 =>
         ((asB v111).bind fun b136 => if b136 = true then some v135 else some (.bool false)).bind fun v137 =>
         some (v137, H48))
        else
         ((aBin Tryd.prog .eql 3 (T47 15) (.int .i64 20)).bind fun v138 =>
         (asB v138).bind fun b139 => if b139 = true then
          ((ptrAdd (T47 3) 1).bind fun v140 =>
          (ldOne v140 H48).bind fun v141 =>
          (aBin Tryd.prog .eql 2 v141 (.int .i64 0)).bind fun v142 =>
          ((gdv v142 true).bind fun g143 => if g143 = true then (some (T47 0)) else some (.tuple [])).bind fun v144 =>
          ((gdv v142 true).bind fun g145 => if g145 = true then (nilC v144) else some (.tuple [])).bind fun v146 =>
          ((gdv v142 true).bind fun g147 => if g147 = true then (ptrAdd v146 1) else some (.tuple [])).bind fun v148 =>
          ((gdv v142 true).bind fun g149 => if g149 = true then (ptrAdd v148 3) else some (.tuple [])).bind fun v150 =>
          ((gdv v142 true).bind fun g151 => if g151 = true then (ldOne v150 H48) else some (.tuple [])).bind fun v152 =>
          ((gdv v142 true).bind fun g153 => if g153 = true then (aUn .not v152) else some (.tuple [])).bind fun v154 =>
          ((asB v142).bind fun b155 => if b155 = true then some v154 else some (.bool false)).bind fun v156 =>
          ((gdv v156 false).bind fun g157 => if g157 = true then (ptrAdd (T47 3) 1) else some (.tuple [])).bind fun v158 =>
          ((gdv v156 false).bind fun g159 => if g159 = true then (ldOne v158 H48) else some (.tuple [])).bind fun v160 =>
          ((gdv v156 false).bind fun g161 => if g161 = true then (aBin Tryd.prog .eql 2 v160 (.int .i64 1)) else some (.tuple [])).bind fun v162 =>
          ((gdv v156 false).bind fun g163 => if g163 = true then (some v162) else some (.tuple [])).bind fun v164 =>
          ((gdv v164 true).bind fun g165 => if g165 = true then (some (T47 0)) else some (.tuple [])).bind fun v166 =>
          ((gdv v164 true).bind fun g167 => if g167 = true then (nilC v166) else some (.tuple [])).bind fun v168 =>
          ((gdv v164 true).bind fun g169 => if g169 = true then (ptrAdd v168 1) else some (.tuple [])).bind fun v170 =>
          ((gdv v164 true).bind fun g171 => if g171 = true then (ptrAdd v170 3) else some (.tuple [])).bind fun v172 =>
          ((gdv v164 true).bind fun g173 => if g173 = true then (ldOne v172 H48) else some (.tuple [])).bind fun v174 =>
          ((gdv v156 false).bind fun g176 => if g176 = true then ((asB v164).bind fun b175 => if b175 = true then some v174 else some (.bool false)) else some (.tuple [])).bind fun v177 =>
          ((asB v156).bind fun b178 => if b178 = true then some (.bool true) else some v177).bind fun v179 =>
          some (v179, H48))
         else
          ((aBin Tryd.prog .eql 3 (T47 15) (.int .i64 24)).bind fun v180 =>
          (asB v180).bind fun b181 => if b181 = true then
           ((ptrAdd (T47 3) 1).bind fun v182 =>
           (ldOne v182 H48).bind fun v183 =>
           (aBin Tryd.prog .geq 2 v183 (.int .i64 0)).bind fun v184 =>
           ((gdv v184 true).bind fun g185 => if g185 = true then (ptrAdd (T47 3) 2) else some (.tuple [])).bind fun v186 =>
           ((gdv v184 true).bind fun g187 => if g187 = true then (ldOne v186 H48) else some (.tuple [])).bind fun v188 =>
           ((gdv v184 true).bind fun g189 => if g189 = true then (aBin Tryd.prog .geq 2 v188 (.int .i64 1)) else some (.tuple [])).bind fun v190 =>
           ((asB v184).bind fun b191 => if b191 = true then some v190 else some (.bool false)).bind fun v192 =>
           ((gdv v192 true).bind fun g193 => if g193 = true then (ptrAdd (T47 3) 2) else some (.tuple [])).bind fun v194 =>
           ((gdv v192 true).bind fun g195 => if g195 = true then (ldOne v194 H48) else some (.tuple [])).bind fun v196 =>
           ((gdv v192 true).bind fun g197 => if g197 = true then (aBin Tryd.prog .leq 2 v196 (.int .i64 3)) else some (.tuple [])).bind fun v198 =>
           ((asB v192).bind fun b199 => if b199 = true then some v198 else some (.bool false)).bind fun v200 =>
           some (v200, H48))
          else
           (some ((.bool true), H48)))))
noncomputable def F94_J1 (call : CallF) (it : ItF) (T24 : Tm) (H25 : AH) : Option (AV × AH) :=
 (asB (T24 23)).bind fun b26 => if b26 = true then
      ((ptrAdd (T24 3) 2).bind fun v27 =>
      (ldOne v27 H25).bind fun v28 =>
      (aBin Tryd.prog .leq 2 v28 (.int .i64 64)).bind fun v29 =>
      ((gdv v29 true).bind fun g30 => if g30 = true then (some (T24 0)) else some (.tuple [])).bind fun v31 =>
      ((gdv v29 true).bind fun g32 => if g32 = true then (ptrAdd (T24 3) 1) else some (.tuple [])).bind fun v33 =>
      ((gdv v29 true).bind fun g34 => if g34 = true then (ldOne v33 H25) else some (.tuple [])).bind fun v35 =>
      ((gdv v29 true).bind fun g36 => if g36 = true then (ptrAdd (T24 3) 2) else some (.tuple [])).bind fun v37 =>
      ((gdv v29 true).bind fun g38 => if g38 = true then (ldOne v37 H25) else some (.tuple [])).bind fun v39 =>
      ((gdv v29 true).bind fun g40 => if g40 = true then (call 116 [v31, v35, v39] H25) else some (.tuple [], H25)).bind fun r41 =>
      ((asB v29).bind fun b42 => if b42 = true then some r41.1 else some (.bool false)).bind fun v43 =>
      some (v43, r41.2))
     else
      (jn (
       (aBin Tryd.prog .eql 3 (T24 15) (.int .i64 17)).bind fun v44 =>
       (asB v44).bind fun b45 => if b45 = true then
        (some (.inl ((updL T24 [(39, v44), (38, v44)]), H25)))
       else
        ((aBin Tryd.prog .eql 3 (T24 15) (.int .i64 18)).bind fun v46 =>
        some (.inl ((updL T24 [(39, v44), (38, v44), (40, v46), (38, v46)]), H25))))
      (F94_J0 call it))
noncomputable def F94_J2 (call : CallF) (it : ItF) (T13 : Tm) (H14 : AH) : Option (AV × AH) :=
 (asB (T13 16)).bind fun b15 => if b15 = true then
    ((ptrAdd (T13 3) 1).bind fun v16 =>
    (ldOne v16 H14).bind fun v17 =>
    (call 116 [(T13 0), v17, (.int .i64 1)] H14).bind fun r18 =>
    some (r18.1, r18.2))
   else
    (jn (
     (aBin Tryd.prog .eql 3 (T13 15) (.int .i64 4)).bind fun v19 =>
     (asB v19).bind fun b20 => if b20 = true then
      (some (.inl ((updL T13 [(24, v19), (23, v19)]), H14)))
     else
      ((aBin Tryd.prog .eql 3 (T13 15) (.int .i64 5)).bind fun v21 =>
      (asB v21).bind fun b22 => if b22 = true then
       (some (.inl ((updL T13 [(24, v19), (23, v19), (25, v21), (23, v21)]), H14)))
      else
       ((aBin Tryd.prog .eql 3 (T13 15) (.int .i64 6)).bind fun v23 =>
       some (.inl ((updL T13 [(24, v19), (23, v19), (25, v21), (23, v21), (26, v23), (23, v23)]), H14)))))
    (F94_J1 call it))
noncomputable def F94 (call : CallF) (it : ItF) (x0 : AV) (x1 : AV) (H : AH) : Option (AV × AH) :=
 (nBox 29 x1).bind fun nb1 =>
 (ldAgg (nb1.val H.next) 3 (H.new nb1.cells nb1.elem)).bind fun v2 =>
 (call 23 [v2] (H.new nb1.cells nb1.elem)).bind fun r3 =>
 (aExtract r3.1 0).bind fun v4 =>
 (aExtract r3.1 1).bind fun v5 =>
 (aBin Tryd.prog .neq 30 v5 (.int .i64 0)).bind fun v6 =>
 (asB v6).bind fun b7 => if b7 = true then
  (some ((.bool false), r3.2))
 else
  ((ptrAdd (nb1.val H.next) 0).bind fun v8 =>
  (ldOne v8 r3.2).bind fun v9 =>
  jn (
   (aBin Tryd.prog .eql 3 v9 (.int .i64 2)).bind fun v10 =>
   (asB v10).bind fun b11 => if b11 = true then
    (some (.inl ((updL (T0 [x0, x1]) [(3, (nb1.val H.next)), (4, (.bool false)), (8, v2), (9, r3.1), (7, r3.1), (10, v4), (11, v5), (5, v4), (6, v5), (12, v5), (13, v6), (14, v8), (15, v9), (17, v10), (16, v10)]), r3.2)))
   else
    ((aBin Tryd.prog .eql 3 v9 (.int .i64 3)).bind fun v12 =>
    some (.inl ((updL (T0 [x0, x1]) [(3, (nb1.val H.next)), (4, (.bool false)), (8, v2), (9, r3.1), (7, r3.1), (10, v4), (11, v5), (5, v4), (6, v5), (12, v5), (13, v6), (14, v8), (15, v9), (17, v10), (16, v10), (18, v12), (16, v12)]), r3.2))))
  (F94_J2 call it))
theorem F94_eq (call : CallF) (it : ItF) (x0 : AV) (x1 : AV) (H : AH) : aFun Tryd.prog (drawA Tryd.prog) call it 94 [x0, x1] H = F94 call it x0 x1 H :=
  (aFun_eq Tryd.func94 rfl (by kernel_rfl) _ H (Nat.le_of_ble_eq_true (by kernel_rfl))).trans (by kernel_rfl)

end Go.Proofs.YthiflgncldmkjaaDoor
/- Functions of the program as plain Lean functions over abstract values, each tied to the interpreter by the kernel. Written by a program of ours (shal.py). -/
set_option linter.unusedVariables false
set_option maxRecDepth 100000
namespace Go.Proofs.YthiflgncldmkjaaDoor
open Go.Ri

noncomputable def F115 (call : CallF) (it : ItF) (x0 : AV) (H : AH) : Option (AV × AH) :=
 (call 131 [(.int .i64 0), x0] H).bind fun r1 =>
 some (r1.1, r1.2)
theorem F115_eq (call : CallF) (it : ItF) (x0 : AV) (H : AH) : aFun Tryd.prog (drawA Tryd.prog) call it 115 [x0] H = F115 call it x0 H :=
  (aFun_eq Tryd.func115 rfl (by kernel_rfl) _ H (Nat.le_of_ble_eq_true (by kernel_rfl))).trans (by kernel_rfl)

noncomputable def F116 (call : CallF) (it : ItF) (x0 : AV) (x1 : AV) (x2 : AV) (H : AH) : Option (AV × AH) :=
 (aBin Tryd.prog .geq 2 x1 (.int .i64 0)).bind fun v1 =>
 ((gdv v1 true).bind fun g2 => if g2 = true then (some x2) else some (.tuple [])).bind fun v3 =>
 ((gdv v1 true).bind fun g4 => if g4 = true then (aBin Tryd.prog .geq 2 v3 (.int .i64 1)) else some (.tuple [])).bind fun v5 =>
 ((asB v1).bind fun b6 => if b6 = true then some v5 else some (.bool false)).bind fun v7 =>
 ((gdv v7 true).bind fun g8 => if g8 = true then (some x1) else some (.tuple [])).bind fun v9 =>
 ((gdv v7 true).bind fun g10 => if g10 = true then (some x0) else some (.tuple [])).bind fun v11 =>
 ((gdv v7 true).bind fun g12 => if g12 = true then (nilC v11) else some (.tuple [])).bind fun v13 =>
 ((gdv v7 true).bind fun g14 => if g14 = true then (ptrAdd v13 1) else some (.tuple [])).bind fun v15 =>
 ((gdv v7 true).bind fun g16 => if g16 = true then (ptrAdd v15 1) else some (.tuple [])).bind fun v17 =>
 ((gdv v7 true).bind fun g18 => if g18 = true then (ldOne v17 H) else some (.tuple [])).bind fun v19 =>
 ((gdv v7 true).bind fun g20 => if g20 = true then (aBin Tryd.prog .leq 2 v9 v19) else some (.tuple [])).bind fun v21 =>
 ((asB v7).bind fun b22 => if b22 = true then some v21 else some (.bool false)).bind fun v23 =>
 ((gdv v23 true).bind fun g24 => if g24 = true then (some x2) else some (.tuple [])).bind fun v25 =>
 ((gdv v23 true).bind fun g26 => if g26 = true then (some x0) else some (.tuple [])).bind fun v27 =>
 ((gdv v23 true).bind fun g28 => if g28 = true then (nilC v27) else some (.tuple [])).bind fun v29 =>
 ((gdv v23 true).bind fun g30 => if g30 = true then (ptrAdd v29 1) else some (.tuple [])).bind fun v31 =>
 ((gdv v23 true).bind fun g32 => if g32 = true then (ptrAdd v31 1) else some (.tuple [])).bind fun v33 =>
 ((gdv v23 true).bind fun g34 => if g34 = true then (ldOne v33 H) else some (.tuple [])).bind fun v35 =>
 ((gdv v23 true).bind fun g36 => if g36 = true then (some x1) else some (.tuple [])).bind fun v37 =>
 ((gdv v23 true).bind fun g38 => if g38 = true then (aBin Tryd.prog .sub 2 v35 v37) else some (.tuple [])).bind fun v39 =>
 ((gdv v23 true).bind fun g40 => if g40 = true then (aBin Tryd.prog .leq 2 v25 v39) else some (.tuple [])).bind fun v41 =>
 ((asB v23).bind fun b42 => if b42 = true then some v41 else some (.bool false)).bind fun v43 =>
 some (v43, H)
theorem F116_eq (call : CallF) (it : ItF) (x0 : AV) (x1 : AV) (x2 : AV) (H : AH) : aFun Tryd.prog (drawA Tryd.prog) call it 116 [x0, x1, x2] H = F116 call it x0 x1 x2 H :=
  (aFun_eq Tryd.func116 rfl (by kernel_rfl) _ H (Nat.le_of_ble_eq_true (by kernel_rfl))).trans (by kernel_rfl)

noncomputable def F117 (call : CallF) (it : ItF) (x0 : AV) (x1 : AV) (H : AH) : Option (AV × AH) :=
 (nBox 29 x1).bind fun nb1 =>
 (ptrAdd (nb1.val H.next) 0).bind fun v2 =>
 (ldOne v2 (H.new nb1.cells nb1.elem)).bind fun v3 =>
 (aBin Tryd.prog .eql 3 v3 (.int .i64 19)).bind fun v4 =>
 (asB v4).bind fun b5 => if b5 = true then
  ((nilC x0).bind fun v6 =>
  (ptrAdd v6 0).bind fun v7 =>
  (ldOne v7 (H.new nb1.cells nb1.elem)).bind fun v8 =>
  (ptrAdd (nb1.val H.next) 1).bind fun v9 =>
  (ldOne v9 (H.new nb1.cells nb1.elem)).bind fun v10 =>
  (idxSl v8 v10 4).bind fun v11 =>
  (ptrAdd v11 3).bind fun v12 =>
  (ldOne v12 (H.new nb1.cells nb1.elem)).bind fun v13 =>
  (asB v13).bind fun b14 => if b14 = true then
   ((ptrAdd (nb1.val H.next) 2).bind fun v15 =>
   (ldOne v15 (H.new nb1.cells nb1.elem)).bind fun v16 =>
   some ((.tuple [v16, (.int .i64 1)]), (H.new nb1.cells nb1.elem)))
  else
   ((ptrAdd (nb1.val H.next) 2).bind fun v17 =>
   (ldOne v17 (H.new nb1.cells nb1.elem)).bind fun v18 =>
   some ((.tuple [v18, (.int .i64 0)]), (H.new nb1.cells nb1.elem))))
 else
  ((aBin Tryd.prog .eql 3 v3 (.int .i64 20)).bind fun v19 =>
  (asB v19).bind fun b20 => if b20 = true then
   ((ptrAdd (nb1.val H.next) 1).bind fun v21 =>
   (ldOne v21 (H.new nb1.cells nb1.elem)).bind fun v22 =>
   some ((.tuple [v22, (.int .i64 0)]), (H.new nb1.cells nb1.elem)))
  else
   ((ptrAdd (nb1.val H.next) 0).bind fun v23 =>
   (ldOne v23 (H.new nb1.cells nb1.elem)).bind fun v24 =>
   (aBin Tryd.prog .lss 3 v24 (.int .i64 26)).bind fun v25 =>
   (asB v25).bind fun b26 => if b26 = true then
    ((ptrAdd (nb1.val H.next) 0).bind fun v27 =>
    (ldOne v27 (H.new nb1.cells nb1.elem)).bind fun v28 =>
    (idxPtr (.ptr (some (1, 0))) v28 26 2).bind fun v29 =>
    (idxPtr v29 (.int .i64 0) 2 1).bind fun v30 =>
    (ldOne v30 (H.new nb1.cells nb1.elem)).bind fun v31 =>
    (ptrAdd (nb1.val H.next) 0).bind fun v32 =>
    (ldOne v32 (H.new nb1.cells nb1.elem)).bind fun v33 =>
    (idxPtr (.ptr (some (1, 0))) v33 26 2).bind fun v34 =>
    (idxPtr v34 (.int .i64 1) 2 1).bind fun v35 =>
    (ldOne v35 (H.new nb1.cells nb1.elem)).bind fun v36 =>
    some ((.tuple [v31, v36]), (H.new nb1.cells nb1.elem)))
   else
    (some ((.tuple [(.int .i64 0), (.int .i64 0)]), (H.new nb1.cells nb1.elem)))))
theorem F117_eq (call : CallF) (it : ItF) (x0 : AV) (x1 : AV) (H : AH) : aFun Tryd.prog (drawA Tryd.prog) call it 117 [x0, x1] H = F117 call it x0 x1 H :=
  (aFun_eq Tryd.func117 rfl (by kernel_rfl) _ H (Nat.le_of_ble_eq_true (by kernel_rfl))).trans (by kernel_rfl)

noncomputable def F118 (call : CallF) (it : ItF) (x0 : AV) (x1 : AV) (H : AH) : Option (AV × AH) :=
 (nBox 29 x0).bind fun nb1 =>
 (ptrAdd (nb1.val H.next) 0).bind fun v2 =>
 (ldOne v2 (H.new nb1.cells nb1.elem)).bind fun v3 =>
 (aBin Tryd.prog .eql 3 v3 (.int .i64 17)).bind fun v4 =>
 (asB v4).bind fun b5 => if b5 = true then
  ((ptrAdd (nb1.val H.next) 1).bind fun v6 =>
  (ldOne v6 (H.new nb1.cells nb1.elem)).bind fun v7 =>
  (nBuildSlice Tryd.prog 40 1 [(0, v7)]).bind fun nb8 =>
  some ((nb8.val (H.new nb1.cells nb1.elem).next), ((H.new nb1.cells nb1.elem).new nb8.cells nb8.elem)))
 else
  ((aBin Tryd.prog .eql 3 v3 (.int .i64 18)).bind fun v9 =>
  (asB v9).bind fun b10 => if b10 = true then
   ((aBin Tryd.prog .add 3 x1 (.int .i64 1)).bind fun v11 =>
   (ptrAdd (nb1.val H.next) 1).bind fun v12 =>
   (ldOne v12 (H.new nb1.cells nb1.elem)).bind fun v13 =>
   (nBuildSlice Tryd.prog 40 2 [(0, v11), (1, v13)]).bind fun nb14 =>
   some ((nb14.val (H.new nb1.cells nb1.elem).next), ((H.new nb1.cells nb1.elem).new nb14.cells nb14.elem)))
  else
   ((aBin Tryd.prog .eql 3 v3 (.int .i64 20)).bind fun v15 =>
   (asB v15).bind fun b16 => if b16 = true then
    (some ((.slice none 0 (.kn 0)), (H.new nb1.cells nb1.elem)))
   else
    ((aBin Tryd.prog .add 3 x1 (.int .i64 1)).bind fun v17 =>
    (nBuildSlice Tryd.prog 40 1 [(0, v17)]).bind fun nb18 =>
    some ((nb18.val (H.new nb1.cells nb1.elem).next), ((H.new nb1.cells nb1.elem).new nb18.cells nb18.elem)))))
theorem F118_eq (call : CallF) (it : ItF) (x0 : AV) (x1 : AV) (H : AH) : aFun Tryd.prog (drawA Tryd.prog) call it 118 [x0, x1] H = F118 call it x0 x1 H :=
  (aFun_eq Tryd.func118 rfl (by kernel_rfl) _ H (Nat.le_of_ble_eq_true (by kernel_rfl))).trans (by kernel_rfl)

noncomputable def F131 (call : CallF) (it : ItF) (x0 : AV) (x1 : AV) (H : AH) : Option (AV × AH) :=
 (call 139 [x0] H).bind fun r1 =>
 (call 139 [x1] r1.2).bind fun r2 =>
 (call 140 [r2.1] r2.2).bind fun r3 =>
 (call 138 [r1.1, r3.1, (.int .i64 1)] r3.2).bind fun r4 =>
 (call 137 [r4.1] r4.2).bind fun r5 =>
 some (r5.1, r5.2)
theorem F131_eq (call : CallF) (it : ItF) (x0 : AV) (x1 : AV) (H : AH) : aFun Tryd.prog (drawA Tryd.prog) call it 131 [x0, x1] H = F131 call it x0 x1 H :=
  (aFun_eq Tryd.func131 rfl (by kernel_rfl) _ H (Nat.le_of_ble_eq_true (by kernel_rfl))).trans (by kernel_rfl)

end Go.Proofs.YthiflgncldmkjaaDoor
/- Functions of the program as plain Lean functions over abstract values, each tied to the interpreter by the kernel. Written by a program of ours (shal.py). -/
set_option linter.unusedVariables false
set_option maxRecDepth 100000
namespace Go.Proofs.YthiflgncldmkjaaDoor
open Go.Ri

noncomputable def F137 (call : CallF) (it : ItF) (x0 : AV) (H : AH) : Option (AV × AH) :=
 (it (fun s1 =>
  (aBin Tryd.prog .geq 3 (s1.1 4) (.int .i64 0)).bind fun v4 =>
  (asB v4).bind fun b5 => if b5 = true then
   ((aBin Tryd.prog .mul 131 (s1.1 3) (.int .u64 2)).bind fun v6 =>
   (idxSl (s1.1 0) (s1.1 4) 1).bind fun v7 =>
   (ldOne v7 s1.2).bind fun v8 =>
   (cvInt .u64 v8).bind fun v9 =>
   (aBin Tryd.prog .add 131 v6 v9).bind fun v10 =>
   (aBin Tryd.prog .sub 3 (s1.1 4) (.int .i64 1)).bind fun v11 =>
   some (.normal, (updL s1.1 [(5, (s1.1 4)), (6, v4), (9, (s1.1 3)), (10, v6), (11, (s1.1 0)), (12, (s1.1 4)), (13, v7), (14, v8), (15, v9), (16, v10), (3, v10), (7, (s1.1 4)), (8, v11), (4, v11)]), s1.2))
  else
   (some (.exit 0, (updL s1.1 [(5, (s1.1 4)), (6, v4)]), s1.2))) ((updL (T0 [x0]) [(2, (.int .i64 0)), (3, (.int .u64 0)), (4, (.int .i64 63))]), H)).bind fun r2 => match r2.1 with
  | .normal => none
  | .exit j3 => if j3 = 0 then
  ((cvInt .i64 (r2.2.1 3)).bind fun v12 =>
  some (v12, r2.2.2))
  else
  (none)
  | .ret => some ((r2.2.1 2), r2.2.2)
theorem F137_eq (call : CallF) (it : ItF) (x0 : AV) (H : AH) : aFun Tryd.prog (drawA Tryd.prog) call it 137 [x0] H = F137 call it x0 H :=
  (aFun_eq Tryd.func137 rfl (by kernel_rfl) _ H (Nat.le_of_ble_eq_true (by kernel_rfl))).trans (by kernel_rfl)

noncomputable def F138 (call : CallF) (it : ItF) (x0 : AV) (x1 : AV) (x2 : AV) (H : AH) : Option (AV × AH) :=
 (it (fun s1 =>
  (aBin Tryd.prog .lss 3 (s1.1 8) (.int .i64 64)).bind fun v4 =>
  (asB v4).bind fun b5 => if b5 = true then
   ((idxSl (s1.1 0) (s1.1 8) 1).bind fun v6 =>
   (ldOne v6 s1.2).bind fun v7 =>
   (idxSl (s1.1 1) (s1.1 8) 1).bind fun v8 =>
   (ldOne v8 s1.2).bind fun v9 =>
   (aBin Tryd.prog .add 3 v7 v9).bind fun v10 =>
   (aBin Tryd.prog .add 3 v10 (s1.1 2)).bind fun v11 =>
   (aBin Tryd.prog .rem 3 v11 (.int .i64 2)).bind fun v12 =>
   (nBuildSlice Tryd.prog 40 1 [(0, v12)]).bind fun nb13 =>
   (aAppend Tryd.prog 40 40 (s1.1 7) (nb13.val s1.2.next) (s1.2.new nb13.cells nb13.elem)).bind fun r14 =>
   (aBin Tryd.prog .quo 3 v11 (.int .i64 2)).bind fun v15 =>
   (aBin Tryd.prog .add 3 (s1.1 8) (.int .i64 1)).bind fun v16 =>
   some (.normal, (updL s1.1 [(10, (s1.1 8)), (11, v4), (14, (s1.1 0)), (15, (s1.1 8)), (16, v6), (17, v7), (18, (s1.1 1)), (19, (s1.1 8)), (20, v8), (21, v9), (22, v10), (23, (s1.1 2)), (24, v11), (9, v11), (25, (s1.1 7)), (26, v11), (27, v12), (28, (nb13.val s1.2.next)), (29, r14.1), (7, r14.1), (30, v11), (31, v15), (2, v15), (12, (s1.1 8)), (13, v16), (8, v16)]), r14.2))
  else
   (some (.exit 0, (updL s1.1 [(10, (s1.1 8)), (11, v4)]), s1.2))) ((updL (T0 [x0, x1, x2]) [(6, (.slice none 0 (.kn 0))), (7, (.slice none 0 (.kn 0))), (8, (.int .i64 0))]), H)).bind fun r2 => match r2.1 with
  | .normal => none
  | .exit j3 => if j3 = 0 then
  (some ((r2.2.1 7), r2.2.2))
  else
  (none)
  | .ret => some ((r2.2.1 6), r2.2.2)
theorem F138_eq (call : CallF) (it : ItF) (x0 : AV) (x1 : AV) (x2 : AV) (H : AH) : aFun Tryd.prog (drawA Tryd.prog) call it 138 [x0, x1, x2] H = F138 call it x0 x1 x2 H :=
  (aFun_eq Tryd.func138 rfl (by kernel_rfl) _ H (Nat.le_of_ble_eq_true (by kernel_rfl))).trans (by kernel_rfl)

noncomputable def F139 (call : CallF) (it : ItF) (x0 : AV) (H : AH) : Option (AV × AH) :=
 (it (fun s1 =>
  (aBin Tryd.prog .lss 3 (s1.1 4) (.int .i64 64)).bind fun v4 =>
  (asB v4).bind fun b5 => if b5 = true then
   ((cvInt .u64 (s1.1 0)).bind fun v6 =>
   (cvInt .u64 (s1.1 4)).bind fun v7 =>
   (aBin Tryd.prog .shr 131 v6 v7).bind fun v8 =>
   (aBin Tryd.prog .rem 131 v8 (.int .u64 2)).bind fun v9 =>
   (cvInt .i64 v9).bind fun v10 =>
   (nBuildSlice Tryd.prog 40 1 [(0, v10)]).bind fun nb11 =>
   (aAppend Tryd.prog 40 40 (s1.1 3) (nb11.val s1.2.next) (s1.2.new nb11.cells nb11.elem)).bind fun r12 =>
   (aBin Tryd.prog .add 3 (s1.1 4) (.int .i64 1)).bind fun v13 =>
   some (.normal, (updL s1.1 [(5, (s1.1 4)), (6, v4), (9, (s1.1 3)), (10, (s1.1 0)), (11, v6), (12, (s1.1 4)), (13, v7), (14, v8), (15, v9), (16, v10), (17, (nb11.val s1.2.next)), (18, r12.1), (3, r12.1), (7, (s1.1 4)), (8, v13), (4, v13)]), r12.2))
  else
   (some (.exit 0, (updL s1.1 [(5, (s1.1 4)), (6, v4)]), s1.2))) ((updL (T0 [x0]) [(2, (.slice none 0 (.kn 0))), (3, (.slice none 0 (.kn 0))), (4, (.int .i64 0))]), H)).bind fun r2 => match r2.1 with
  | .normal => none
  | .exit j3 => if j3 = 0 then
  (some ((r2.2.1 3), r2.2.2))
  else
  (none)
  | .ret => some ((r2.2.1 2), r2.2.2)
theorem F139_eq (call : CallF) (it : ItF) (x0 : AV) (H : AH) : aFun Tryd.prog (drawA Tryd.prog) call it 139 [x0] H = F139 call it x0 H :=
  (aFun_eq Tryd.func139 rfl (by kernel_rfl) _ H (Nat.le_of_ble_eq_true (by kernel_rfl))).trans (by kernel_rfl)

noncomputable def F140 (call : CallF) (it : ItF) (x0 : AV) (H : AH) : Option (AV × AH) :=
 (it (fun s1 =>
  (aLen Tryd.prog 40 (s1.1 0)).bind fun v4 =>
  (aBin Tryd.prog .lss 3 (s1.1 4) v4).bind fun v5 =>
  (asB v5).bind fun b6 => if b6 = true then
   ((idxSl (s1.1 0) (s1.1 4) 1).bind fun v7 =>
   (ldOne v7 s1.2).bind fun v8 =>
   (aBin Tryd.prog .sub 3 (.int .i64 1) v8).bind fun v9 =>
   (nBuildSlice Tryd.prog 40 1 [(0, v9)]).bind fun nb10 =>
   (aAppend Tryd.prog 40 40 (s1.1 3) (nb10.val s1.2.next) (s1.2.new nb10.cells nb10.elem)).bind fun r11 =>
   (aBin Tryd.prog .add 3 (s1.1 4) (.int .i64 1)).bind fun v12 =>
   some (.normal, (updL s1.1 [(5, (s1.1 4)), (6, (s1.1 0)), (7, v4), (8, v5), (11, (s1.1 3)), (12, (s1.1 0)), (13, (s1.1 4)), (14, v7), (15, v8), (16, v9), (17, (nb10.val s1.2.next)), (18, r11.1), (3, r11.1), (9, (s1.1 4)), (10, v12), (4, v12)]), r11.2))
  else
   (some (.exit 0, (updL s1.1 [(5, (s1.1 4)), (6, (s1.1 0)), (7, v4), (8, v5)]), s1.2))) ((updL (T0 [x0]) [(2, (.slice none 0 (.kn 0))), (3, (.slice none 0 (.kn 0))), (4, (.int .i64 0))]), H)).bind fun r2 => match r2.1 with
  | .normal => none
  | .exit j3 => if j3 = 0 then
  (some ((r2.2.1 3), r2.2.2))
  else
  (none)
  | .ret => some ((r2.2.1 2), r2.2.2)
theorem F140_eq (call : CallF) (it : ItF) (x0 : AV) (H : AH) : aFun Tryd.prog (drawA Tryd.prog) call it 140 [x0] H = F140 call it x0 H :=
  (aFun_eq Tryd.func140 rfl (by kernel_rfl) _ H (Nat.le_of_ble_eq_true (by kernel_rfl))).trans (by kernel_rfl)

end Go.Proofs.YthiflgncldmkjaaDoor
/- All printed functions. -/
/- The document's row of an operation. Written by a program of ours (m92.py). -/
set_option linter.unusedVariables false
set_option maxRecDepth 100000
namespace Go.Proofs.YthiflgncldmkjaaDoor
open Go.Ri
def rows92 : List AV := [.str ⟨#[]⟩, .int .i64 0, .int .i64 0, .int .i64 0, .str ⟨#[112, 117, 115, 104]⟩, .int .i64 1, .int .i64 0, .int .i64 1, .str ⟨#[108, 111, 97, 100]⟩, .int .i64 1, .int .i64 0, .int .i64 1, .str ⟨#[115, 116, 111, 114, 101]⟩, .int .i64 1, .int .i64 1, .int .i64 0, .str ⟨#[105, 110, 100, 101, 120]⟩, .int .i64 2, .int .i64 1, .int .i64 1, .str ⟨#[112, 117, 116]⟩, .int .i64 2, .int .i64 2, .int .i64 0, .str ⟨#[99, 108, 101, 97, 114]⟩, .int .i64 2, .int .i64 0, .int .i64 0, .str ⟨#[97, 100, 100]⟩, .int .i64 0, .int .i64 2, .int .i64 1, .str ⟨#[115, 117, 98]⟩, .int .i64 0, .int .i64 2, .int .i64 1, .str ⟨#[109, 117, 108]⟩, .int .i64 0, .int .i64 2, .int .i64 1, .str ⟨#[100, 105, 118]⟩, .int .i64 0, .int .i64 2, .int .i64 1, .str ⟨#[109, 111, 100]⟩, .int .i64 0, .int .i64 2, .int .i64 1, .str ⟨#[108, 101, 115, 115]⟩, .int .i64 0, .int .i64 2, .int .i64 1, .str ⟨#[109, 111, 115, 116]⟩, .int .i64 0, .int .i64 2, .int .i64 1, .str ⟨#[115, 97, 109, 101]⟩, .int .i64 0, .int .i64 2, .int .i64 1, .str ⟨#[110, 111, 116]⟩, .int .i64 0, .int .i64 1, .int .i64 1, .str ⟨#[110, 101, 103]⟩, .int .i64 0, .int .i64 1, .int .i64 1, .str ⟨#[106, 117, 109, 112]⟩, .int .i64 1, .int .i64 0, .int .i64 0, .str ⟨#[122, 101, 114, 111]⟩, .int .i64 1, .int .i64 1, .int .i64 0, .str ⟨#[99, 97, 108, 108]⟩, .int .i64 2, .int .i64 0, .int .i64 0, .str ⟨#[108, 101, 97, 118, 101]⟩, .int .i64 1, .int .i64 0, .int .i64 0, .str ⟨#[112, 114, 105, 110, 116]⟩, .int .i64 0, .int .i64 1, .int .i64 0, .str ⟨#[114, 101, 97, 100]⟩, .int .i64 0, .int .i64 0, .int .i64 1, .str ⟨#[116, 101, 115, 116]⟩, .int .i64 0, .int .i64 1, .int .i64 0, .str ⟨#[109, 97, 114, 107]⟩, .int .i64 2, .int .i64 0, .int .i64 0, .str ⟨#[100, 114, 111, 112]⟩, .int .i64 0, .int .i64 1, .int .i64 0]
noncomputable def F92t (nb1 nb28 : NB) (call : CallF) (it : ItF) (x0 : AV) (H : AH) : Option (AV × AH) :=
 (aBin Tryd.prog .lss 3 x0 (.int .i64 1)).bind fun v29 =>
 ((gdv v29 false).bind fun g30 => if g30 = true then (some x0) else some (.tuple [])).bind fun v31 =>
 ((gdv v29 false).bind fun g32 => if g32 = true then (some (nb28.val (H.new nb1.cells nb1.elem).next)) else some (.tuple [])).bind fun v33 =>
 ((gdv v29 false).bind fun g34 => if g34 = true then (aLen Tryd.prog 162 v33) else some (.tuple [])).bind fun v35 =>
 ((gdv v29 false).bind fun g36 => if g36 = true then (aBin Tryd.prog .geq 3 v31 v35) else some (.tuple [])).bind fun v37 =>
 ((asB v29).bind fun b38 => if b38 = true then some (.bool true) else some v37).bind fun v39 =>
 (asB v39).bind fun b40 => if b40 = true then
  ((aBuild Tryd.prog 133 []).bind fun v41 =>
  ((aStore Tryd.prog 133 (nb1.val H.next) v41 ((H.new nb1.cells nb1.elem).new nb28.cells nb28.elem)).map fun H' => ((.tuple [] : AV), H')).bind fun r42 =>
  (((ldAgg (nb1.val H.next) 4 r42.2).bind fun v43 => some (v43 :: [])).map oneOf).map fun v => (v, r42.2))
 else
  ((idxSl (nb28.val (H.new nb1.cells nb1.elem).next) x0 4).bind fun v44 =>
  (ldAgg v44 4 ((H.new nb1.cells nb1.elem).new nb28.cells nb28.elem)).bind fun v45 =>
  ((aStore Tryd.prog 133 (nb1.val H.next) v45 ((H.new nb1.cells nb1.elem).new nb28.cells nb28.elem)).map fun H' => ((.tuple [] : AV), H')).bind fun r46 =>
  (((ldAgg (nb1.val H.next) 4 r46.2).bind fun v47 => some (v47 :: [])).map oneOf).map fun v => (v, r46.2))
noncomputable def F92 (call : CallF) (it : ItF) (x0 : AV) (H : AH) : Option (AV × AH) := F92t ⟨[.str ⟨#[]⟩, .int .i64 0, .int .i64 0, .int .i64 0], 133, ptrTo⟩ ⟨rows92, 133, slTo 26 26⟩ call it x0 H
theorem F92_eq (call : CallF) (it : ItF) (x0 : AV) (H : AH) : aFun Tryd.prog (drawA Tryd.prog) call it 92 [x0] H = F92 call it x0 H :=
  (aFun_eq Tryd.func92 rfl (by kernel_rfl) _ H (Nat.le_of_ble_eq_true (by kernel_rfl))).trans (by kernel_rfl)
end Go.Proofs.YthiflgncldmkjaaDoor
/- Reasoning about the printed functions: loops, slots, numbers, texts. -/
set_option linter.unusedVariables false
set_option linter.unusedSimpArgs false
namespace Go.Ri

def Ret {R : Type} (x : Option R) (Q : R → Prop) : Prop := ∃ r, x = some r ∧ Q r
theorem Ret.mk {R : Type} {r : R} {Q : R → Prop} (h : Q r) : Ret (some r) Q := ⟨r, rfl, h⟩
theorem Ret.bind {A R : Type} {x : Option A} {a : A} {f : A → Option R} {Q : R → Prop} (h : x = some a) (k : Ret (f a) Q) : Ret (x.bind f) Q := by
  subst h; exact k
theorem Ret.then {A R : Type} {x : Option A} {f : A → Option R} {Q : R → Prop} {Q' : A → Prop} (h : Ret x Q') (k : ∀ a, Q' a → Ret (f a) Q) : Ret (x.bind f) Q := by
  obtain ⟨a, rfl, h⟩ := h
  exact k a h
theorem Ret.mono {R : Type} {x : Option R} {Q Q' : R → Prop} (h : Ret x Q) (k : ∀ r, Q r → Q' r) : Ret x Q' := by
  obtain ⟨a, rfl, h⟩ := h
  exact ⟨a, rfl, k a h⟩

/-- A loop: `f` rounds at most are left. -/
theorem Ret.iter {g : St → Option (Ex × St)} (I : Nat → St → Prop) (Q : Ex × St → Prop)
    (hs : ∀ j s, I (j + 1) s → Ret (g s) fun r => (r.1 = .normal ∧ I j r.2) ∨ (r.1 ≠ .normal ∧ Q r)) (h0 : ∀ s, ¬ I 0 s) :
    ∀ (f : Nat) (n : Nat) (s : St), f ≤ n → I f s → Ret (iter n g s) Q
  | 0, n, s, _, h => absurd h (h0 s)
  | f + 1, 0, s, hn, h => by omega
  | f + 1, n + 1, s, hn, h => by
    obtain ⟨⟨e, s'⟩, hg, hr⟩ := hs f s h
    simp only [Ri.iter, hg, Option.bind_some]
    rcases hr with ⟨rfl, hI⟩ | ⟨hne, hQ⟩
    · exact Ret.iter I Q hs h0 f n s' (by omega) hI
    · cases e with
      | normal => exact absurd rfl hne
      | exit id => exact .mk hQ
      | ret => exact .mk hQ

theorem jn_some {R : Type} {x : Option (St ⊕ R)} {s : St} {f : Tm → AH → Option R} (h : x = some (.inl s)) : jn x f = f s.1 s.2 := by subst h; rfl
theorem jn_inl {R : Type} (s : St) (f : Tm → AH → Option R) : jn (some (.inl s)) f = f s.1 s.2 := (rfl)
theorem jn_inr {R : Type} (r : R) (f : Tm → AH → Option R) : jn (some (.inr r)) f = some r := (rfl)

theorem updL_nil (T : Tm) (d : Nat) : updL T [] d = T d := (rfl)
theorem updL_cons (T : Tm) (e : Nat) (v : AV) (l : List (Nat × AV)) : updL T ((e, v) :: l) = updL (upd T e v) l := (rfl)
theorem upd_apply (T : Tm) (e d : Nat) (v : AV) : upd T e v d = if d = e then v else T d := (rfl)

theorem aBin_int (P : Program) (t : TypeId) (op : BinOp) (k : IntKind) (x y : Int) (h1 : op ≠ .shl) (h2 : op ≠ .shr) : aBin P op t (.int k x) (.int k y) = aBinI op k x y := by
  cases op <;> first
    | exact absurd rfl h1
    | exact absurd rfl h2
    | simp [aBin]
theorem aBin_add (P : Program) (t k x y) : aBin P .add t (.int k x) (.int k y) = some (.int k (k.wrap (x + y))) := by rw [aBin_int _ _ _ _ _ _ (by simp) (by simp)]; rfl
theorem aBin_sub (P : Program) (t k x y) : aBin P .sub t (.int k x) (.int k y) = some (.int k (k.wrap (x - y))) := by rw [aBin_int _ _ _ _ _ _ (by simp) (by simp)]; rfl
theorem aBin_mul (P : Program) (t k x y) : aBin P .mul t (.int k x) (.int k y) = some (.int k (k.wrap (x * y))) := by rw [aBin_int _ _ _ _ _ _ (by simp) (by simp)]; rfl
theorem aBin_lss (P : Program) (t k x y) : aBin P .lss t (.int k x) (.int k y) = some (.bool (decide (x < y))) := by rw [aBin_int _ _ _ _ _ _ (by simp) (by simp)]; rfl
theorem aBin_leq (P : Program) (t k x y) : aBin P .leq t (.int k x) (.int k y) = some (.bool (decide (x ≤ y))) := by rw [aBin_int _ _ _ _ _ _ (by simp) (by simp)]; rfl
theorem aBin_gtr (P : Program) (t k x y) : aBin P .gtr t (.int k x) (.int k y) = some (.bool (decide (x > y))) := by rw [aBin_int _ _ _ _ _ _ (by simp) (by simp)]; rfl
theorem aBin_geq (P : Program) (t k x y) : aBin P .geq t (.int k x) (.int k y) = some (.bool (decide (x ≥ y))) := by rw [aBin_int _ _ _ _ _ _ (by simp) (by simp)]; rfl
theorem aBin_eql (P : Program) (t k x y) : aBin P .eql t (.int k x) (.int k y) = some (.bool (decide (x = y))) := by
  rw [aBin_int _ _ _ _ _ _ (by simp) (by simp)]
  simp only [aBinI]
  congr 2
theorem aBin_neq (P : Program) (t k x y) : aBin P .neq t (.int k x) (.int k y) = some (.bool (!decide (x = y))) := by
  rw [aBin_int _ _ _ _ _ _ (by simp) (by simp)]
  simp only [aBinI]
  congr 2
theorem aBin_rem (P : Program) (t k x y) (h : y ≠ 0) : aBin P .rem t (.int k x) (.int k y) = some (.int k (x.tmod y)) := by rw [aBin_int _ _ _ _ _ _ (by simp) (by simp)]; simp [aBinI, h]
theorem aBin_quo (P : Program) (t k x y) (h : y ≠ 0) : aBin P .quo t (.int k x) (.int k y) = some (.int k (k.wrap (x.tdiv y))) := by rw [aBin_int _ _ _ _ _ _ (by simp) (by simp)]; simp [aBinI, h]
theorem aBin_cat (P : Program) (t) (x y : ByteArray) (h : ((x.size + y.size : Nat) : Int) ≤ 9223372036854775807) : aBin P .add t (.str x) (.str y) = some (.str (x ++ y)) := by
  show aBinS .add x y = _
  unfold aBinS
  rw [if_pos h]
theorem aBin_same (P : Program) (t) (x y : ByteArray) : aBin P .eql t (.str x) (.str y) = some (.bool (x.toList == y.toList)) := (rfl)
theorem cvInt_int (k k' : IntKind) (n : Int) : cvInt k (.int k' n) = some (.int k (k.wrap n)) := (rfl)
theorem asB_bool (b : Bool) : asB (.bool b) = some b := (rfl)
theorem gdv_bool (b w : Bool) : gdv (.bool b) w = some (b == w) := (rfl)

theorem toList_loop (a : ByteArray) : ∀ (n i : Nat) (r : List UInt8), a.size - i = n → ByteArray.toList.loop a i r = r.reverse ++ a.data.toList.drop i
  | 0, i, r, h => by
    rw [ByteArray.toList.loop, if_neg (by omega)]
    rw [List.drop_eq_nil_of_le (by have : a.data.toList.length = a.size := rfl; omega)]
    simp
  | n + 1, i, r, h => by
    rw [ByteArray.toList.loop, if_pos (by omega), toList_loop a n (i + 1) _ (by omega)]
    have hlt : i < a.data.toList.length := by have : a.data.toList.length = a.size := rfl; omega
    rw [List.drop_eq_getElem_cons hlt, List.reverse_cons, List.append_assoc]
    congr 2
    simp only [List.cons_append, List.nil_append, List.cons.injEq, and_true]
    have hs : i < a.data.size := hlt
    simp only [ByteArray.get!]
    rw [getElem!_pos a.data i hs]
    rfl
theorem toList_data (a : ByteArray) : a.toList = a.data.toList := by
  unfold ByteArray.toList
  rw [toList_loop a _ 0 [] rfl]
  simp
theorem toList_inj {a b : ByteArray} (h : a.toList = b.toList) : a = b := by
  rw [toList_data, toList_data] at h
  cases a
  cases b
  congr
  exact Array.toList_inj.1 h
theorem str_append (a b : List Int) : strOfNums a ++ strOfNums b = strOfNums (a ++ b) := by
  apply toList_inj
  rw [toList_data, toList_data, ByteArray.data_append, Array.toList_append]
  simp [strOfNums]
theorem str_nil : (⟨#[]⟩ : ByteArray) = strOfNums [] := (rfl)

/-! ### Numbers in tens -/
def dg : Nat → Nat → List Int → List Int
  | 0, _, acc => acc
  | f + 1, u, acc => if u / 10 = 0 then (48 + u % 10 : Nat) :: acc else dg f (u / 10) ((48 + u % 10 : Nat) :: acc)
def txt (n : Int) : List Int := if n < 0 then 45 :: dg 19 n.natAbs [] else dg 19 n.natAbs []
theorem dg_length : ∀ (f u : Nat) (acc : List Int), (dg f u acc).length ≤ f + acc.length
  | 0, u, acc => by simp [dg]
  | f + 1, u, acc => by
    rw [dg]
    split
    · simp; omega
    · have := dg_length f (u / 10) ((48 + u % 10 : Nat) :: acc)
      simp at this ⊢
      omega
theorem txt_length (n : Int) : (txt n).length ≤ 20 := by
  have := dg_length 19 n.natAbs []
  unfold txt
  split <;> simp at this ⊢ <;> omega
def InI (n : Int) : Prop := -9223372036854775808 ≤ n ∧ n < 9223372036854775808
theorem wrap_id {n : Int} (h : InI n) : IntKind.i64.wrap n = n := by
  unfold InI at h
  simp [IntKind.wrap, IntKind.bits, IntKind.signed]
  omega
theorem wrap_u {n : Int} (h : 0 ≤ n) (h' : n < 18446744073709551616) : IntKind.u64.wrap n = n := by
  simp [IntKind.wrap, IntKind.bits, IntKind.signed]
  omega
theorem wrap_u8 {n : Int} (h : 0 ≤ n) (h' : n < 256) : IntKind.u8.wrap n = n := by
  simp [IntKind.wrap, IntKind.bits, IntKind.signed]
  omega
end Go.Ri
/- num.Text writes a number in tens. -/
set_option linter.unusedVariables false
set_option linter.unusedSimpArgs false
set_option maxRecDepth 100000
namespace Go.Proofs.YthiflgncldmkjaaDoor
open Go.Ri

theorem alloc130 : nAlloc Tryd.prog 130 = some ⟨List.replicate 20 (.int .u8 0), 130, ptrTo⟩ := by kernel_rfl
theorem info5 : (Tryd.prog.info? 5).isSome = true := by kernel_rfl
theorem cells5 : Tryd.prog.cellsOf 5 = 1 := by kernel_rfl
theorem store5 (b k : Nat) (x : Int) (H : AH) (B : Blk) (hB : H.m b = some B) (hrw : B.rw_ = true) (hk : k < B.cells.length) :
    aStore Tryd.prog 5 (.ptr (some (b, k))) (.int .u8 x) H = some { H with m := setM H.m b (some { B with cells := B.cells.take k ++ [.int .u8 x] ++ B.cells.drop (k + 1) }) } := by
  unfold aStore
  rw [if_pos info5, cells5]
  simp only [AV.cells, Option.bind_some, List.length_cons, List.length_nil, if_true, stV, AH.st, hB, hrw, true_and]
  rw [if_pos (by omega)]

/-- The array while it is filled from behind. -/
structure Fill (H0 : AH) (b : Nat) (n : Int) (k : Nat) (acc : List Int) (T : Tm) (H : AH) : Prop where
  t0 : T 0 = .int .i64 n
  t3 : T 3 = .ptr (some (b, 0))
  t4 : T 4 = .int .i64 (k : Nat)
  blk : ∃ B, H.m b = some B ∧ B.rw_ = true ∧ B.cells.length = 20 ∧ B.cells.drop k = acc.map (.int .u8)
  len : k + acc.length = 20
  other : ∀ i, i ≠ b → H.m i = H0.m i

theorem wrapk {k : Nat} (h : 0 < k) (h' : k < 100) : IntKind.i64.wrap ((k : Nat) - 1) = ((k - 1 : Nat) : Int) := by
  rw [wrap_id (by unfold InI; omega)]
  omega

theorem text_spec (call : CallF) {n : Int} (hn : InI n) {H : AH} (hw : H.wf) (m : Nat) (hm : 20 ≤ m) :
    Ret (F62 call (iter m) (.int .i64 n) H) fun r => r.1 = .str (strOfNums (txt n)) ∧ H.sub r.2 := by
  have hHn : H.m H.next = none := by
    cases hh : H.m H.next with
    | none => rfl
    | some B => exact absurd (hw _ _ hh) (Nat.lt_irrefl _)
  unfold F62
  simp only [alloc130, Option.bind_some, cvInt, aBin_lss, asB_bool]
  -- the number's size
  have hstart : ∀ (f : Tm → AH → Option (AV × AH)) (Q : AV × AH → Prop), (∀ T, T 0 = .int .i64 n → T 3 = .ptr (some (H.next, 0)) → T 4 = .int .i64 (20 : Nat) → T 5 = .int .u64 (n.natAbs : Nat) → Ret (f T (H.new (List.replicate 20 (.int .u8 0)) 130)) Q) →
      Ret (jn (if decide (n < 0) = true then
        ((aUn .neg (.int .u64 (IntKind.u64.wrap n))).bind fun v5 => some (.inl ((updL (T0 [.int .i64 n]) [(2, (.str ⟨#[]⟩)), (3, ptrTo H.next), (4, (.int .i64 20)), (6, .int .i64 n), (7, .int .u64 (IntKind.u64.wrap n)), (5, .int .u64 (IntKind.u64.wrap n)), (8, .int .i64 n), (9, .bool (decide (n < 0))), (10, .int .u64 (IntKind.u64.wrap n)), (11, v5), (5, v5)]), (H.new (List.replicate 20 (.int .u8 0)) 130))))
        else (some (.inl ((updL (T0 [.int .i64 n]) [(2, (.str ⟨#[]⟩)), (3, ptrTo H.next), (4, (.int .i64 20)), (6, .int .i64 n), (7, .int .u64 (IntKind.u64.wrap n)), (5, .int .u64 (IntKind.u64.wrap n)), (8, .int .i64 n), (9, .bool (decide (n < 0)))]), (H.new (List.replicate 20 (.int .u8 0)) 130))))) f) Q := by
    intro f Q h
    unfold InI at hn
    by_cases hneg : n < 0
    · rw [if_pos (by simp [hneg])]
      simp only [aUn, Option.bind_some, jn_inl]
      refine h _ ?_ ?_ ?_ ?_
      · simp [updL, upd, T0]
      · simp [updL, upd, ptrTo]
      · simp [updL, upd]
      · simp only [updL, List.foldl, upd, if_true]
        congr 1
        simp only [IntKind.wrap, IntKind.bits, IntKind.signed]
        simp
        omega
    · rw [if_neg (by simp [hneg])]
      simp only [jn_inl]
      refine h _ ?_ ?_ ?_ ?_
      · simp [updL, upd, T0]
      · simp [updL, upd, ptrTo]
      · simp [updL, upd]
      · have : (updL (T0 [.int .i64 n]) [(2, (.str ⟨#[]⟩)), (3, ptrTo H.next), (4, (.int .i64 20)), (6, .int .i64 n), (7, .int .u64 (IntKind.u64.wrap n)), (5, .int .u64 (IntKind.u64.wrap n)), (8, .int .i64 n), (9, .bool (decide (n < 0)))]) 5 = .int .u64 (IntKind.u64.wrap n) := by simp [updL, upd]
        rw [this]
        congr 1
        rw [wrap_u (by omega) (by omega)]
        omega
  refine hstart _ _ fun T h0 h3 h4 h5 => ?_
  unfold InI at hn
  refine Ret.then (Q' := fun r => r.1 = .exit 0 ∧ ∃ k, Fill H H.next n k (dg 19 n.natAbs []) r.2.1 r.2.2 ∧ 1 ≤ k) ?_ ?_
  · refine Ret.iter (fun f s => ∃ u acc k, u < 10 ^ f ∧ u < 18446744073709551616 ∧ 1 ≤ f ∧ f < k ∧ Fill H H.next n k acc s.1 s.2 ∧ s.1 5 = .int .u64 (u : Nat) ∧ dg f u acc = dg 19 n.natAbs []) _ ?_ (fun s ⟨u, acc, k, _, _, h, _⟩ => by omega) 19 m _ (by omega) ?_
    · rintro j ⟨T1, H1⟩ ⟨u, acc, k, hu, hu2, hj, hk, hF, hu5, hd⟩
      obtain ⟨B, hB, hrw, hlen, hcells⟩ := hF.blk
      have hfl := hF.len
      have t3 : T1 3 = _ := hF.t3
      have t4 : T1 4 = _ := hF.t4
      have t5 : T1 5 = _ := hu5
      simp only [t3, t4, t5, aBin_sub, Option.bind_some, wrapk (k := k) (by omega) (by omega), aBin_rem _ _ _ _ _ (show (10 : Int) ≠ 0 by decide), aBin_add, aBin_quo _ _ _ _ _ (show (10 : Int) ≠ 0 by decide), aBin_eql, asB_bool, cvInt_int]
      have e1 : ((u : Nat) : Int).tmod 10 = ((u % 10 : Nat) : Int) := by
        rw [Int.tmod_eq_emod_of_nonneg (by omega)]
        omega
      have e2 : ((u : Nat) : Int).tdiv 10 = ((u / 10 : Nat) : Int) := by
        rw [Int.tdiv_eq_ediv_of_nonneg (by omega)]
        omega
      have e3 : IntKind.u8.wrap (IntKind.u64.wrap (48 + ((u % 10 : Nat) : Int))) = ((48 + u % 10 : Nat) : Int) := by
        rw [wrap_u (by omega) (by omega), wrap_u8 (by omega) (by omega)]
        omega
      have e4 : IntKind.u64.wrap ((u / 10 : Nat) : Int) = ((u / 10 : Nat) : Int) := wrap_u (by omega) (by omega)
      have e5 : idxPtr (.ptr (some (H.next, 0))) (.int .i64 ((k - 1 : Nat) : Int)) 20 1 = some (.ptr (some (H.next, k - 1))) := by
        simp only [idxPtr, ptrAdd]
        rw [if_pos (by omega)]
        simp
      simp only [e1, e2, e3, e4, e5, Option.bind_some, store5 H.next (k - 1) _ H1 B hB hrw (by omega), Option.map_some]
      -- what is filled now
      have hF' : ∀ T', T' 0 = .int .i64 n → T' 3 = .ptr (some (H.next, 0)) → T' 4 = .int .i64 ((k - 1 : Nat) : Int) → Fill H H.next n (k - 1) (((48 + u % 10 : Nat) : Int) :: acc) T' { H1 with m := setM H1.m H.next (some { B with cells := B.cells.take (k - 1) ++ [.int .u8 ((48 + u % 10 : Nat) : Int)] ++ B.cells.drop (k - 1 + 1) }) } := by
        intro T' a0 a3 a4
        refine ⟨a0, a3, a4, ⟨_, setM_same _ _ _, hrw, by simp; omega, ?_⟩, by simp; omega, fun i hi => by simp only [setM_other _ _ hi]; exact hF.other i hi⟩
        simp only [show k - 1 + 1 = k by omega]
        rw [List.append_assoc, List.drop_append_of_le_length (by simp; omega), List.drop_eq_nil_of_le (by simp; omega), hcells]
        simp
      by_cases hz : u / 10 = 0
      · rw [if_pos (by simp [hz])]
        refine .mk (.inr ⟨by simp, rfl, k - 1, ?_, by omega⟩)
        have : dg 19 n.natAbs [] = ((48 + u % 10 : Nat) : Int) :: acc := by rw [← hd, dg, if_pos hz]
        rw [this]
        exact hF' _ (by simpa [updL, upd] using hF.t0) (by simpa [updL, upd] using hF.t3) (by simp [updL, upd])
      · rw [if_neg (by simp; omega)]
        refine .mk (.inl ⟨rfl, u / 10, _, k - 1, ?_, by omega, ?_, by omega, hF' _ (by simpa [updL, upd] using hF.t0) (by simpa [updL, upd] using hF.t3) (by simp [updL, upd]), by simp [updL, upd], by rw [← hd, dg, if_neg hz]⟩)
        · rw [Nat.pow_succ] at hu
          omega
        · cases j with
          | zero => simp at hu; omega
          | succ j => omega
    · refine ⟨n.natAbs, [], 20, ?_, by omega, by omega, by omega, ⟨h0, h3, h4, ⟨_, setM_same _ _ _, rfl, by simp, by simp⟩, by simp, fun i hi => by simp [AH.new, setM_other _ _ hi]⟩, h5, rfl⟩
      have : (10 : Nat) ^ 19 = 10000000000000000000 := by decide
      omega
  · rintro ⟨e, T1, H1⟩ ⟨he, k, hF, hk⟩
    simp only at he
    subst he
    simp only [if_true]
    have hfl := hF.len
    have key : ∀ (T2 : Tm) (H2 : AH) (k2 : Nat) (acc : List Int), Fill H H.next n k2 acc T2 H2 → acc = txt n → k2 < 20 →
        Ret ((slArr (T2 3) 20 1 (some (T2 4)) none none).bind fun v27 => (cvBytes v27 H2).bind fun v28 => some (v28, H2)) fun r => r.1 = .str (strOfNums (txt n)) ∧ H.sub r.2 := by
      intro T2 H2 k2 acc hF2 ha hk2
      obtain ⟨B, hB, hrw, hlen, hcells⟩ := hF2.blk
      have hfl2 := hF2.len
      simp only [hF2.t3, hF2.t4, slArr, bnds, bnd]
      rw [if_pos (by omega)]
      simp only [Int.toNat_natCast, Option.map_some, Option.bind_some]
      have hld : cvBytes (cutAt (H.next, 0) 1 k2 20 (some 20)) H2 = some (.str (strOfNums (txt n))) := by
        have hbi : ∀ l : List Int, byteInts (l.map (.int .u8)) = some l := fun l => by
          induction l with
          | nil => rfl
          | cons x l ih => simp [byteInts, ih]
        have hl : H2.ldN (H.next, k2) (20 - k2) = some (acc.map (.int .u8)) := by
          simp only [AH.ldN, hB, Option.bind_some]
          rw [if_pos (by omega), hcells, List.take_of_length_le (by simp; omega)]
        unfold cutAt
        by_cases hz : k2 = 0
        · subst hz
          rw [if_pos rfl]
          simp only [cvBytes]
          rw [show (20 : Nat) = 20 - 0 from rfl, hl]
          simp only [Option.bind_some, hbi, Option.map_some, ha]
        · rw [if_neg hz, if_pos hk2]
          simp only [cvBytes, Nat.zero_add, Nat.mul_one, hl, Option.bind_some, hbi, Option.map_some, ha]
      rw [hld]
      refine .mk ⟨rfl, fun b B' hb => ?_⟩
      have hbn : b ≠ H.next := fun e => by rw [e, hHn] at hb; cases hb
      rw [hF2.other b hbn]
      exact hb
    have t0 : T1 0 = _ := hF.t0
    have t3 : T1 3 = _ := hF.t3
    have t4 : T1 4 = _ := hF.t4
    simp only [t0, aBin_lss, Option.bind_some, asB_bool]
    by_cases hneg : n < 0
    · rw [if_pos (by simp [hneg])]
      have hdl : k + (dg 19 n.natAbs []).length = 20 := hfl
      have hk20 : k ≤ 20 := by omega
      obtain ⟨B, hB, hrw, hlen, hcells⟩ := hF.blk
      have e5 : idxPtr (.ptr (some (H.next, 0))) (.int .i64 ((k - 1 : Nat) : Int)) 20 1 = some (.ptr (some (H.next, k - 1))) := by
        simp only [idxPtr, ptrAdd]
        rw [if_pos (by omega)]
        simp
      simp only [t3, t4, aBin_sub, Option.bind_some, wrapk (k := k) (by omega) (by omega), e5, store5 H.next (k - 1) _ H1 B hB hrw (by omega), Option.map_some, jn_inl]
      refine key _ _ (k - 1) (45 :: dg 19 n.natAbs []) ⟨by simpa [updL, upd] using hF.t0, by simpa [updL, upd] using hF.t3, by simp [updL, upd], ⟨_, setM_same _ _ _, hrw, by simp; omega, ?_⟩, by simp; omega, fun i hi => by simp only [setM_other _ _ hi]; exact hF.other i hi⟩ (by rw [txt, if_pos hneg]) (by omega)
      simp only [show k - 1 + 1 = k by omega]
      rw [List.append_assoc, List.drop_append_of_le_length (by simp; omega), List.drop_eq_nil_of_le (by simp; omega), hcells]
      simp
    · rw [if_neg (by simp [hneg])]
      have hlen0 : 1 ≤ (dg 19 n.natAbs []).length := by
        have : ∀ f u acc, 1 ≤ f → 1 ≤ (dg f u acc).length := by
          intro f
          induction f with
          | zero => intro u acc h; omega
          | succ f ih =>
            intro u acc _
            rw [dg]
            split
            · simp
            · cases f with
              | zero => simp [dg]
              | succ f => exact ih _ _ (by omega)
        exact this 19 _ _ (by omega)
      simp only [jn_inl]
      exact key _ _ k (dg 19 n.natAbs []) ⟨by simpa [updL, upd] using hF.t0, by simpa [updL, upd] using hF.t3, by simpa [updL, upd] using hF.t4, hF.blk, hF.len, hF.other⟩ (by rw [txt, if_neg hneg]) (by omega)
end Go.Proofs.YthiflgncldmkjaaDoor
/- Slices that grow. -/
set_option linter.unusedVariables false
set_option linter.unusedSimpArgs false
namespace Go.Ri

/-- What lay below `N` is as it was. -/
structure Ext (N : Nat) (H0 H : AH) : Prop where
  low : ∀ b, b < N → H.m b = H0.m b
  next : N ≤ H.next
  wf : H.wf
theorem Ext.refl {H : AH} (h : H.wf) : Ext H.next H H := ⟨fun _ _ => rfl, Nat.le_refl _, h⟩
theorem Ext.trans {N M : Nat} {H0 H1 H2 : AH} (h : Ext N H0 H1) (k : Ext M H1 H2) (hM : N ≤ M) : Ext N H0 H2 := ⟨fun b hb => (k.low b (by omega)).trans (h.low b hb), Nat.le_trans hM k.next, k.wf⟩
theorem Ext.sub {H0 H : AH} (h : Ext H0.next H0 H) (hw : H0.wf) : H0.sub H := fun b B hB => (h.low b (hw b B hB)).trans hB
theorem Ext.new {N : Nat} {H0 H : AH} (h : Ext N H0 H) (cells : List AV) (e : TypeId) : Ext N H0 (H.new cells e) := by
  refine ⟨fun b hb => ?_, Nat.le_succ_of_le h.next, fun b B hB => ?_⟩
  · have : b ≠ H.next := by have := h.next; omega
    simp only [AH.new, setM_other _ _ this]
    exact h.low b hb
  · by_cases e : b = H.next
    · subst e; exact Nat.lt_succ_self _
    · simp only [AH.new, setM_other _ _ e] at hB
      exact Nat.lt_succ_of_lt (h.wf b B hB)
theorem Ext.kill {N : Nat} {H0 H : AH} (h : Ext N H0 H) {b : Nat} (hb : N ≤ b) : Ext N H0 (H.kill b) := by
  refine ⟨fun i hi => ?_, h.next, fun i B hB => ?_⟩
  · have : i ≠ b := by omega
    simp only [AH.kill, setM_other _ _ this]
    exact h.low i hi
  · by_cases e : i = b
    · subst e
      simp only [AH.kill, setM_same] at hB
      cases hB
    · simp only [AH.kill, setM_other _ _ e] at hB
      exact h.wf i B hB

/-- A slice of its own, that grows. -/
def GS (N sz : Nat) (e : TypeId) (H : AH) (s : AV) (cs : List AV) : Prop :=
  (s = .slice none 0 (.kn 0) ∧ cs = []) ∨ ∃ b n, s = .slice (some (b, 0)) n (.op sz) ∧ 0 < n ∧ cs.length = n * sz ∧ H.m b = some ⟨cs, e, true⟩ ∧ N ≤ b
theorem GS.nil (N sz : Nat) (e : TypeId) (H : AH) : GS N sz e H (.slice none 0 (.kn 0)) [] := .inl ⟨rfl, rfl⟩
theorem GS.new {N sz : Nat} {e : TypeId} {H : AH} {s : AV} {cs : List AV} (h : GS N sz e H s cs) (hw : H.wf) (cells : List AV) (e' : TypeId) : GS N sz e (H.new cells e') s cs := by
  rcases h with h | ⟨b, n, h1, h2, h3, h4, h5⟩
  · exact .inl h
  · have : b ≠ H.next := by have := hw b _ h4; omega
    exact .inr ⟨b, n, h1, h2, h3, by simp only [AH.new, setM_other _ _ this]; exact h4, h5⟩

theorem app_gs {P : Program} {st xt e : TypeId} {i : TypeInfo} {z : List AV} (hu : P.underlying st = some (.slice e)) (hi : P.info? e = some i) (hz : zeroL P e = some z) (hzl : z.length = i.size) (hzp : 0 < i.size) (hq : seqT P xt = true)
    {N : Nat} {H0 H : AH} {s x : AV} {cs ds : List AV} {n : Nat} (hs : GS N i.size e H s cs) (he : Ext N H0 H) (hx : aLenOf x = some n) (hd : srcN i.size n x H = some ds) (hdl : ds.length = n * i.size)
    (hlim : (cs.length + ds.length) * (i.bytes + 1) ≤ 140737488355328) :
    Ret (aAppend P st xt s x H) fun r => GS N i.size e r.2 r.1 (cs ++ ds) ∧ Ext N H0 r.2 ∧ H.next ≤ r.2.next ∧ ∀ b, b < H.next → (∀ n c, s ≠ .slice (some (b, 0)) n c) → r.2.m b = H.m b := by
  have hsl : isSl s = true := by
    rcases hs with ⟨rfl, _⟩ | ⟨b, m, rfl, _⟩ <;> rfl
  unfold aAppend
  simp only [hu, hi, hz, Option.bind_some]
  rw [if_pos ⟨hq, by omega, hzl, hsl⟩]
  simp only [hx, hd, Option.bind_some]
  have bound : ∀ m : Nat, m * i.size = cs.length + ds.length → m * i.bytes ≤ 140737488355328 ∧ m ≤ 9223372036854775807 := by
    intro m hm
    have h1 : m ≤ cs.length + ds.length := by rw [← hm]; exact Nat.le_mul_of_pos_right m hzp
    have h2 : m * (i.bytes + 1) ≤ (cs.length + ds.length) * (i.bytes + 1) := Nat.mul_le_mul_right _ h1
    rw [Nat.mul_add] at h2
    omega
  cases n with
  | zero =>
    have : ds = [] := List.eq_nil_of_length_eq_zero (by simpa using hdl)
    subst this
    refine .mk ⟨by simpa using hs, he, Nat.le_refl _, fun _ _ _ => rfl⟩
  | succ n =>
    rcases hs with ⟨rfl, rfl⟩ | ⟨b, m, rfl, hm, hcl, hb, hN⟩
    · simp only [appTo]
      rw [if_neg (by omega)]
      simp only [oldN, Option.bind_some, grow]
      rw [if_pos (bound (0 + (n + 1)) (by simp at hdl ⊢; omega))]
      refine .mk ⟨.inr ⟨H.next, 0 + (n + 1), rfl, by omega, by simp at hdl ⊢; omega, by simp [AH.new, setM_same], he.next⟩, he.new _ _, Nat.le_succ _, fun b hb _ => ?_⟩
      simp only [AH.new]
      rw [setM_other _ _ (by omega)]
    · simp only [appTo, hb, Option.bind_some]
      rw [if_pos ⟨trivial, trivial, trivial⟩]
      have hold : oldN i.size m (some (b, 0)) H = some cs := by
        cases m with
        | zero => omega
        | succ m =>
          simp only [oldN, AH.ldN, hb, Option.bind_some]
          rw [if_pos (by omega)]
          simp only [List.drop_zero]
          rw [List.take_of_length_le (by omega)]
      simp only [hold, Option.bind_some, grow]
      rw [if_pos (bound (m + (n + 1)) (by rw [Nat.add_mul, hcl, hdl]))]
      refine .mk ⟨.inr ⟨H.next, m + (n + 1), rfl, by omega, by rw [List.length_append, hcl, hdl, ← Nat.add_mul], by simp [AH.new, AH.kill, setM_same], he.next⟩, (he.kill hN).new _ _, Nat.le_succ _, fun b' hb' hne => ?_⟩
      have h1 : b' ≠ H.next := by omega
      have h2 : b' ≠ b := fun e => hne m (.op i.size) (by rw [e])
      simp only [AH.new, AH.kill]
      rw [setM_other _ _ h1, setM_other _ _ h2]

/-- One element more, out of a row of one. -/
theorem app_one {P : Program} {st e : TypeId} {i : TypeInfo} {z : List AV} (hu : P.underlying st = some (.slice e)) (hi : P.info? e = some i) (hz : zeroL P e = some z) (hzl : z.length = i.size) (hzp : i.size = 1) (hq : seqT P st = true)
    {N : Nat} {H0 H : AH} {s v : AV} {cs : List AV} (hs : GS N 1 e H s cs) (he : Ext N H0 H) (hlim : (cs.length + 1) * (i.bytes + 1) ≤ 140737488355328) :
    Ret (aAppend P st st s (slTo 1 1 H.next) (H.new [v] e)) fun r => GS N 1 e r.2 r.1 (cs ++ [v]) ∧ Ext N H0 r.2 ∧ H.next ≤ r.2.next ∧ ∀ b, b < H.next → (∀ n c, s ≠ .slice (some (b, 0)) n c) → r.2.m b = H.m b := by
  have hs' := hs.new he.wf [v] e
  rw [← hzp] at hs'
  refine (app_gs (n := 1) (ds := [v]) hu hi hz hzl (by omega) hq hs' (he.new [v] e) rfl ?_ (by simp [hzp]) (by simpa using hlim)).mono ?_
  · simp only [srcN, slTo, hzp, AH.ldN, AH.new, setM_same, Option.bind_some]
    simp
  · rintro r ⟨h1, h2, h3, h4⟩
    rw [hzp] at h1
    refine ⟨h1, h2, Nat.le_trans (Nat.le_succ _) h3, fun b hb hne => ?_⟩
    rw [h4 b (Nat.lt_succ_of_lt hb) hne]
    simp only [AH.new]
    rw [setM_other _ _ (by omega)]

/-- A slice that reads so. -/
def Reads (H : AH) (s : AV) (sz : Nat) (cs : List AV) : Prop := ∃ b o n c, s = .slice (some (b, o)) n c ∧ cs.length = n * sz ∧ H.ldN (b, o) (n * sz) = some cs
theorem GS.reads {N sz : Nat} {e : TypeId} {H : AH} {s : AV} {cs : List AV} (h : GS N sz e H s cs) (hc : cs ≠ []) : ∃ b n, N ≤ b ∧ s = .slice (some (b, 0)) n (.op sz) ∧ cs.length = n * sz ∧ H.m b = some ⟨cs, e, true⟩ := by
  rcases h with ⟨_, h⟩ | ⟨b, n, h1, h2, h3, h4, h5⟩
  · exact absurd h hc
  · exact ⟨b, n, h5, h1, h3, h4⟩
end Go.Ri
/- The document's numbers by their digits: what its functions come to. -/
set_option linter.unusedVariables false
set_option linter.unusedSimpArgs false
set_option maxRecDepth 100000
namespace Go.Proofs.YthiflgncldmkjaaDoor
open Go.Ri

def IL (l : List Nat) : List AV := l.map fun x => .int .i64 (x : Nat)
theorem bs40 (n : Int) : nBuildSlice Tryd.prog 40 1 [(0, .int .i64 n)] = some ⟨[.int .i64 n], 3, slTo 1 1⟩ := by kernel_rfl
theorem under40 : Tryd.prog.underlying 40 = some (.slice 3) := by kernel_rfl
theorem zero3 : zeroL Tryd.prog 3 = some [.int .i64 0] := by kernel_rfl
theorem seq40 : seqT Tryd.prog 40 = true := by kernel_rfl
theorem info3 : ∃ i, Tryd.prog.info? 3 = some i ∧ i.size = 1 ∧ i.bytes = 8 := by
  have h : (Tryd.prog.info? 3).isSome = true := by kernel_rfl
  obtain ⟨i, hi⟩ := Option.isSome_iff_exists.1 h
  have h1 : ((Tryd.prog.info? 3).map (·.size)).getD 0 = 1 := by kernel_rfl
  have h2 : ((Tryd.prog.info? 3).map (·.bytes)).getD 0 = 8 := by kernel_rfl
  rw [hi] at h1 h2
  exact ⟨i, hi, h1, h2⟩

/-- One number more on a slice of numbers. -/
theorem app40 {N : Nat} {H0 H : AH} {s : AV} {l : List Nat} {x : Nat} (hs : GS N 1 3 H s (IL l)) (he : Ext N H0 H) (hlim : l.length < 1000000) :
    Ret (aAppend Tryd.prog 40 40 s (slTo 1 1 H.next) (H.new [.int .i64 (x : Nat)] 3)) fun r => GS N 1 3 r.2 r.1 (IL (l ++ [x])) ∧ Ext N H0 r.2 := by
  obtain ⟨i, hi, h1, h2⟩ := info3
  refine (app_one under40 hi zero3 (by rw [h1]; rfl) h1 seq40 hs he (by rw [h2]; simp [IL]; omega)).mono ?_
  rintro r ⟨g1, g2, _⟩
  exact ⟨by simpa [IL] using g1, g2⟩

def bits (u : Nat) (k : Nat) : List Nat := (List.range k).map fun i => u / 2 ^ i % 2
def ofI (n : Int) : Nat := (n % 18446744073709551616).toNat
theorem wrap_ofI (n : Int) : IntKind.u64.wrap n = (ofI n : Nat) := by
  unfold ofI
  simp [IntKind.wrap, IntKind.bits, IntKind.signed]
  omega
theorem ofI_lt (n : Int) : ofI n < 18446744073709551616 := by unfold ofI; omega

theorem tmod2 (q : Nat) : ((q : Nat) : Int).tmod 2 = ((q % 2 : Nat) : Int) := by
  rw [Int.tmod_eq_emod_of_nonneg (by omega)]
  omega
theorem tdiv2 (q : Nat) : ((q : Nat) : Int).tdiv 2 = ((q / 2 : Nat) : Int) := by
  rw [Int.tdiv_eq_ediv_of_nonneg (by omega)]
  omega
theorem wrapN {q : Nat} (h : q < 1000000) : IntKind.i64.wrap (q : Nat) = (q : Nat) := wrap_id (by unfold InI; omega)
theorem wrap1 {i : Nat} (h : i < 1000000) : IntKind.i64.wrap ((i : Nat) + 1) = ((i + 1 : Nat) : Int) := by rw [wrap_id (by unfold InI; omega)]; omega
theorem bits_spec (call : CallF) (n : Int) {H : AH} (hw : H.wf) (m : Nat) (hm : 65 ≤ m) :
    Ret (F139 call (iter m) (.int .i64 n) H) fun r => GS H.next 1 3 r.2 r.1 (IL (bits (ofI n) 64)) ∧ Ext H.next H r.2 := by
  unfold F139
  refine Ret.then (Q' := fun r => r.1 = .exit 0 ∧ GS H.next 1 3 r.2.2 (r.2.1 3) (IL (bits (ofI n) 64)) ∧ Ext H.next H r.2.2) ?_ ?_
  · refine Ret.iter (fun f s => ∃ i, i ≤ 64 ∧ f = 65 - i ∧ s.1 0 = .int .i64 n ∧ s.1 4 = .int .i64 (i : Nat) ∧ GS H.next 1 3 s.2 (s.1 3) (IL (bits (ofI n) i)) ∧ Ext H.next H s.2) _ ?_ (fun s ⟨i, _, _, _⟩ => by omega) 65 m _ hm ?_
    · rintro j ⟨T1, H1⟩ ⟨i, hi, hf, h0, h4, hg, he⟩
      have t0 : T1 0 = _ := h0
      have t4 : T1 4 = _ := h4
      simp only [t0, t4, aBin_lss, Option.bind_some, asB_bool]
      by_cases hz : i < 64
      · rw [if_pos (by simp; omega)]
        have hsh : aBin Tryd.prog .shr 131 (.int .u64 (IntKind.u64.wrap n)) (.int .u64 (IntKind.u64.wrap (i : Nat))) = some (.int .u64 ((ofI n / 2 ^ i : Nat) : Int)) := by
          show aShift .shr .u64 _ _ = _
          rw [wrap_ofI, wrap_u (by omega) (by omega)]
          unfold aShift
          rw [if_neg (by omega)]
          simp only [IntKind.bits, Int.toNat_natCast, show min i 64 = i by omega]
          congr 2
          rw [Int.fdiv_eq_ediv_of_nonneg _ (Int.pow_nonneg (by omega))]
          norm_cast
        have hrem : ((ofI n / 2 ^ i : Nat) : Int).tmod 2 = ((ofI n / 2 ^ i % 2 : Nat) : Int) := tmod2 _
        have hw64 : IntKind.i64.wrap ((ofI n / 2 ^ i % 2 : Nat) : Int) = ((ofI n / 2 ^ i % 2 : Nat) : Int) := wrapN (by omega)
        have hi1 : IntKind.i64.wrap ((i : Nat) + 1) = ((i + 1 : Nat) : Int) := wrap1 (by omega)
        simp only [cvInt_int, Option.bind_some, hsh, aBin_rem _ _ _ _ _ (show (2 : Int) ≠ 0 by decide), hrem, hw64, bs40, aBin_add, hi1]
        refine Ret.then (app40 (x := ofI n / 2 ^ i % 2) hg he (by simp [bits]; omega)) ?_
        rintro ⟨s2, H2⟩ ⟨g1, g2⟩
        refine .mk (.inl ⟨rfl, i + 1, by omega, by omega, by simpa [updL, upd] using t0, by simp [updL, upd], ?_, g2⟩)
        have : (updL T1 [(5, .int .i64 (i : Nat)), (6, .bool (decide ((i : Int) < 64))), (9, T1 3), (10, .int .i64 n), (11, .int .u64 (IntKind.u64.wrap n)), (12, .int .i64 (i : Nat)), (13, .int .u64 (IntKind.u64.wrap (i : Nat))), (14, .int .u64 ((ofI n / 2 ^ i : Nat) : Int)), (15, .int .u64 ((ofI n / 2 ^ i % 2 : Nat) : Int)), (16, .int .i64 ((ofI n / 2 ^ i % 2 : Nat) : Int)), (17, slTo 1 1 H1.next), (18, s2), (3, s2), (7, .int .i64 (i : Nat)), (8, .int .i64 ((i + 1 : Nat) : Int)), (4, .int .i64 ((i + 1 : Nat) : Int))]) 3 = s2 := by simp [updL, upd]
        simp only [this]
        simpa [bits, List.range_succ] using g1
      · rw [if_neg (by simp; omega)]
        have : i = 64 := by omega
        subst this
        exact .mk (.inr ⟨by simp, rfl, by simpa [updL, upd] using hg, he⟩)
    · exact ⟨0, by omega, rfl, by simp [updL, upd, T0], by simp [updL, upd], by simpa [updL, upd, bits, IL] using GS.nil _ _ _ _, .refl hw⟩
  · rintro ⟨e, T1, H1⟩ ⟨he, hg, hx⟩
    simp only at he
    subst he
    simp only [if_true]
    exact .mk ⟨hg, hx⟩
end Go.Proofs.YthiflgncldmkjaaDoor
/- The document's numbers by their digits: sums, others, and what they are worth. -/
set_option linter.unusedVariables false
set_option linter.unusedSimpArgs false
set_option maxRecDepth 100000
namespace Go.Proofs.YthiflgncldmkjaaDoor
open Go.Ri

theorem aLen40 (b n : Nat) (c : Cap) : aLen Tryd.prog 40 (.slice (some (b, 0)) n c) = some (.int .i64 (n : Nat)) := by kernel_rfl
/-- An argument that has 64 digits. -/
def ArgB (N : Nat) (H : AH) (v : AV) (l : List Nat) : Prop := ∃ b c B, v = .slice (some (b, 0)) 64 c ∧ b < N ∧ H.m b = some B ∧ B.cells = IL l ∧ l.length = 64 ∧ ∀ x ∈ l, x < 2
theorem idxSl_at {b n i : Nat} {c : Cap} (h : i < n) : idxSl (.slice (some (b, 0)) n c) (.int .i64 (i : Nat)) 1 = some (.ptr (some (b, i))) := by
  simp only [idxSl]
  rw [if_pos (by omega)]
  simp
theorem ldOne_at {H H1 : AH} {N b i : Nat} {B : Blk} {l : List Nat} (he : Ext N H H1) (hb : b < N) (hB : H.m b = some B) (hc : B.cells = IL l) (hi : i < l.length) : ldOne (.ptr (some (b, i))) H1 = some (.int .i64 ((l[i] : Nat) : Int)) := by
  simp only [ldOne, AH.ld, he.low b hb, hB, Option.bind_some, hc, IL]
  simp [hi]

def plusL : List Nat → List Nat → Nat → List Nat
  | x :: xs, y :: ys, c => (x + y + c) % 2 :: plusL xs ys ((x + y + c) / 2)
  | _, _, _ => []
def val : List Nat → Nat
  | [] => 0
  | x :: l => x + 2 * val l

theorem plus_spec (call : CallF) {va vb : AV} {a b : List Nat} {c : Nat} {H : AH} (hw : H.wf) (ha : ArgB H.next H va a) (hb : ArgB H.next H vb b) (hc : c ≤ 1) (m : Nat) (hm : 65 ≤ m) :
    Ret (F138 call (iter m) va vb (.int .i64 (c : Nat)) H) fun r => GS H.next 1 3 r.2 r.1 (IL (plusL a b c)) ∧ Ext H.next H r.2 := by
  obtain ⟨ba, ca, Ba, rfl, hba, hBa, hca, hla, h2a⟩ := ha
  obtain ⟨bb, cb, Bb, rfl, hbb, hBb, hcb, hlb, h2b⟩ := hb
  unfold F138
  refine Ret.then (Q' := fun r => r.1 = .exit 0 ∧ GS H.next 1 3 r.2.2 (r.2.1 7) (IL (plusL a b c)) ∧ Ext H.next H r.2.2) ?_ ?_
  · refine Ret.iter (fun f s => ∃ i out ci, i ≤ 64 ∧ f = 65 - i ∧ s.1 0 = .slice (some (ba, 0)) 64 ca ∧ s.1 1 = .slice (some (bb, 0)) 64 cb ∧ s.1 2 = .int .i64 (ci : Nat) ∧ s.1 8 = .int .i64 (i : Nat) ∧ ci ≤ 1 ∧ out.length = i ∧
        GS H.next 1 3 s.2 (s.1 7) (IL out) ∧ Ext H.next H s.2 ∧ out ++ plusL (a.drop i) (b.drop i) ci = plusL a b c) _ ?_ (fun s ⟨i, out, ci, _, _, _⟩ => by omega) 65 m _ hm ?_
    · rintro j ⟨T1, H1⟩ ⟨i, out, ci, hi, hf, h0, h1, h2, h8, hci, hol, hg, he, hpl⟩
      have t0 : T1 0 = _ := h0
      have t1 : T1 1 = _ := h1
      have t2 : T1 2 = _ := h2
      have t8 : T1 8 = _ := h8
      have he' : Ext H.next H H1 := he
      simp only [t0, t1, t2, t8, aBin_lss, Option.bind_some, asB_bool]
      by_cases hz : i < 64
      · rw [if_pos (by simp; omega)]
        have hia : i < a.length := by omega
        have hib : i < b.length := by omega
        have xa := h2a a[i] (List.getElem_mem _)
        have xb := h2b b[i] (List.getElem_mem _)
        have s1 : IntKind.i64.wrap ((a[i] : Nat) + (b[i] : Nat) : Int) = ((a[i] + b[i] : Nat) : Int) := by rw [wrap_id (by unfold InI; omega)]; omega
        have s2 : IntKind.i64.wrap (((a[i] + b[i] : Nat) : Int) + (ci : Nat)) = ((a[i] + b[i] + ci : Nat) : Int) := by rw [wrap_id (by unfold InI; omega)]; omega
        have s3 : IntKind.i64.wrap (((a[i] + b[i] + ci) / 2 : Nat) : Int) = (((a[i] + b[i] + ci) / 2 : Nat) : Int) := wrapN (by omega)
        simp only [idxSl_at hz, ldOne_at he' hba hBa hca hia, ldOne_at he' hbb hBb hcb hib, Option.bind_some, aBin_add, s1, s2, aBin_rem _ _ _ _ _ (show (2 : Int) ≠ 0 by decide), aBin_quo _ _ _ _ _ (show (2 : Int) ≠ 0 by decide), tmod2, tdiv2, s3, bs40, wrap1 (i := i) (by omega)]
        refine Ret.then (app40 (x := (a[i] + b[i] + ci) % 2) hg he (by omega)) ?_
        rintro ⟨sv, H2⟩ ⟨g1, g2⟩
        refine .mk (.inl ⟨rfl, i + 1, out ++ [(a[i] + b[i] + ci) % 2], (a[i] + b[i] + ci) / 2, by omega, by omega, by simpa [updL, upd] using t0, by simpa [updL, upd] using t1, by simp [updL, upd], by simp [updL, upd], by omega, by simp [hol], ?_, g2, ?_⟩)
        · have g1' : GS H.next 1 3 H2 sv _ := g1
          simpa [updL, upd] using g1'
        · rw [← hpl, List.drop_eq_getElem_cons hia, List.drop_eq_getElem_cons hib, plusL]
          simp
      · rw [if_neg (by simp; omega)]
        have : i = 64 := by omega
        subst this
        refine .mk (.inr ⟨by simp, rfl, ?_, he⟩)
        rw [← hpl, List.drop_eq_nil_of_le (by omega)]
        have hg' : GS H.next 1 3 H1 (T1 7) (IL out) := hg
        simpa [updL, upd, plusL] using hg'
    · exact ⟨0, [], c, by omega, rfl, by simp [updL, upd, T0], by simp [updL, upd, T0], by simp [updL, upd, T0], by simp [updL, upd], hc, rfl, by simpa [updL, upd, IL] using GS.nil _ _ _ _, .refl hw, by simp⟩
  · rintro ⟨e, T1, H1⟩ ⟨he, hg, hx⟩
    simp only at he
    subst he
    simp only [if_true]
    exact .mk ⟨hg, hx⟩

theorem other_spec (call : CallF) {va : AV} {a : List Nat} {H : AH} (hw : H.wf) (ha : ArgB H.next H va a) (m : Nat) (hm : 65 ≤ m) :
    Ret (F140 call (iter m) va H) fun r => GS H.next 1 3 r.2 r.1 (IL (a.map (1 - ·))) ∧ Ext H.next H r.2 := by
  obtain ⟨ba, ca, Ba, rfl, hba, hBa, hca, hla, h2a⟩ := ha
  unfold F140
  refine Ret.then (Q' := fun r => r.1 = .exit 0 ∧ GS H.next 1 3 r.2.2 (r.2.1 3) (IL (a.map (1 - ·))) ∧ Ext H.next H r.2.2) ?_ ?_
  · refine Ret.iter (fun f s => ∃ i, i ≤ 64 ∧ f = 65 - i ∧ s.1 0 = .slice (some (ba, 0)) 64 ca ∧ s.1 4 = .int .i64 (i : Nat) ∧ GS H.next 1 3 s.2 (s.1 3) (IL ((a.take i).map (1 - ·))) ∧ Ext H.next H s.2) _ ?_ (fun s ⟨i, _, _, _⟩ => by omega) 65 m _ hm ?_
    · rintro j ⟨T1, H1⟩ ⟨i, hi, hf, h0, h4, hg, he⟩
      have t0 : T1 0 = _ := h0
      have t4 : T1 4 = _ := h4
      have he' : Ext H.next H H1 := he
      simp only [t0, t4, aLen40, aBin_lss, Option.bind_some, asB_bool]
      by_cases hz : i < 64
      · rw [if_pos (by simp; omega)]
        have hia : i < a.length := by omega
        have xa := h2a a[i] (List.getElem_mem _)
        have s1 : IntKind.i64.wrap (1 - (a[i] : Nat) : Int) = ((1 - a[i] : Nat) : Int) := by rw [wrap_id (by unfold InI; omega)]; omega
        simp only [idxSl_at hz, ldOne_at he' hba hBa hca hia, Option.bind_some, aBin_sub, aBin_add, s1, bs40, wrap1 (i := i) (by omega)]
        refine Ret.then (app40 (x := 1 - a[i]) hg he (by simp; omega)) ?_
        rintro ⟨sv, H2⟩ ⟨g1, g2⟩
        refine .mk (.inl ⟨rfl, i + 1, by omega, by omega, by simpa [updL, upd] using t0, by simp [updL, upd], ?_, g2⟩)
        have g1' : GS H.next 1 3 H2 sv _ := g1
        rw [List.take_succ_eq_append_getElem hia, List.map_append]
        simpa [updL, upd] using g1'
      · rw [if_neg (by simp; omega)]
        have : i = 64 := by omega
        subst this
        refine .mk (.inr ⟨by simp, rfl, ?_, he⟩)
        have hg' : GS H.next 1 3 H1 (T1 3) _ := hg
        rw [List.take_of_length_le (by omega)] at hg'
        simpa [updL, upd] using hg'
    · exact ⟨0, by omega, rfl, by simp [updL, upd, T0], by simp [updL, upd], by simpa [updL, upd, IL] using GS.nil _ _ _ _, .refl hw⟩
  · rintro ⟨e, T1, H1⟩ ⟨he, hg, hx⟩
    simp only at he
    subst he
    simp only [if_true]
    exact .mk ⟨hg, hx⟩

theorem val_lt : ∀ (l : List Nat), (∀ x ∈ l, x < 2) → val l < 2 ^ l.length
  | [], _ => by simp [val]
  | x :: l, h => by
    have := val_lt l fun y hy => h y (by simp [hy])
    have hx := h x (by simp)
    simp only [val, List.length_cons, Nat.pow_succ]
    omega
theorem number_spec (call : CallF) {va : AV} {a : List Nat} {H : AH} (hw : H.wf) (ha : ArgB H.next H va a) (m : Nat) (hm : 65 ≤ m) :
    Ret (F137 call (iter m) va H) fun r => r.1 = .int .i64 (IntKind.i64.wrap (val a : Nat)) ∧ r.2 = H := by
  obtain ⟨ba, ca, Ba, rfl, hba, hBa, hca, hla, h2a⟩ := ha
  unfold F137
  refine Ret.then (Q' := fun r => r.1 = .exit 0 ∧ r.2.1 3 = .int .u64 (val a : Nat) ∧ r.2.2 = H) ?_ ?_
  · refine Ret.iter (fun f s => ∃ i, i ≤ 64 ∧ f = i + 1 ∧ s.1 0 = .slice (some (ba, 0)) 64 ca ∧ s.1 4 = .int .i64 ((i : Nat) - 1) ∧ s.1 3 = .int .u64 (val (a.drop i) : Nat) ∧ s.2 = H) _ ?_ (fun s ⟨i, _, _, _⟩ => by omega) 65 m _ hm ?_
    · rintro j ⟨T1, H1⟩ ⟨i, hi, hf, h0, h4, h3, he⟩
      have t0 : T1 0 = _ := h0
      have t3 : T1 3 = _ := h3
      have t4 : T1 4 = _ := h4
      have he' : H1 = H := he
      subst he'
      simp only [t0, t3, t4, aBin_geq, Option.bind_some, asB_bool]
      cases i with
      | zero =>
        rw [if_neg (by simp)]
        exact .mk (.inr ⟨by simp, rfl, by simpa [updL, upd] using t3, rfl⟩)
      | succ i =>
        rw [if_pos (by simp)]
        have hia : i < a.length := by omega
        have xa := h2a a[i] (List.getElem_mem _)
        have hv := val_lt (a.drop (i + 1)) fun x hx => h2a x (List.mem_of_mem_drop hx)
        have hv2 : val (a.drop (i + 1)) < 2 ^ 63 := Nat.lt_of_lt_of_le hv (Nat.pow_le_pow_right (by omega) (by simp; omega))
        have hp : (2 : Nat) ^ 63 = 9223372036854775808 := by decide
        have e1 : (((i + 1 : Nat) : Int) - 1) = (i : Nat) := by omega
        have s1 : IntKind.u64.wrap ((val (a.drop (i + 1)) : Nat) * 2 : Int) = ((val (a.drop (i + 1)) * 2 : Nat) : Int) := by rw [wrap_u (by omega) (by omega)]; omega
        have s2 : IntKind.u64.wrap ((a[i] : Nat) : Int) = (a[i] : Nat) := wrap_u (by omega) (by omega)
        have s3 : IntKind.u64.wrap (((val (a.drop (i + 1)) * 2 : Nat) : Int) + (a[i] : Nat)) = ((val (a.drop i) : Nat) : Int) := by
          rw [wrap_u (by omega) (by omega), List.drop_eq_getElem_cons hia, val]
          omega
        have s4 : IntKind.i64.wrap ((i : Nat) - 1 : Int) = ((i : Nat) : Int) - 1 := wrap_id (by unfold InI; omega)
        simp only [e1, aBin_mul, s1, idxSl_at (show i < 64 by omega), ldOne_at (.refl hw) hba hBa hca hia, Option.bind_some, cvInt_int, s2, aBin_add, s3, aBin_sub, s4]
        exact .mk (.inl ⟨rfl, i, by omega, by omega, by simpa [updL, upd] using t0, by simp [updL, upd], by simp [updL, upd], rfl⟩)
    · refine ⟨64, by omega, rfl, by simp [updL, upd, T0], by simp [updL, upd], ?_, rfl⟩
      rw [List.drop_eq_nil_of_le (by omega)]
      simp [updL, upd, val]
  · rintro ⟨e, T1, H1⟩ ⟨he, h3, hx⟩
    have t3 : T1 3 = _ := h3
    simp only at he hx
    subst he
    subst hx
    simp only [if_true, t3, cvInt_int, Option.bind_some]
    exact .mk ⟨rfl, rfl⟩
end Go.Proofs.YthiflgncldmkjaaDoor
/- The document's difference, and its text of a number. -/
set_option linter.unusedVariables false
set_option linter.unusedSimpArgs false
set_option maxRecDepth 100000
namespace Go.Proofs.YthiflgncldmkjaaDoor
open Go.Ri

/-- Functions that call none. -/
noncomputable def S1 : CallF := aFun Tryd.prog (drawA Tryd.prog) noT (iter 70)
theorem S1_ok : CallOk Tryd.prog S1 := aFun_sound (noT_ok _) fun nt => drawA_ok (noT_ok _)

theorem bits_succ (u k : Nat) : bits u (k + 1) = u % 2 :: bits (u / 2) k := by
  unfold bits
  rw [List.range_succ_eq_map]
  simp only [List.map_cons, Nat.pow_zero, Nat.div_one, List.map_map]
  congr 1
  apply List.map_congr_left
  intro i _
  simp only [Function.comp, Nat.pow_succ]
  rw [Nat.mul_comm, ← Nat.div_div_eq_div_mul]
theorem join2 (M q r : Nat) (hM : 0 < M) (hr : r < 2) : r + 2 * (q % M) = (r + 2 * q) % (M * 2) := by
  have h1 := Nat.div_add_mod q M
  have h2 := Nat.mod_lt q hM
  have h3 : r + 2 * q = (r + 2 * (q % M)) + (M * 2) * (q / M) := by
    have h4 : M * 2 * (q / M) = 2 * (M * (q / M)) := by rw [Nat.mul_comm M 2, Nat.mul_assoc]
    rw [h4]
    generalize M * (q / M) = d at *
    omega
  rw [h3, Nat.add_mul_mod_self_left]
  exact (Nat.mod_eq_of_lt (by omega)).symm
theorem val_bits : ∀ (k u : Nat), val (bits u k) = u % 2 ^ k
  | 0, u => by simp [bits, val, Nat.mod_one]
  | k + 1, u => by
    rw [bits_succ, val, val_bits k, Nat.pow_succ, join2 _ _ _ (Nat.pow_pos (by omega)) (Nat.mod_lt _ (by omega))]
    congr 1
    omega
theorem bits_two (u k : Nat) : ∀ x ∈ bits u k, x < 2 := by
  intro x hx
  simp only [bits, List.mem_map] at hx
  obtain ⟨i, _, rfl⟩ := hx
  omega
theorem bits_length (u k : Nat) : (bits u k).length = k := by simp [bits]
theorem plusL_length : ∀ (a b : List Nat) (c : Nat), a.length = b.length → (plusL a b c).length = a.length
  | [], [], c, _ => rfl
  | x :: xs, y :: ys, c, h => by simp only [plusL, List.length_cons]; rw [plusL_length xs ys _ (by simpa using h)]
theorem plusL_two : ∀ (a b : List Nat) (c : Nat), ∀ x ∈ plusL a b c, x < 2
  | [], _, c, x, h => by simp [plusL] at h
  | _ :: _, [], c, x, h => by simp [plusL] at h
  | a :: xs, b :: ys, c, x, h => by
    simp only [plusL, List.mem_cons] at h
    rcases h with rfl | h
    · omega
    · exact plusL_two xs ys _ x h
theorem val_plus : ∀ (a b : List Nat) (c : Nat), a.length = b.length → val (plusL a b c) = (val a + val b + c) % 2 ^ a.length
  | [], [], c, _ => by simp [plusL, val, Nat.mod_one]
  | x :: xs, y :: ys, c, h => by
    rw [plusL, val, val_plus xs ys _ (by simpa using h), List.length_cons, Nat.pow_succ, join2 _ _ _ (Nat.pow_pos (by omega)) (Nat.mod_lt _ (by omega))]
    congr 1
    simp only [val]
    omega
theorem val_other : ∀ (a : List Nat), (∀ x ∈ a, x < 2) → val (a.map (1 - ·)) + val a + 1 = 2 ^ a.length
  | [], _ => rfl
  | x :: xs, h => by
    have ih := val_other xs fun y hy => h y (by simp [hy])
    have hx := h x (by simp)
    simp only [List.map_cons, val, List.length_cons, Nat.pow_succ]
    omega

theorem ArgB.of {N : Nat} {H : AH} {s : AV} {l : List Nat} (h : GS N 1 3 H s (IL l)) (hw : H.wf) (hl : l.length = 64) (h2 : ∀ x ∈ l, x < 2) : ArgB H.next H s l := by
  obtain ⟨b, n, hb, rfl, hn, hm⟩ := h.reads (by intro e; have := congrArg List.length e; simp [IL, hl] at this)
  have : n = 64 := by simp [IL, hl] at hn; omega
  subst this
  exact ⟨b, _, _, rfl, hw _ _ hm, hm, rfl, hl, h2⟩
theorem ArgB.ext {H H1 : AH} {s : AV} {l : List Nat} (h : ArgB H.next H s l) (he : Ext H.next H H1) : ArgB H1.next H1 s l := by
  obtain ⟨b, c, B, h1, h2, h3, h4, h5, h6⟩ := h
  exact ⟨b, c, B, h1, Nat.lt_of_lt_of_le h2 he.next, by rw [he.low b h2]; exact h3, h4, h5, h6⟩

theorem wrap_i (n : Int) : IntKind.i64.wrap n = (n + 9223372036854775808) % 18446744073709551616 - 9223372036854775808 := by
  simp [IntKind.wrap, IntKind.bits, IntKind.signed]
  omega
theorem sub_val (a b : Int) : IntKind.i64.wrap (val (plusL (bits (ofI a) 64) ((bits (ofI b) 64).map (1 - ·)) 1) : Nat) = IntKind.i64.wrap (a - b) := by
  rw [val_plus _ _ _ (by simp [bits_length]), bits_length]
  have ho := val_other (bits (ofI b) 64) (bits_two _ _)
  rw [bits_length, val_bits] at ho
  rw [val_bits]
  have ha := ofI_lt a
  have hb := ofI_lt b
  have hp : (2 : Nat) ^ 64 = 18446744073709551616 := by decide
  rw [hp] at ho ⊢
  generalize val ((bits (ofI b) 64).map (1 - ·)) = z at ho ⊢
  rw [wrap_i, wrap_i]
  have h1 : ((ofI a : Nat) : Int) = a % 18446744073709551616 := by unfold ofI; omega
  have h2 : ((ofI b : Nat) : Int) = b % 18446744073709551616 := by unfold ofI; omega
  generalize ofI a = p at *
  generalize ofI b = q at *
  omega
theorem sub_spec (a b : Int) {H : AH} (hw : H.wf) (m : Nat) :
    Ret (F131 S1 (iter m) (.int .i64 a) (.int .i64 b) H) fun r => r.1 = .int .i64 (IntKind.i64.wrap (a - b)) ∧ H.sub r.2 := by
  unfold F131
  have e139 : ∀ n H, S1 139 [.int .i64 n] H = F139 noT (iter 70) (.int .i64 n) H := fun n H => F139_eq noT (iter 70) _ H
  have e140 : ∀ v H, S1 140 [v] H = F140 noT (iter 70) v H := fun n H => F140_eq noT (iter 70) _ H
  have e138 : ∀ v u w H, S1 138 [v, u, w] H = F138 noT (iter 70) v u w H := fun v u w H => F138_eq noT (iter 70) _ _ _ H
  have e137 : ∀ v H, S1 137 [v] H = F137 noT (iter 70) v H := fun n H => F137_eq noT (iter 70) _ H
  simp only [e139, e140, e138, e137]
  refine Ret.then (bits_spec noT a hw 70 (by omega)) ?_
  rintro ⟨v1, H1⟩ ⟨g1, x1⟩
  refine Ret.then (bits_spec noT b x1.wf 70 (by omega)) ?_
  rintro ⟨v2, H2⟩ ⟨g2, x2⟩
  have A1 : ArgB H1.next H1 v1 _ := .of g1 x1.wf (bits_length _ _) (bits_two _ _)
  have A2 : ArgB H2.next H2 v2 _ := .of g2 x2.wf (bits_length _ _) (bits_two _ _)
  refine Ret.then (other_spec noT x2.wf A2 70 (by omega)) ?_
  rintro ⟨v3, H3⟩ ⟨g3, x3⟩
  have h3 : ∀ x ∈ (bits (ofI b) 64).map (1 - ·), x < 2 := by
    intro x hx
    simp only [List.mem_map] at hx
    obtain ⟨y, _, rfl⟩ := hx
    omega
  have A3 : ArgB H3.next H3 v3 _ := .of g3 x3.wf (by simp [bits_length]) h3
  refine Ret.then (plus_spec noT (c := 1) x3.wf ((A1.ext x2).ext x3) A3 (by omega) 70 (by omega)) ?_
  rintro ⟨v4, H4⟩ ⟨g4, x4⟩
  have A4 : ArgB H4.next H4 v4 _ := .of g4 x4.wf (by rw [plusL_length _ _ _ (by simp [bits_length]), bits_length]) (plusL_two _ _ _)
  refine Ret.then (number_spec noT x4.wf A4 70 (by omega)) ?_
  rintro ⟨v5, H5⟩ ⟨rfl, rfl⟩
  refine .mk ⟨?_, ?_⟩
  · exact congrArg (AV.int .i64) (sub_val a b)
  · exact ((((x1.trans x2 x1.next).trans x3 (Nat.le_trans x1.next x2.next)).trans x4 (Nat.le_trans (Nat.le_trans x1.next x2.next) x3.next)).sub hw)
end Go.Proofs.YthiflgncldmkjaaDoor
/- Tables: the numbers' texts, both ways. -/
set_option linter.unusedVariables false
set_option linter.unusedSimpArgs false
set_option maxRecDepth 100000
namespace Go.Proofs.YthiflgncldmkjaaDoor
open Go.Ri

theorem Ret.run {P : Program} {S : CallF} {n : Nat} {f : FuncId} {vs : List AV} {H : AH} {v : AV} (h : Ret (aFun P (drawA P) S (iter n) f vs H) fun r => r.1 = v ∧ H.sub r.2) : ∃ n H1, aFun P (drawA P) S (iter n) f vs H = some (v, H1) ∧ H.sub H1 := by
  obtain ⟨⟨v', H1⟩, h1, rfl, h2⟩ := h
  exact ⟨n, H1, h1, h2⟩

noncomputable def g131 (vs : List AV) (H : AH) : Option (AV × AH) := match vs with
  | [.int .i64 a, .int .i64 b] => some (.int .i64 (IntKind.i64.wrap (a - b)), H)
  | _ => none
theorem ok131 : Ok1 Tryd.prog 131 g131 := by
  refine ok1_flat S1_ok ⟨_, Tryd.func131, by kernel_rfl, by kernel_rfl⟩ fun vs H v H' hg => ?_
  unfold g131 at hg
  split at hg
  · cases hg
    refine ⟨rfl, rfl, fun hw => Ret.run (n := 0) ?_⟩
    rw [F131_eq]
    exact sub_spec _ _ hw 0
  · cases hg
noncomputable def g115 (vs : List AV) (H : AH) : Option (AV × AH) := match vs with
  | [.int .i64 a] => some (.int .i64 (IntKind.i64.wrap (0 - a)), H)
  | _ => none
theorem ok115 : Ok1 Tryd.prog 115 g115 := by
  refine ok1_flat (addT_ok (noT_ok _) ok131) ⟨_, Tryd.func115, by kernel_rfl, by kernel_rfl⟩ fun vs H v H' hg => ?_
  unfold g115 at hg
  split at hg
  · cases hg
    refine ⟨rfl, rfl, fun hw => Ret.run (n := 0) ?_⟩
    rw [F115_eq]
    exact .mk ⟨rfl, fun _ _ h => h⟩
  · cases hg
noncomputable def g93 (vs : List AV) (H : AH) : Option (AV × AH) := match vs with
  | [.int .i64 a] => chk (InI a) (some (.int .u64 (a.natAbs : Nat), H))
  | _ => none
theorem ok93 : Ok1 Tryd.prog 93 g93 := by
  refine ok1_flat (addT_ok (noT_ok _) ok115) ⟨_, Tryd.func93, by kernel_rfl, by kernel_rfl⟩ fun vs H v H' hg => ?_
  unfold g93 at hg
  split at hg
  · rename_i a
    obtain ⟨ha, hg⟩ := chk_some hg
    cases hg
    refine ⟨rfl, rfl, fun hw => Ret.run (n := 0) ?_⟩
    rw [F93_eq]
    unfold F93
    simp only [aBin_lss, Option.bind_some, asB_bool]
    by_cases hneg : a < 0
    · rw [if_pos (by simp [hneg])]
      have : addT noT 115 g115 115 [.int .i64 a] H = some (.int .i64 (IntKind.i64.wrap (0 - a)), H) := rfl
      simp only [this, Option.bind_some, cvInt_int]
      refine .mk ⟨?_, fun _ _ h => h⟩
      simp only
      congr 1
      rw [wrap_i]
      unfold InI at ha
      simp only [IntKind.wrap, IntKind.bits, IntKind.signed]
      simp
      omega
    · rw [if_neg (by simp [hneg])]
      simp only [cvInt_int, Option.bind_some]
      refine .mk ⟨?_, fun _ _ h => h⟩
      simp only
      congr 1
      unfold InI at ha
      rw [wrap_u (by omega) (by omega)]
      omega
  · cases hg

noncomputable def gText (vs : List AV) (H : AH) : Option (AV × AH) := match vs with
  | [.int .i64 a] => chk (InI a) (some (.str (strOfNums (txt a)), H))
  | _ => none
theorem ok62 : Ok1 Tryd.prog 62 gText := by
  refine ok1_flat (noT_ok _) ⟨_, Tryd.func62, by kernel_rfl, by kernel_rfl⟩ fun vs H v H' hg => ?_
  unfold gText at hg
  split at hg
  · rename_i a
    obtain ⟨ha, hg⟩ := chk_some hg
    cases hg
    refine ⟨rfl, rfl, fun hw => Ret.run (n := 20) ?_⟩
    rw [F62_eq]
    exact text_spec _ ha hw 20 (by omega)
  · cases hg

theorem bs87 (n : Int) : nBuildSlice Tryd.prog 87 1 [(0, .int .u8 n)] = some ⟨[.int .u8 n], 5, slTo 1 1⟩ := by kernel_rfl
theorem one_str (x : Int) (H : AH) : cvBytes (slTo 1 1 H.next) (H.new [.int .u8 x] 5) = some (.str (strOfNums [x])) := by
  simp [cvBytes, slTo, AH.ldN, AH.new, setM_same, byteInts]
theorem str_toList (l : List Int) : (strOfNums l).toList = l.map fun n => UInt8.ofNat n.toNat := by rw [toList_data]; rfl

theorem ok64 : Ok1 Tryd.prog 64 gText := by
  refine ok1_flat (addT_ok (noT_ok _) ok93) ⟨_, Tryd.func64, by kernel_rfl, by kernel_rfl⟩ fun vs H v H' hg => ?_
  unfold gText at hg
  split at hg
  · rename_i a
    obtain ⟨ha, hg⟩ := chk_some hg
    cases hg
    refine ⟨rfl, rfl, fun hw => Ret.run (n := 20) ?_⟩
    rw [F64_eq]
    unfold F64
    have hcall : addT noT 93 g93 93 [.int .i64 a] H = some (.int .u64 (a.natAbs : Nat), H) := by
      rw [addT_at]
      exact chk_pos ha _
    simp only [hcall, Option.bind_some]
    unfold InI at ha
    refine Ret.then (Q' := fun r => r.1 = .exit 0 ∧ r.2.1 0 = .int .i64 a ∧ r.2.1 3 = .str (strOfNums (dg 19 a.natAbs [])) ∧ Ext H.next H r.2.2) ?_ ?_
    · refine Ret.iter (fun f s => ∃ u acc k, f = k + 1 ∧ s.1 0 = .int .i64 a ∧ s.1 3 = .str (strOfNums acc) ∧ s.1 4 = .int .u64 (u : Nat) ∧ Ext H.next H s.2 ∧ u < 18446744073709551616 ∧ acc.length + k ≤ 19 ∧
          (((acc = [] ∨ 0 < u) ∧ 1 ≤ k ∧ u < 10 ^ k ∧ dg k u acc = dg 19 a.natAbs []) ∨ (acc ≠ [] ∧ u = 0 ∧ acc = dg 19 a.natAbs []))) _ ?_ (fun s ⟨u, acc, k, h, _⟩ => by omega) 20 20 _ (Nat.le_refl _) ?_
      · rintro j ⟨T1, H1⟩ ⟨u, acc, k, hjk, h0, h3, h4, he, hu, hl, hc⟩
        have t0 : T1 0 = _ := h0
        have t3 : T1 3 = _ := h3
        have t4 : T1 4 = _ := h4
        have hjk' : j = k := by omega
        subst hjk'
        have he' : Ext H.next H H1 := he
        have hemp : ((strOfNums acc).toList == (⟨#[]⟩ : ByteArray).toList) = decide (acc = []) := by
          rw [str_nil, str_toList, str_toList]
          cases acc <;> simp
        simp only [t3, t4, aBin_same, hemp, Option.bind_some, gdv_bool, asB_bool]
        -- whether a round is to come
        have e1 : ((u : Nat) : Int).tmod 10 = ((u % 10 : Nat) : Int) := by
          rw [Int.tmod_eq_emod_of_nonneg (by omega)]
          omega
        have e2 : ((u : Nat) : Int).tdiv 10 = ((u / 10 : Nat) : Int) := by
          rw [Int.tdiv_eq_ediv_of_nonneg (by omega)]
          omega
        have e3 : IntKind.u8.wrap (IntKind.u64.wrap (48 + ((u % 10 : Nat) : Int))) = ((48 + u % 10 : Nat) : Int) := by
          rw [wrap_u (by omega) (by omega), wrap_u8 (by omega) (by omega)]
          omega
        have e4 : IntKind.u64.wrap ((u / 10 : Nat) : Int) = ((u / 10 : Nat) : Int) := wrap_u (by omega) (by omega)
        have e5 : ∀ t, aBin Tryd.prog .add t (.str (strOfNums [((48 + u % 10 : Nat) : Int)])) (.str (strOfNums acc)) = some (.str (strOfNums (((48 + u % 10 : Nat) : Int) :: acc))) := fun t => by
          rw [aBin_cat _ _ _ _ (by rw [strOfNums_size, strOfNums_size]; simp; omega), str_append]
          rfl
        have step : ((acc = [] ∨ 0 < u) ∧ 1 ≤ j ∧ u < 10 ^ j ∧ dg j u acc = dg 19 a.natAbs []) → ∀ T2 : Tm, T2 0 = .int .i64 a → T2 3 = .str (strOfNums (((48 + u % 10 : Nat) : Int) :: acc)) → T2 4 = .int .u64 ((u / 10 : Nat) : Int) →
            ∃ u' acc' k', j = k' + 1 ∧ T2 0 = .int .i64 a ∧ T2 3 = .str (strOfNums acc') ∧ T2 4 = .int .u64 (u' : Nat) ∧ Ext H.next H (H1.new [.int .u8 ((48 + u % 10 : Nat) : Int)] 5) ∧ u' < 18446744073709551616 ∧ acc'.length + k' ≤ 19 ∧
              (((acc' = [] ∨ 0 < u') ∧ 1 ≤ k' ∧ u' < 10 ^ k' ∧ dg k' u' acc' = dg 19 a.natAbs []) ∨ (acc' ≠ [] ∧ u' = 0 ∧ acc' = dg 19 a.natAbs [])) := by
          rintro ⟨_, hj, hlt, hd⟩ T2 a0 a3 a4
          obtain ⟨k, rfl⟩ : ∃ k, j = k + 1 := ⟨j - 1, by omega⟩
          refine ⟨u / 10, _, k, rfl, a0, a3, a4, he'.new _ _, by omega, by simp; omega, ?_⟩
          rw [dg] at hd
          by_cases hz : u / 10 = 0
          · rw [if_pos hz] at hd
            exact .inr ⟨by simp, hz, hd⟩
          · rw [if_neg hz] at hd
            rw [Nat.pow_succ] at hlt
            refine .inl ⟨.inr (by omega), ?_, by omega, hd⟩
            cases k with
            | zero => simp at hlt; omega
            | succ k => omega
        rcases hc with hc | ⟨hne, hu0, hacc⟩
        · by_cases hae : acc = []
          · simp only [hae, decide_true]
            subst hae
            simp only [show (true == false) = false from rfl, Bool.false_eq_true, if_false, if_true, Option.bind_some, asB_bool, aBin_rem _ _ _ _ _ (show (10 : Int) ≠ 0 by decide), aBin_quo _ _ _ _ _ (show (10 : Int) ≠ 0 by decide), e1, e2, e4, aBin_add, cvInt_int, e3, bs87, one_str, e5]
            exact .mk (.inl ⟨rfl, step hc _ (by simpa [updL, upd] using t0) (by simp [updL, upd]) (by simp [updL, upd])⟩)
          · have hup : 0 < u := hc.1.resolve_left hae
            simp only [hae, decide_false]
            simp only [show (false == false) = true from rfl, Bool.false_eq_true, if_false, if_true, Option.bind_some, asB_bool, aBin_gtr, show decide (((u : Nat) : Int) > 0) = true by simp; omega, aBin_rem _ _ _ _ _ (show (10 : Int) ≠ 0 by decide), aBin_quo _ _ _ _ _ (show (10 : Int) ≠ 0 by decide), e1, e2, e4, aBin_add, cvInt_int, e3, bs87, one_str, e5]
            exact .mk (.inl ⟨rfl, step hc _ (by simpa [updL, upd] using t0) (by simp [updL, upd]) (by simp [updL, upd])⟩)
        · subst hu0
          simp only [hne, decide_false]
          simp only [show (false == false) = true from rfl, Bool.false_eq_true, if_false, if_true, Option.bind_some, asB_bool, aBin_gtr, show decide (((0 : Nat) : Int) > 0) = false by simp]
          exact .mk (.inr ⟨by simp, rfl, by simpa [updL, upd] using t0, by rw [← hacc]; simpa [updL, upd] using t3, he⟩)
      · refine ⟨a.natAbs, [], 19, rfl, by simp [updL, upd, T0], by simp [updL, upd, str_nil], by simp [updL, upd], .refl hw, by omega, by simp, .inl ⟨.inl rfl, by omega, ?_, rfl⟩⟩
        have : (10 : Nat) ^ 19 = 10000000000000000000 := by decide
        omega
    · rintro ⟨e, T1, H1⟩ ⟨he, h0, h3, hx⟩
      have t0 : T1 0 = _ := h0
      have t3 : T1 3 = _ := h3
      simp only at he
      subst he
      have hsub : H.sub H1 := Ext.sub hx hw
      simp only [if_true, t0, t3, aBin_lss, Option.bind_some, asB_bool]
      by_cases hneg : a < 0
      · rw [if_pos (by simp [hneg])]
        have hcat : ∀ t, aBin Tryd.prog .add t (.str ⟨#[45]⟩) (.str (strOfNums (dg 19 a.natAbs []))) = some (.str (strOfNums (txt a))) := fun t => by
          have hlen := dg_length 19 a.natAbs []
          rw [show (⟨#[45]⟩ : ByteArray) = strOfNums [45] from rfl, aBin_cat _ _ _ _ (by rw [strOfNums_size, strOfNums_size]; simp at hlen ⊢; omega), str_append, txt, if_pos hneg]
          rfl
        simp only [hcat, Option.bind_some, jn_inl]
        exact .mk ⟨by simp [updL, upd], hsub⟩
      · rw [if_neg (by simp [hneg])]
        simp only [jn_inl]
        refine .mk ⟨?_, hsub⟩
        rw [txt, if_neg hneg]
        simpa [updL, upd] using t3
  · cases hg
end Go.Proofs.YthiflgncldmkjaaDoor
/- The document's row of an operation; how many numbers a line has. -/
set_option linter.unusedVariables false
set_option linter.unusedSimpArgs false
set_option maxRecDepth 100000
namespace Go.Proofs.YthiflgncldmkjaaDoor
open Go.Ri

def row0 : List AV := [.str ⟨#[]⟩, .int .i64 0, .int .i64 0, .int .i64 0]
def rowAt (op : Int) : List AV := if 1 ≤ op ∧ op < 26 then (rows92.drop (op.toNat * 4)).take 4 else row0
theorem info133 : (Tryd.prog.info? 133).isSome = true := by kernel_rfl
theorem cells133 : Tryd.prog.cellsOf 133 = 4 := by kernel_rfl
theorem build133 : aBuild Tryd.prog 133 [] = some (.agg row0) := by kernel_rfl
theorem aLen162 (b n : Nat) (c : Cap) : aLen Tryd.prog 162 (.slice (some (b, 0)) n c) = some (.int .i64 (n : Nat)) := by kernel_rfl
theorem rows92_length : rows92.length = 104 := by decide
theorem rows92_flat : rows92.all flat = true := by decide
theorem rowAt_length (op : Int) : (rowAt op).length = 4 := by
  unfold rowAt
  split
  · rw [List.length_take, List.length_drop, rows92_length]
    omega
  · rfl
theorem rowAt_flat (op : Int) : (rowAt op).all flat = true := by
  unfold rowAt
  split
  · have := rows92_flat
    rw [List.all_eq_true] at this ⊢
    exact fun x hx => this x (List.mem_of_mem_drop (List.mem_of_mem_take hx))
  · rfl
noncomputable def g92 (vs : List AV) (H : AH) : Option (AV × AH) := match vs with
  | [.int .i64 op] => some (.agg (rowAt op), H)
  | _ => none

/-- A whole row is written over a block's four cells, and read again. -/
theorem store133 {H : AH} {b : Nat} {B : Blk} {cs : List AV} (hB : H.m b = some B) (hrw : B.rw_ = true) (hl : B.cells.length = 4) (hc : cs.length = 4) :
    ∃ H1, aStore Tryd.prog 133 (.ptr (some (b, 0))) (.agg cs) H = some H1 ∧ ldAgg (.ptr (some (b, 0))) 4 H1 = some (.agg cs) ∧ ∀ i, i ≠ b → H1.m i = H.m i := by
  refine ⟨{ H with m := setM H.m b (some { B with cells := B.cells.take 0 ++ cs ++ B.cells.drop (0 + cs.length) }) }, ?_, ?_, fun i hi => setM_other _ _ hi⟩
  · unfold aStore
    rw [if_pos info133, cells133]
    simp only [AV.cells, Option.bind_some, hc, if_true, stV, AH.st, hB, hrw, true_and]
    rw [if_pos (by omega)]
  · simp only [ldAgg, AH.ldN, setM_same, Option.bind_some]
    rw [if_pos (by simp; omega)]
    simp [hc, List.drop_eq_nil_of_le, hl, List.take_of_length_le]

theorem ok92 : Ok1 Tryd.prog 92 g92 := by
  refine ok1_flat (noT_ok _) ⟨_, Tryd.func92, by kernel_rfl, by kernel_rfl⟩ fun vs H v H' hg => ?_
  unfold g92 at hg
  split at hg
  · rename_i op
    cases hg
    refine ⟨rfl, rowAt_flat op, fun hw => Ret.run (n := 0) ?_⟩
    rw [F92_eq]
    unfold F92 F92t
    have hB : ((H.new row0 133).new rows92 133).m H.next = some ⟨row0, 133, true⟩ := by
      simp only [AH.new]
      rw [setM_other _ _ (by omega), setM_same]
    have hsub : ∀ H1 : AH, (∀ i, i ≠ H.next → H1.m i = ((H.new row0 133).new rows92 133).m i) → H.sub H1 := by
      intro H1 h b B hb
      have h1 := hw b B hb
      rw [h b (by omega)]
      simp only [AH.new]
      rw [setM_other _ _ (by omega), setM_other _ _ (by omega)]
      exact hb
    have hend : ∀ cs : List AV, cs.length = 4 → cs = rowAt op → Ret (((aStore Tryd.prog 133 (ptrTo H.next) (.agg cs) ((H.new row0 133).new rows92 133)).map fun H' => ((.tuple [] : AV), H')).bind fun r42 =>
        (((ldAgg (ptrTo H.next) 4 r42.2).bind fun v43 => some (v43 :: [])).map oneOf).map fun v => (v, r42.2)) fun r => r.1 = .agg (rowAt op) ∧ H.sub r.2 := by
      intro cs hl he
      obtain ⟨H1, h1, h2, h3⟩ := store133 (cs := cs) hB rfl rfl hl
      simp only [ptrTo, h1, Option.map_some, Option.bind_some, h2]
      exact .mk ⟨by rw [← he]; rfl, hsub H1 h3⟩
    simp only [aBin_lss, Option.bind_some, gdv_bool, asB_bool]
    by_cases h1 : op < 1
    · simp only [h1, decide_true, show (true == false) = false from rfl, Bool.false_eq_true, if_false, if_true, Option.bind_some, asB_bool, build133]
      exact hend row0 rfl (by rw [rowAt, if_neg (by omega)])
    · simp only [h1, decide_false, show (false == false) = true from rfl, Bool.false_eq_true, if_false, if_true, Option.bind_some, slTo, aLen162, aBin_geq, asB_bool]
      by_cases h2 : op ≥ ((26 : Nat) : Int)
      · simp only [h2, decide_true, if_true, build133, Option.bind_some]
        exact hend row0 rfl (by rw [rowAt, if_neg (by omega)])
      · simp only [h2, decide_false, Bool.false_eq_true, if_false]
        have hi : idxSl (.slice (some ((H.new row0 133).next, 0)) 26 (.kn 26)) (.int .i64 op) 4 = some (.ptr (some (H.next + 1, op.toNat * 4))) := by
          simp only [idxSl]
          rw [if_pos (by omega)]
          simp [AH.new]
        have hld : ldAgg (.ptr (some (H.next + 1, op.toNat * 4))) 4 ((H.new row0 133).new rows92 133) = some (.agg (rowAt op)) := by
          simp only [ldAgg, AH.ldN, AH.new, setM_same, Option.bind_some]
          rw [if_pos (by rw [rows92_length]; omega), rowAt, if_pos (by omega)]
          rfl
        have hi' := hi
        have hld' := hld
        simp only [row0] at hi' hld'
        simp only [hi', hld', Option.bind_some]
        exact hend (rowAt op) (rowAt_length op) rfl
  · cases hg
end Go.Proofs.YthiflgncldmkjaaDoor
/- How many numbers a line has; bytes that grow; words joined. -/
set_option linter.unusedVariables false
set_option linter.unusedSimpArgs false
set_option maxRecDepth 100000
namespace Go.Proofs.YthiflgncldmkjaaDoor
open Go.Ri

def nums (op : Int) : Int := if op = 4 ∨ op = 5 ∨ op = 6 ∨ op = 19 ∨ op = 24 then 2 else if op = 1 ∨ op = 2 ∨ op = 3 ∨ op = 17 ∨ op = 18 ∨ op = 20 then 1 else 0
noncomputable def g65 (vs : List AV) (H : AH) : Option (AV × AH) := match vs with
  | [.int .i64 op] => chk (1 ≤ op ∧ op ≤ 25) (some (.int .i64 (nums op), H))
  | _ => none
theorem ok65 : Ok1 Tryd.prog 65 g65 := by
  refine ok1_flat (noT_ok _) ⟨_, Tryd.func65, by kernel_rfl, by kernel_rfl⟩ fun vs H v H' hg => ?_
  unfold g65 at hg
  split at hg
  · rename_i op
    obtain ⟨⟨h1, h2⟩, hg⟩ := chk_some hg
    cases hg
    refine ⟨rfl, rfl, fun hw => Ret.run (n := 0) ?_⟩
    rw [F65_eq]
    have : F65 noT (iter 0) (.int .i64 op) H = some (.int .i64 (nums op), H) := by
      have hop : op = 1 ∨ op = 2 ∨ op = 3 ∨ op = 4 ∨ op = 5 ∨ op = 6 ∨ op = 7 ∨ op = 8 ∨ op = 9 ∨ op = 10 ∨ op = 11 ∨ op = 12 ∨ op = 13 ∨ op = 14 ∨ op = 15 ∨ op = 16 ∨ op = 17 ∨ op = 18 ∨ op = 19 ∨ op = 20 ∨ op = 21 ∨ op = 22 ∨ op = 23 ∨ op = 24 ∨ op = 25 := by omega
      rcases hop with rfl | rfl | rfl | rfl | rfl | rfl | rfl | rfl | rfl | rfl | rfl | rfl | rfl | rfl | rfl | rfl | rfl | rfl | rfl | rfl | rfl | rfl | rfl | rfl | rfl <;> rfl
    rw [this]
    exact .mk ⟨rfl, fun _ _ h => h⟩
  · cases hg

/-! ### Bytes -/
def U8 (l : List Int) : List AV := l.map (.int .u8)
def byteL (s : ByteArray) : List Int := s.data.toList.map fun b => (b.toNat : Int)
theorem str_byteL (s : ByteArray) : strOfNums (byteL s) = s := by
  apply toList_inj
  rw [str_toList, toList_data, byteL, List.map_map]
  conv => rhs; rw [← List.map_id s.data.toList]
  apply List.map_congr_left
  intro b _
  simp
theorem byteL_length (s : ByteArray) : (byteL s).length = s.size := by simp [byteL]
theorem strCells_eq (s : ByteArray) : strCells s = U8 (byteL s) := by simp [strCells, U8, byteL]
theorem under87 : Tryd.prog.underlying 87 = some (.slice 5) := by kernel_rfl
theorem zero5 : zeroL Tryd.prog 5 = some [.int .u8 0] := by kernel_rfl
theorem seq87 : seqT Tryd.prog 87 = true := by kernel_rfl
theorem seq9 : seqT Tryd.prog 9 = true := by kernel_rfl
theorem info5' : ∃ i, Tryd.prog.info? 5 = some i ∧ i.size = 1 ∧ i.bytes = 1 := by
  have h : (Tryd.prog.info? 5).isSome = true := by kernel_rfl
  obtain ⟨i, hi⟩ := Option.isSome_iff_exists.1 h
  have h1 : ((Tryd.prog.info? 5).map (·.size)).getD 0 = 1 := by kernel_rfl
  have h2 : ((Tryd.prog.info? 5).map (·.bytes)).getD 0 = 1 := by kernel_rfl
  rw [hi] at h1 h2
  exact ⟨i, hi, h1, h2⟩
/-- One byte more. -/
theorem app87 {N : Nat} {H0 H : AH} {s : AV} {l : List Int} {x : Int} (hs : GS N 1 5 H s (U8 l)) (he : Ext N H0 H) (hlim : l.length < 1000000000000) :
    Ret (aAppend Tryd.prog 87 87 s (slTo 1 1 H.next) (H.new [.int .u8 x] 5)) fun r => GS N 1 5 r.2 r.1 (U8 (l ++ [x])) ∧ Ext N H0 r.2 := by
  obtain ⟨i, hi, h1, h2⟩ := info5'
  refine (app_one under87 hi zero5 (by rw [h1]; rfl) h1 seq87 hs he (by rw [h2]; simp [U8]; omega)).mono ?_
  rintro r ⟨g1, g2, _⟩
  exact ⟨by simpa [U8] using g1, g2⟩
/-- A string more. -/
theorem app879 {N : Nat} {H0 H : AH} {s : AV} {l : List Int} {x : ByteArray} (hs : GS N 1 5 H s (U8 l)) (he : Ext N H0 H) (hlim : l.length + x.size < 1000000000000) :
    Ret (aAppend Tryd.prog 87 9 s (.str x) H) fun r => GS N 1 5 r.2 r.1 (U8 (l ++ byteL x)) ∧ Ext N H0 r.2 := by
  obtain ⟨i, hi, h1, h2⟩ := info5'
  have hlen : (strCells x).length = x.size := by rw [strCells_eq, U8, List.length_map, byteL_length]
  rw [← h1] at hs
  refine (app_gs (n := x.size) (ds := strCells x) under87 hi zero5 (by rw [h1]; rfl) (by omega) seq9 hs he rfl ?_ (by rw [hlen, h1]; omega) (by rw [h2, hlen]; simp [U8]; omega)).mono ?_
  · unfold srcN
    cases hx : x.size with
    | zero =>
      simp only []
      congr 1
      exact (List.eq_nil_of_length_eq_zero (by rw [hlen, hx])).symm
    | succ n =>
      simp only []
      rw [if_pos ⟨hx.symm, h1⟩]
  · rintro r ⟨g1, g2, _⟩
    rw [h1, strCells_eq] at g1
    exact ⟨by simpa [U8] using g1, g2⟩
/-- The bytes as a text. -/
theorem bytes_str {N : Nat} {H : AH} {s : AV} {l : List Int} (hs : GS N 1 5 H s (U8 l)) : cvBytes s H = some (.str (strOfNums l)) := by
  have hbi : ∀ l : List Int, byteInts (l.map (.int .u8)) = some l := fun l => by
    induction l with
    | nil => rfl
    | cons x l ih => simp [byteInts, ih]
  rcases hs with ⟨rfl, h⟩ | ⟨b, n, rfl, hn, hl, hb, _⟩
  · have : l = [] := by simpa [U8] using h
    subst this
    rfl
  · simp only [cvBytes, AH.ldN, hb, Option.bind_some]
    have : n = (U8 l).length := by omega
    subst this
    rw [if_pos (by simp)]
    simp only [List.drop_zero, Option.bind_some]
    rw [List.take_of_length_le (by omega), U8, hbi]
    rfl
end Go.Proofs.YthiflgncldmkjaaDoor
/- Words joined. -/
set_option linter.unusedVariables false
set_option linter.unusedSimpArgs false
set_option maxRecDepth 100000
namespace Go.Proofs.YthiflgncldmkjaaDoor
open Go.Ri

theorem aLen90 (p : Option (Nat × Nat)) (n : Nat) (c : Cap) : aLen Tryd.prog 90 (.slice p n c) = some (.int .i64 (n : Nat)) := by kernel_rfl
/-- The words so far: a blank ahead of each but the first. -/
def joinL : Nat → List ByteArray → List Int
  | _, [] => []
  | i, s :: l => (if 0 < i then [32] else []) ++ byteL s ++ joinL (i + 1) l
theorem joinL_append : ∀ (i : Nat) (a : List ByteArray) (s : ByteArray), joinL i (a ++ [s]) = joinL i a ++ (if 0 < i + a.length then [32] else []) ++ byteL s
  | i, [], s => by simp [joinL]
  | i, x :: a, s => by
    simp only [List.cons_append, joinL, joinL_append (i + 1) a s, List.length_cons]
    rw [show i + 1 + a.length = i + (a.length + 1) by omega]
    simp
def strsOf : List AV → Option (List ByteArray)
  | [] => some []
  | .str s :: l => (strsOf l).map fun r => s :: r
  | _ => none
theorem strsOf_eq : ∀ {cs : List AV} {ls : List ByteArray}, strsOf cs = some ls → cs = ls.map .str
  | [], ls, h => by cases h; rfl
  | c :: cs, ls, h => by
    cases c <;> simp only [strsOf, Option.map_eq_some_iff, reduceCtorEq] at h
    obtain ⟨r, hr, rfl⟩ := h
    rw [strsOf_eq hr]
    rfl
noncomputable def g66 (vs : List AV) (H : AH) : Option (AV × AH) := match vs with
  | [.slice (some p) n c] => (H.ldN p n).bind fun cs => (strsOf cs).bind fun ls => chk (ls.length = n ∧ ls.length < 1000000 ∧ ∀ s ∈ ls, s.size < 1000) (some (.str (strOfNums (joinL 0 ls)), H))
  | _ => none
theorem joinL_length : ∀ (i : Nat) (l : List ByteArray), (∀ s ∈ l, s.size < 1000) → (joinL i l).length ≤ l.length * 1001
  | i, [], _ => by simp [joinL]
  | i, s :: l, h => by
    have ih := joinL_length (i + 1) l fun t ht => h t (by simp [ht])
    have hs := h s (by simp)
    simp only [joinL, List.length_append, byteL_length, List.length_cons]
    split <;> simp <;> omega

theorem ok66 : Ok1 Tryd.prog 66 g66 := by
  refine ok1_flat (noT_ok _) ⟨_, Tryd.func66, by kernel_rfl, by kernel_rfl⟩ fun vs H v H' hg => ?_
  unfold g66 at hg
  split at hg
  · rename_i p n c
    simp only [Option.bind_eq_some_iff] at hg
    obtain ⟨cs, hcs, ls, hls, hg⟩ := hg
    obtain ⟨⟨hn, hlim, hsz⟩, hg⟩ := chk_some hg
    cases hg
    have hce := strsOf_eq hls
    refine ⟨rfl, rfl, fun hw => Ret.run (n := n + 1) ?_⟩
    rw [F66_eq]
    unfold F66
    obtain ⟨b, o⟩ := p
    simp only [aLen90, Option.bind_some]
    refine Ret.then (Q' := fun r => r.1 = .exit 0 ∧ GS H.next 1 5 r.2.2 (r.2.1 3) (U8 (joinL 0 ls)) ∧ Ext H.next H r.2.2) ?_ ?_
    · refine Ret.iter (fun f s => ∃ i, i ≤ n ∧ f = n + 1 - i ∧ s.1 6 = .slice (some (b, o)) n c ∧ s.1 7 = .int .i64 (n : Nat) ∧ s.1 8 = .int .i64 (i : Nat) ∧ GS H.next 1 5 s.2 (s.1 3) (U8 (joinL 0 (ls.take i))) ∧ Ext H.next H s.2) _ ?_ (fun s ⟨i, _, _, _⟩ => by omega) (n + 1) (n + 1) _ (Nat.le_refl _) ?_
      · rintro j ⟨T1, H1⟩ ⟨i, hi, hf, h6, h7, h8, hgs, he⟩
        have t6 : T1 6 = _ := h6
        have t7 : T1 7 = _ := h7
        have t8 : T1 8 = _ := h8
        have hg1 : GS H.next 1 5 H1 (T1 3) (U8 (joinL 0 (ls.take i))) := hgs
        have he' : Ext H.next H H1 := he
        simp only [t6, t7, t8, aBin_lss, Option.bind_some, asB_bool]
        by_cases hz : i < n
        · rw [if_pos (by simp; omega)]
          have hil : i < ls.length := by omega
          have hsi := hsz ls[i] (List.getElem_mem _)
          have hix : idxSl (.slice (some (b, o)) n c) (.int .i64 (i : Nat)) 1 = some (.ptr (some (b, o + i))) := by
            simp only [idxSl]
            rw [if_pos (by omega)]
            simp
          have hld : ldOne (.ptr (some (b, o + i))) H1 = some (.str ls[i]) := by
            simp only [AH.ldN, Option.bind_eq_some_iff] at hcs
            obtain ⟨B, hB, hcs⟩ := hcs
            split at hcs
            · rename_i hle
              have hcs := Option.some.inj hcs
              simp only [ldOne, AH.ld, he'.low b (hw b B hB), hB, Option.bind_some]
              have h1 : cs[i]? = some (.str ls[i]) := by rw [hce]; simp [hil]
              rw [← hcs, List.getElem?_take, if_pos (by omega), List.getElem?_drop] at h1
              exact h1
            · cases hcs
          simp only [hix, hld, Option.bind_some, aBin_gtr, asB_bool]
          have hjl := joinL_length 0 (ls.take i) fun s hs => hsz s (List.mem_of_mem_take hs)
          have hjl' : (joinL 0 (ls.take i)).length ≤ 1001000000 := by
            have : (ls.take i).length ≤ 1000000 := by simp; omega
            omega
          have htake : joinL 0 (ls.take (i + 1)) = joinL 0 (ls.take i) ++ (if 0 < i then [32] else []) ++ byteL ls[i] := by
            rw [List.take_succ_eq_append_getElem hil, joinL_append]
            simp [Nat.min_eq_left (Nat.le_of_lt hil)]
          have w1 : IntKind.i64.wrap ((i : Nat) + 1) = ((i + 1 : Nat) : Int) := wrap1 (by omega)
          -- the word itself
          have tail : ∀ (T2 : Tm) (H2 : AH) (K : Tm → AH → Option (Ex × St)), T2 5 = .str ls[i] → T2 8 = .int .i64 (i : Nat) → T2 6 = .slice (some (b, o)) n c → T2 7 = .int .i64 (n : Nat) → GS H.next 1 5 H2 (T2 3) (U8 (joinL 0 (ls.take i) ++ (if 0 < i then [32] else []))) → Ext H.next H H2 →
              Ret ((aAppend Tryd.prog 87 9 (T2 3) (T2 5) H2).bind fun r15 => (aBin Tryd.prog .add 3 (T2 8) (.int .i64 1)).bind fun v16 =>
                some (Ex.normal, (updL T2 [(18, (T2 3)), (19, (T2 5)), (20, r15.1), (3, r15.1), (21, v16), (8, v16)]), r15.2)) fun r =>
                (r.1 = .normal ∧ ∃ i, i ≤ n ∧ j = n + 1 - i ∧ r.2.1 6 = .slice (some (b, o)) n c ∧ r.2.1 7 = .int .i64 (n : Nat) ∧ r.2.1 8 = .int .i64 (i : Nat) ∧ GS H.next 1 5 r.2.2 (r.2.1 3) (U8 (joinL 0 (ls.take i))) ∧ Ext H.next H r.2.2) ∨
                (r.1 ≠ .normal ∧ r.1 = .exit 0 ∧ GS H.next 1 5 r.2.2 (r.2.1 3) (U8 (joinL 0 ls)) ∧ Ext H.next H r.2.2) := by
            intro T2 H2 _ a5 a8 a6 a7 ag ae
            simp only [a5, a8]
            refine Ret.then (app879 ag ae (by split <;> simp <;> omega)) ?_
            rintro ⟨sv, H3⟩ ⟨g1, g2⟩
            simp only [aBin_add, Option.bind_some, w1]
            refine .mk (.inl ⟨rfl, i + 1, by omega, by omega, by simpa [updL, upd] using a6, by simpa [updL, upd] using a7, by simp [updL, upd], ?_, g2⟩)
            have g1' : GS H.next 1 5 H3 sv _ := g1
            rw [htake]
            simpa [updL, upd] using g1'
          by_cases hip : 0 < i
          · rw [if_pos (by simp; omega)]
            simp only [bs87, Option.bind_some]
            obtain ⟨⟨sv, H2⟩, ha, g1, g2⟩ := app87 (x := 32) hg1 he' (by omega)
            simp only [ha, Option.bind_some, jn_inl]
            refine tail _ _ (fun _ _ => none) (by simp [updL, upd]) (by simpa [updL, upd] using t8) (by simpa [updL, upd] using t6) (by simpa [updL, upd] using t7) ?_ g2
            rw [if_pos hip]
            have g1' : GS H.next 1 5 H2 sv _ := g1
            simpa [updL, upd] using g1'
          · rw [if_neg (by simp; omega)]
            simp only [jn_inl]
            refine tail _ _ (fun _ _ => none) (by simp [updL, upd]) (by simpa [updL, upd] using t8) (by simpa [updL, upd] using t6) (by simpa [updL, upd] using t7) ?_ he'
            rw [if_neg hip]
            simpa [updL, upd] using hg1
        · rw [if_neg (by simp; omega)]
          have : i = n := by omega
          subst this
          refine .mk (.inr ⟨by simp, rfl, ?_, he⟩)
          rw [List.take_of_length_le (by omega)] at hg1
          simpa [updL, upd] using hg1
      · exact ⟨0, by omega, rfl, by simp [updL, upd, T0], by simp [updL, upd], by simp [updL, upd], by simpa [updL, upd, U8, joinL] using GS.nil _ _ _ _, .refl hw⟩
    · rintro ⟨e, T1, H1⟩ ⟨he, hgs, hx⟩
      simp only at he
      subst he
      have hg1 : GS H.next 1 5 H1 (T1 3) (U8 (joinL 0 ls)) := hgs
      have hsub : H.sub H1 := Ext.sub hx hw
      simp only [if_true, bytes_str hg1, Option.bind_some]
      exact .mk ⟨rfl, hsub⟩
  · cases hg
end Go.Proofs.YthiflgncldmkjaaDoor
/- An instruction's line. -/
set_option linter.unusedVariables false
set_option linter.unusedSimpArgs false
set_option maxRecDepth 100000
namespace Go.Proofs.YthiflgncldmkjaaDoor
open Go.Ri

/-- The words, out of the document's table. -/
def wordsL : List ByteArray := ((List.range 26).map fun i => match rows92.getD (i * 4) (.bool false) with | AV.str s => s | _ => ⟨#[]⟩)
def wordOf (op : Int) : ByteArray := wordsL.getD op.toNat ⟨#[]⟩
def Words (H : AH) : Prop := ∃ e rw, H.m 0 = some ⟨wordsL.map .str, e, rw⟩
def lineWords (op n m : Int) : List ByteArray := wordOf op :: ((if 0 < nums op then [strOfNums (txt n)] else []) ++ (if 1 < nums op then [strOfNums (txt m)] else []))
def lineOf (op n m : Int) : Option (List Int) := if op < 1 ∨ 25 < op then none else if (nums op < 1 ∧ n ≠ 0) ∨ (nums op < 2 ∧ m ≠ 0) then none else some (joinL 0 (lineWords op n m))
def lineAV (op n m : Int) : AV := match lineOf op n m with
  | some l => .tuple [.str (strOfNums l), .int .i64 0]
  | none => .tuple [.str ⟨#[]⟩, .int .i64 61]
theorem ld_new {H : AH} {cells : List AV} {e : TypeId} (k : Nat) : ldOne (.ptr (some (H.next, k))) (H.new cells e) = cells[k]? := by
  simp only [ldOne, AH.ld, AH.new, setM_same, Option.bind_some]
theorem ld_old {H : AH} {cells : List AV} {e : TypeId} {b k : Nat} (h : b ≠ H.next) : ldOne (.ptr (some (b, k))) (H.new cells e) = ldOne (.ptr (some (b, k))) H := by
  simp only [ldOne, AH.ld, AH.new, setM_other _ _ h]
theorem nums_three (op : Int) : nums op = 0 ∨ nums op = 1 ∨ nums op = 2 := by
  unfold nums
  split
  · simp
  · split <;> simp
theorem bs90 (s : ByteArray) : nBuildSlice Tryd.prog 90 1 [(0, .str s)] = some ⟨[.str s], 9, slTo 1 1⟩ := by kernel_rfl
theorem build91 (n m : Int) : aBuild Tryd.prog 91 [(0, .int .i64 n), (1, .int .i64 m)] = some (.agg [.int .i64 n, .int .i64 m]) := by kernel_rfl
theorem idx91_0 (n m : Int) : idxAgg Tryd.prog 2 2 1 (.agg [.int .i64 n, .int .i64 m]) (.int .i64 0) = some (.int .i64 n) := by kernel_rfl
theorem idx91_1 (n m : Int) : idxAgg Tryd.prog 2 2 1 (.agg [.int .i64 n, .int .i64 m]) (.int .i64 1) = some (.int .i64 m) := by kernel_rfl
noncomputable def S23 : CallF := addT (addT (addT noT 62 gText) 65 g65) 66 g66
theorem S23_ok : CallOk Tryd.prog S23 := addT_ok (addT_ok (addT_ok (noT_ok _) ok62) ok65) ok66
theorem S23_62 {n : Int} (h : InI n) (H : AH) : S23 62 [.int .i64 n] H = some (.str (strOfNums (txt n)), H) := chk_pos h _
theorem S23_65 {op : Int} (h : 1 ≤ op ∧ op ≤ 25) (H : AH) : S23 65 [.int .i64 op] H = some (.int .i64 (nums op), H) := chk_pos h _
theorem S23_66 {b n : Nat} {c : Cap} {H : AH} {ls : List ByteArray} (h : H.ldN (b, 0) n = some (ls.map .str)) (hl : ls.length = n) (h1 : ls.length < 1000000) (h2 : ∀ s ∈ ls, s.size < 1000) :
    S23 66 [.slice (some (b, 0)) n c] H = some (.str (strOfNums (joinL 0 ls)), H) := by
  have e : S23 66 [.slice (some (b, 0)) n c] H = g66 [.slice (some (b, 0)) n c] H := addT_at _ _ _ _ _
  rw [e]
  have hs : strsOf (ls.map .str) = some ls := by
    clear h hl h1 h2
    induction ls with
    | nil => rfl
    | cons s ls ih => simp [strsOf, ih]
  simp only [g66, h, Option.bind_some, hs]
  exact chk_pos ⟨hl, h1, h2⟩ _
end Go.Proofs.YthiflgncldmkjaaDoor
/- A full slice of known capacity takes one more. -/
set_option linter.unusedVariables false
set_option linter.unusedSimpArgs false
set_option maxRecDepth 100000
namespace Go.Ri
theorem app_kn {P : Program} {st e : TypeId} {i : TypeInfo} {z : List AV} (hu : P.underlying st = some (.slice e)) (hi : P.info? e = some i) (hz : zeroL P e = some z) (hzl : z.length = i.size) (hzp : i.size = 1) (hq : seqT P st = true)
    {N : Nat} {H0 H : AH} {b n : Nat} {v : AV} {cs : List AV} (hB : H.m b = some ⟨cs, e, true⟩) (hl : cs.length = n) (hN : N ≤ b) (he : Ext N H0 H) (hlim : (cs.length + 1) * (i.bytes + 1) ≤ 140737488355328) :
    Ret (aAppend P st st (.slice (some (b, 0)) n (.kn n)) (slTo 1 1 H.next) (H.new [v] e)) fun r => GS N 1 e r.2 r.1 (cs ++ [v]) ∧ Ext N H0 r.2 := by
  have hb := he.wf b _ hB
  unfold aAppend
  simp only [hu, hi, hz, Option.bind_some]
  rw [if_pos ⟨hq, by omega, hzl, rfl⟩]
  have hs : srcN i.size 1 (slTo 1 1 H.next) (H.new [v] e) = some [v] := by
    simp only [srcN, slTo, hzp, AH.ldN, AH.new, setM_same, Option.bind_some]
    simp
  have ha : aLenOf (slTo 1 1 H.next) = some 1 := rfl
  simp only [ha, hs, Option.bind_some, appTo]
  rw [if_neg (by omega)]
  have hold : oldN i.size n (some (b, 0)) (H.new [v] e) = some cs := by
    cases n with
    | zero =>
      have : cs = [] := List.eq_nil_of_length_eq_zero hl
      subst this
      rfl
    | succ n =>
      simp only [oldN, AH.ldN, AH.new]
      rw [setM_other _ _ (by omega), hB]
      simp only [Option.bind_some, hzp]
      rw [if_pos (by omega)]
      simp only [List.drop_zero]
      rw [List.take_of_length_le (by omega)]
  simp only [hold, Option.bind_some, grow]
  have hbound : (n + (0 + 1)) * i.bytes ≤ 140737488355328 ∧ n + (0 + 1) ≤ 9223372036854775807 := by
    rw [hl, Nat.mul_add] at hlim
    rw [Nat.zero_add]
    omega
  rw [if_pos hbound]
  refine .mk ⟨.inr ⟨(H.new [v] e).next, n + (0 + 1), by rw [hzp], by omega, by simp [hl], by simp [AH.new, setM_same], Nat.le_trans he.next (Nat.le_succ _)⟩, (he.new _ _).new _ _⟩
end Go.Ri
/- code.Text's loop. -/
set_option linter.unusedVariables false
set_option linter.unusedSimpArgs false
set_option maxRecDepth 100000
namespace Go.Proofs.YthiflgncldmkjaaDoor
open Go.Ri
noncomputable def body23 (call : CallF) (s54 : St) : Option (Ex × St) :=
    (aBin Tryd.prog .lss 3 (s54.1 45) (.int .i64 2)).bind fun v57 =>
    (asB v57).bind fun b58 => if b58 = true then
     (jn (
      (idxAgg Tryd.prog 2 2 1 (s54.1 44) (s54.1 45)).bind fun v59 =>
      (aBin Tryd.prog .lss 3 (s54.1 45) (s54.1 5)).bind fun v60 =>
      (asB v60).bind fun b61 => if b61 = true then
       ((call 62 [v59] s54.2).bind fun r62 =>
       (nBuildSlice Tryd.prog 90 1 [(0, r62.1)]).bind fun nb63 =>
       (aAppend Tryd.prog 90 90 (s54.1 4) (nb63.val r62.2.next) (r62.2.new nb63.cells nb63.elem)).bind fun r64 =>
       some (.inl ((updL s54.1 [(46, v57), (47, (s54.1 45)), (48, v59), (6, (s54.1 45)), (7, v59), (49, (s54.1 45)), (50, (s54.1 5)), (51, v60), (52, (s54.1 4)), (53, v59), (54, r62.1), (55, (nb63.val r62.2.next)), (56, r64.1), (4, r64.1)]), r64.2)))
      else
       (some (.inl ((updL s54.1 [(46, v57), (47, (s54.1 45)), (48, v59), (6, (s54.1 45)), (7, v59), (49, (s54.1 45)), (50, (s54.1 5)), (51, v60)]), s54.2))))
     fun T65 H66 =>
     (aBin Tryd.prog .add 3 (T65 45) (.int .i64 1)).bind fun v67 =>
      some (.normal, (updL T65 [(57, v67), (45, v67)]), H66))
    else
     (some (.exit 0, (updL s54.1 [(46, v57)]), s54.2))
end Go.Proofs.YthiflgncldmkjaaDoor
/- code.Text's loop: what it comes to. -/
set_option linter.unusedVariables false
set_option linter.unusedSimpArgs false
set_option maxRecDepth 100000
namespace Go.Proofs.YthiflgncldmkjaaDoor
open Go.Ri
theorem under90 : Tryd.prog.underlying 90 = some (.slice 9) := by kernel_rfl
theorem zero9 : zeroL Tryd.prog 9 = some [.str ⟨#[]⟩] := by kernel_rfl
theorem seq90 : seqT Tryd.prog 90 = true := by kernel_rfl
theorem info9 : ∃ i, Tryd.prog.info? 9 = some i ∧ i.size = 1 ∧ i.bytes = 16 := by
  have h : (Tryd.prog.info? 9).isSome = true := by kernel_rfl
  obtain ⟨i, hi⟩ := Option.isSome_iff_exists.1 h
  have h1 : ((Tryd.prog.info? 9).map (·.size)).getD 0 = 1 := by kernel_rfl
  have h2 : ((Tryd.prog.info? 9).map (·.bytes)).getD 0 = 16 := by kernel_rfl
  rw [hi] at h1 h2
  exact ⟨i, hi, h1, h2⟩
/-- A row of words of its own. -/
def WS (N : Nat) (H : AH) (s : AV) (ls : List ByteArray) : Prop := ∃ b c, N ≤ b ∧ s = .slice (some (b, 0)) ls.length c ∧ (c = .kn ls.length ∨ c = .op 1) ∧ 0 < ls.length ∧ H.m b = some ⟨ls.map .str, 9, true⟩
theorem app90 {N : Nat} {H0 H : AH} {s : AV} {ls : List ByteArray} {x : ByteArray} (hs : WS N H s ls) (he : Ext N H0 H) (hlim : ls.length < 1000000) :
    Ret (aAppend Tryd.prog 90 90 s (slTo 1 1 H.next) (H.new [.str x] 9)) fun r => WS N r.2 r.1 (ls ++ [x]) ∧ Ext N H0 r.2 := by
  obtain ⟨i, hi, h1, h2⟩ := info9
  have fin : ∀ r : AV × AH, GS N 1 9 r.2 r.1 (ls.map .str ++ [.str x]) → Ext N H0 r.2 → WS N r.2 r.1 (ls ++ [x]) ∧ Ext N H0 r.2 := by
    intro r hg hx
    obtain ⟨b, n, hb, h3, h4, h5⟩ := hg.reads (by simp)
    have : n = (ls ++ [x]).length := by simp at h4 ⊢; omega
    subst this
    exact ⟨⟨b, _, hb, h3, .inr rfl, by simp, by rw [h5]; simp⟩, hx⟩
  obtain ⟨b, c, hb, rfl, hc, hpos, hm⟩ := hs
  rcases hc with rfl | rfl
  · exact (app_kn under90 hi zero9 (by rw [h1]; rfl) h1 seq90 hm (by simp) hb he (by rw [h2]; simp; omega)).mono fun r h => fin r h.1 h.2
  · exact (app_one under90 hi zero9 (by rw [h1]; rfl) h1 seq90 (.inr ⟨b, _, rfl, hpos, by simp, hm, hb⟩) he (by rw [h2]; simp; omega)).mono fun r h => fin r h.1 h.2.1
def upTo (op n m : Int) (i : Nat) : List ByteArray := wordOf op :: ((if 0 < nums op ∧ 0 < i then [strOfNums (txt n)] else []) ++ (if 1 < nums op ∧ 1 < i then [strOfNums (txt m)] else []))
theorem upTo_two (op n m : Int) : upTo op n m 2 = lineWords op n m := by simp [upTo, lineWords]
theorem upTo_succ (op n m : Int) (i : Nat) (hi : i < 2) : upTo op n m (i + 1) = upTo op n m i ++ (if ((i : Nat) : Int) < nums op then [strOfNums (txt (if i = 0 then n else m))] else []) := by
  rcases nums_three op with h | h | h <;> (have : i = 0 ∨ i = 1 := by omega) <;> rcases this with rfl | rfl <;> simp [upTo, h]
theorem loop23 {op n m : Int} (hn : InI n) (hm : InI m) {N : Nat} {H0 H : AH} {T : Tm} (he : Ext N H0 H) (hs : WS N H (T 4) [wordOf op]) (t5 : T 5 = .int .i64 (nums op)) (t44 : T 44 = .agg [.int .i64 n, .int .i64 m]) (t45 : T 45 = .int .i64 0) (k : Nat) (hk : 3 ≤ k) :
    Ret (iter k (body23 S23) (T, H)) fun r => r.1 = .exit 0 ∧ WS N r.2.2 (r.2.1 4) (lineWords op n m) ∧ Ext N H0 r.2.2 := by
  refine Ret.iter (fun f s => ∃ i : Nat, i ≤ 2 ∧ f = 3 - i ∧ s.1 5 = .int .i64 (nums op) ∧ s.1 44 = .agg [.int .i64 n, .int .i64 m] ∧ s.1 45 = .int .i64 (i : Nat) ∧ WS N s.2 (s.1 4) (upTo op n m i) ∧ Ext N H0 s.2) _ ?_ (fun s ⟨i, _, _, _⟩ => by omega) 3 k _ hk ?_
  · rintro j ⟨T1, H1⟩ ⟨i, hi, hf, h5, h44, h45, hws, hx⟩
    have t5 : T1 5 = _ := h5
    have t44 : T1 44 = _ := h44
    have t45 : T1 45 = _ := h45
    have hw1 : WS N H1 (T1 4) (upTo op n m i) := hws
    unfold body23
    simp only [t5, t44, t45, aBin_lss, Option.bind_some, asB_bool]
    by_cases hz : i < 2
    · rw [if_pos (by simp; omega)]
      have hidx : idxAgg Tryd.prog 2 2 1 (.agg [.int .i64 n, .int .i64 m]) (.int .i64 (i : Nat)) = some (.int .i64 (if i = 0 then n else m)) := by
        have : i = 0 ∨ i = 1 := by omega
        rcases this with rfl | rfl
        · exact idx91_0 n m
        · exact idx91_1 n m
      have hin : InI (if i = 0 then n else m) := by split <;> assumption
      simp only [hidx, Option.bind_some]
      by_cases hc : ((i : Nat) : Int) < nums op
      · rw [if_pos (by simp; omega)]
        simp only [S23_62 hin, Option.bind_some, bs90]
        obtain ⟨⟨sv, H2⟩, ha, g1, g2⟩ := app90 (x := strOfNums (txt (if i = 0 then n else m))) hw1 hx (by unfold upTo; simp; split <;> split <;> simp)
        have g1' : WS N H2 sv _ := g1
        simp only [ha, Option.bind_some, jn_inl]
        simp only [show ∀ (a b c d e f g : AV), (updL T1 [(46, a), (47, .int .i64 (i : Nat)), (48, b), (6, .int .i64 (i : Nat)), (7, b), (49, .int .i64 (i : Nat)), (50, c), (51, d), (52, e), (53, b), (54, f), (55, g), (56, sv), (4, sv)]) 45 = .int .i64 (i : Nat) from fun a b c d e f g => by simpa [updL, upd] using t45, aBin_add, Option.bind_some, wrap1 (i := i) (by omega)]
        refine .mk (.inl ⟨rfl, i + 1, by omega, by omega, by simpa [updL, upd] using t5, by simpa [updL, upd] using t44, by simp [updL, upd], ?_, g2⟩)
        rw [upTo_succ _ _ _ _ hz, if_pos hc]
        simpa [updL, upd] using g1'
      · rw [if_neg (by simp; omega)]
        simp only [jn_inl]
        simp only [show ∀ (a b c d : AV), (updL T1 [(46, a), (47, .int .i64 (i : Nat)), (48, b), (6, .int .i64 (i : Nat)), (7, b), (49, .int .i64 (i : Nat)), (50, c), (51, d)]) 45 = .int .i64 (i : Nat) from fun a b c d => by simpa [updL, upd] using t45, aBin_add, Option.bind_some, wrap1 (i := i) (by omega)]
        refine .mk (.inl ⟨rfl, i + 1, by omega, by omega, by simpa [updL, upd] using t5, by simpa [updL, upd] using t44, by simp [updL, upd], ?_, hx⟩)
        rw [upTo_succ _ _ _ _ hz, if_neg hc, List.append_nil]
        simpa [updL, upd] using hw1
    · rw [if_neg (by simp; omega)]
      have : i = 2 := by omega
      subst this
      rw [upTo_two] at hw1
      exact .mk (.inr ⟨by simp, rfl, by simpa [updL, upd] using hw1, hx⟩)
  · exact ⟨0, by omega, rfl, t5, t44, t45, by simpa [upTo] using hs, he⟩
end Go.Proofs.YthiflgncldmkjaaDoor
/- Steps of the printed functions, for simp: heaps, loads, stores, guards. -/
set_option linter.unusedVariables false
set_option linter.unusedSimpArgs false
namespace Go.Ri

attribute [simp] aBin_add aBin_sub aBin_mul aBin_lss aBin_leq aBin_gtr aBin_geq aBin_eql aBin_neq cvInt_int asB_bool gdv_bool jn_inl jn_inr
@[simp] theorem new_m (H : AH) (cs : List AV) (e : TypeId) (i : Nat) : (H.new cs e).m i = if i = H.next then some ⟨cs, e, true⟩ else H.m i := (rfl)
@[simp] theorem new_next (H : AH) (cs : List AV) (e : TypeId) : (H.new cs e).next = H.next + 1 := (rfl)
@[simp] theorem put_m (H : AH) (b : Nat) (B : Blk) (i : Nat) : (H.put b B).m i = if i = b then some B else H.m i := (rfl)
@[simp] theorem put_next (H : AH) (b : Nat) (B : Blk) : (H.put b B).next = H.next := (rfl)
@[simp] theorem kill_m (H : AH) (b i : Nat) : (H.kill b).m i = if i = b then none else H.m i := (rfl)
@[simp] theorem kill_next (H : AH) (b : Nat) : (H.kill b).next = H.next := (rfl)
@[simp] theorem ldOne_ptr (b k : Nat) (H : AH) : ldOne (.ptr (some (b, k))) H = (H.m b).bind fun B => B.cells[k]? := (rfl)
@[simp] theorem ldAgg_ptr (b k n : Nat) (H : AH) : ldAgg (.ptr (some (b, k))) n H = ((H.m b).bind fun B => if k + n ≤ B.cells.length then some ((B.cells.drop k).take n) else none).map .agg := (rfl)
@[simp] theorem idxSl_at (b o n : Nat) (c : Cap) (k : IntKind) (i : Int) (sz : Nat) : idxSl (.slice (some (b, o)) n c) (.int k i) sz = if 0 ≤ i ∧ i < (n : Int) then some (.ptr (some (b, o + i.toNat * sz))) else none := (rfl)
@[simp] theorem idxPtr_at (b o : Nat) (k : IntKind) (i : Int) (n sz : Nat) : idxPtr (.ptr (some (b, o))) (.int k i) n sz = if 0 ≤ i ∧ i < (n : Int) then some (.ptr (some (b, o + i.toNat * sz))) else none := (rfl)
@[simp] theorem nBox_agg (e : TypeId) (cs : List AV) : nBox e (.agg cs) = some ⟨cs, e, ptrTo⟩ := (rfl)
@[simp] theorem nBox_int (e : TypeId) (k : IntKind) (n : Int) : nBox e (.int k n) = some ⟨[.int k n], e, ptrTo⟩ := (rfl)

theorem bft : (false == true) = false := by decide
theorem btf : (true == false) = false := by decide
theorem btt : (true == true) = true := by decide
theorem bff : (false == false) = true := by decide
theorem updL_nil' (T : Tm) (d : Nat) : updL T [] d = T d := (rfl)
theorem updL_cons' (T : Tm) (e : Nat) (v : AV) (l : List (Nat × AV)) (d : Nat) : updL T ((e, v) :: l) d = updL (upd T e v) l d := (rfl)
theorem upd_same (T : Tm) (e : Nat) (v : AV) : upd T e v e = v := if_pos rfl
theorem upd_ne (T : Tm) (e d : Nat) (v : AV) (h : (d == e) = false) : upd T e v d = T d := if_neg (by simpa using h)
theorem T0_at (l : List AV) (d : Nat) : T0 l d = l.getD d (.tuple []) := (rfl)
theorem aExtract_at (vs : List AV) (i : Nat) : aExtract (.tuple vs) i = vs[i]? := (rfl)
theorem nilC_at (p : Nat × Nat) : nilC (.ptr (some p)) = some (.ptr (some p)) := (rfl)
theorem ptrAdd_at (b o n : Nat) : ptrAdd (.ptr (some (b, o))) n = some (.ptr (some (b, o + n))) := (rfl)
theorem ptrTo_at (b : Nat) : ptrTo b = .ptr (some (b, 0)) := (rfl)
theorem slTo_at (n c b : Nat) : slTo n c b = .slice (some (b, 0)) n (.kn c) := (rfl)
theorem aUn_not (b : Bool) : aUn .not (.bool b) = some (.bool (!b)) := (rfl)
theorem aUn_neg (k : IntKind) (n : Int) : aUn .neg (.int k n) = some (.int k (k.wrap (0 - n))) := (rfl)

theorem cast2 : ((2 : Nat) : Int) = 2 := (rfl)
theorem cast26 : ((26 : Nat) : Int) = 26 := (rfl)
theorem cast20 : ((20 : Nat) : Int) = 20 := (rfl)
@[simp] theorem res_m (H : AH) (n i : Nat) : (H.res n).m i = H.m i := (rfl)
@[simp] theorem res_next (H : AH) (n : Nat) : (H.res n).next = H.next + n := (rfl)
theorem chkL_nil {α : Type} (x : Option α) : chkL [] x = x := (rfl)
theorem chkL_same {α : Type} (a : Option AV) (l : List (Option AV × Option AV)) (x : Option α) : chkL ((a, a) :: l) x = chkL l x := by
  rw [chkL_eq, chkL_eq]
  have : allEq ((a, a) :: l) ↔ allEq l := ⟨fun h => h.2, fun h => ⟨rfl, h⟩⟩
  by_cases h : allEq l
  · rw [chk_pos h, chk_pos (this.2 h)]
  · unfold chk
    rw [if_neg h, if_neg (fun e => h (this.1 e))]

/-- A store of one cell; of several. -/
theorem aStore_one {P : Program} {t : TypeId} (hi : (P.info? t).isSome = true) (hc : P.cellsOf t = 1) {v : AV} (hv : v.cells = some [v]) (b k : Nat) (H : AH) :
    aStore P t (.ptr (some (b, k))) v H = (H.m b).bind fun B => if B.rw_ = true ∧ k < B.cells.length then some (H.put b ⟨B.cells.set k v, B.elem, B.rw_⟩) else none := by
  unfold aStore
  rw [if_pos hi, hv, hc]
  simp only [Option.bind_some, List.length_cons, List.length_nil, if_true, stV, AH.st]
  cases H.m b with
  | none => rfl
  | some B =>
    simp only [Option.bind_some, Nat.zero_add]
    by_cases h : B.rw_ = true ∧ k < B.cells.length
    · rw [if_pos h, if_pos ⟨h.1, by omega⟩]
      simp only [AH.put]
      congr 2
      rw [List.set_eq_take_append_cons_drop, if_pos h.2]
      simp
    · rw [if_neg h, if_neg (fun e => h ⟨e.1, by omega⟩)]
theorem aStore_agg {P : Program} {t : TypeId} (hi : (P.info? t).isSome = true) {n : Nat} (hc : P.cellsOf t = n) (b k : Nat) (cs : List AV) (H : AH) :
    aStore P t (.ptr (some (b, k))) (.agg cs) H = if cs.length = n then (H.m b).bind fun B => if B.rw_ = true ∧ k + n ≤ B.cells.length then some (H.put b ⟨B.cells.take k ++ cs ++ B.cells.drop (k + n), B.elem, B.rw_⟩) else none else none := by
  unfold aStore
  rw [if_pos hi, hc]
  simp only [AV.cells, Option.bind_some]
  by_cases hl : cs.length = n
  · rw [if_pos hl, if_pos hl]
    subst hl
    simp only [stV, AH.st]
    rfl
  · rw [if_neg hl, if_neg hl]

/-! ### Judging results -/
@[simp] theorem ret_some {R : Type} (r : R) (Q : R → Prop) : Ret (some r) Q ↔ Q r := ⟨fun ⟨_, h, q⟩ => by cases h; exact q, fun h => ⟨_, rfl, h⟩⟩
@[simp] theorem ret_none {R : Type} (Q : R → Prop) : Ret (none : Option R) Q ↔ False := ⟨fun h => (by obtain ⟨_, h, _⟩ := h; cases h), False.elim⟩
theorem ret_ite {R : Type} {c : Prop} [Decidable c] {x y : Option R} {Q : R → Prop} (h1 : c → Ret x Q) (h2 : ¬ c → Ret y Q) : Ret (if c then x else y) Q := by
  split
  · exact h1 ‹_›
  · exact h2 ‹_›
theorem ret_bind {A R : Type} {x : Option A} {f : A → Option R} {Q : R → Prop} (h : Ret x fun a => Ret (f a) Q) : Ret (x.bind f) Q := by
  obtain ⟨a, rfl, h⟩ := h
  exact h

/-- A slice that reads so: elements of `k` cells. -/
structure Row (H : AH) (s : AV) (k : Nat) (l : List (List AV)) : Prop where
  len : ∀ x ∈ l, x.length = k
  is : (s = .empty ∧ l = []) ∨ ∃ a c, s = .slice a l.length c ∧ (l = [] ∨ ∃ b o B, a = some (b, o) ∧ H.m b = some B ∧ o + l.length * k ≤ B.cells.length ∧ ∀ i (h : i < l.length), (B.cells.drop (o + i * k)).take k = l[i])
theorem Row.mono {H H' : AH} {s : AV} {k : Nat} {l : List (List AV)} (h : Row H s k l) (hs : H.sub H') : Row H' s k l := by
  rcases h.is with h1 | ⟨a, c, h1, h2⟩
  · exact ⟨h.len, .inl h1⟩
  refine ⟨h.len, .inr ⟨a, c, h1, h2.imp id ?_⟩⟩
  rintro ⟨b, o, B, e, hB, r⟩
  exact ⟨b, o, B, e, hs _ _ hB, r⟩
theorem Row.at {H : AH} {s : AV} {k : Nat} {l : List (List AV)} (h : Row H s k l) {i : Nat} (hi : i < l.length) :
    ∃ b o, (∀ kd, idxSl s (.int kd (i : Nat)) k = some (.ptr (some (b, o)))) ∧ ldAgg (.ptr (some (b, o))) k H = some (.agg l[i]) ∧ (∀ j, j < k → ldOne (.ptr (some (b, o + j))) H = l[i][j]?) := by
  rcases h.is with ⟨_, rfl⟩ | ⟨a, c, rfl, h2⟩
  · simp at hi
  rcases h2 with rfl | ⟨b, o, B, rfl, hB, hl, hr⟩
  · simp at hi
  · have e := hr i hi
    have hik : i * k + k ≤ l.length * k := by rw [← Nat.succ_mul]; exact Nat.mul_le_mul_right k hi
    refine ⟨b, o + i * k, fun kd => ?_, ?_, fun j hj => ?_⟩
    · simp [idxSl]; omega
    · simp only [ldAgg_ptr, hB, Option.bind_some]
      rw [if_pos (by omega), e]
      rfl
    · simp only [ldOne_ptr, hB, Option.bind_some, ← e]
      rw [List.getElem?_take, if_pos hj, List.getElem?_drop]
theorem Row.alen {P : Program} {t e : TypeId} (hu : P.underlying t = some (.slice e)) {H : AH} {s : AV} {k : Nat} {l : List (List AV)} (h : Row H s k l) : aLen P t s = some (.int .i64 (l.length : Nat)) := by
  unfold aLen
  rw [hu]
  rcases h.is with ⟨rfl, rfl⟩ | ⟨a, c, rfl, h2⟩ <;> rfl
theorem Row.nil (H : AH) (k : Nat) : Row H (.slice none 0 (.kn 0)) k [] := ⟨by simp, .inr ⟨none, _, rfl, .inl rfl⟩⟩
attribute [go_sem] cast2 cast26 cast20 res_m res_next chkL_nil chkL_same aBin_add aBin_sub aBin_mul aBin_lss aBin_leq aBin_gtr aBin_geq aBin_eql aBin_neq cvInt_int asB_bool gdv_bool jn_inl jn_inr Option.bind_some Option.map_some Option.bind_none Option.map_none ptrTo_at slTo_at nilC_at ptrAdd_at aUn_not aUn_neg aExtract_at idxSl_at idxPtr_at ldOne_ptr ldAgg_ptr new_m new_next put_m put_next kill_m kill_next nBox_agg nBox_int bft btf btt bff updL_nil' updL_cons' upd_same upd_ne T0_at if_true if_false ite_true ite_false Bool.false_eq_true Bool.true_eq_false decide_true decide_false Bool.not_true Bool.not_false beq_self_eq_true Nat.zero_add Nat.add_zero Nat.left_eq_add Nat.add_eq_left Nat.add_left_cancel_iff List.getElem?_cons_zero List.getElem?_cons_succ List.getD_cons_zero List.getD_cons_succ List.getD_nil List.length_cons List.length_nil List.drop_zero List.drop_succ_cons List.take_succ_cons List.take_zero List.set_cons_zero List.set_cons_succ List.cons_append List.nil_append and_self and_true true_and not_true_eq_false not_false_eq_true Nat.le_refl Nat.lt_irrefl Nat.zero_lt_succ Nat.mul_one Nat.one_mul Int.toNat_natCast Int.toNat_zero Int.toNat_one Nat.zero_mul
end Go.Ri
/- Slices of one's own, what is appended to them. -/
set_option linter.unusedVariables false
set_option linter.unusedSimpArgs false
namespace Go.Ri

/-- What is known of a slice type: its elements' type, cells and bytes. -/
structure SlT (P : Program) (t e n b : Nat) : Prop where
  under : P.underlying t = some (.slice e)
  info : ∃ i, P.info? e = some i ∧ i.size = n ∧ i.bytes = b
  zero : ∃ z, zeroL P e = some z ∧ z.length = n
  pos : 0 < n
  seq : seqT P t = true
  bpos : 0 < b
theorem slT_info {P : Program} {e n b : Nat} (h : (P.info? e).isSome = true) (h1 : ((P.info? e).map (·.size)).getD 0 = n) (h2 : ((P.info? e).map (·.bytes)).getD 0 = b) : ∃ i, P.info? e = some i ∧ i.size = n ∧ i.bytes = b := by
  obtain ⟨i, hi⟩ := Option.isSome_iff_exists.1 h
  rw [hi] at h1 h2
  exact ⟨i, hi, h1, h2⟩

/-- A slice of one's own, that begins its block: how far it may grow in place is not known, or known. -/
def Own (N sz : Nat) (e : TypeId) (H : AH) (s : AV) (cs : List AV) : Prop :=
  (s = .slice none 0 (.kn 0) ∧ cs = []) ∨ ∃ b n c B, s = .slice (some (b, 0)) n c ∧ (c = .op sz ∨ ∃ m, c = .kn m ∧ n ≤ m ∧ m * sz ≤ B.cells.length) ∧ cs.length = n * sz ∧ H.m b = some B ∧ B.elem = e ∧ B.rw_ = true ∧ n * sz ≤ B.cells.length ∧ B.cells.take (n * sz) = cs ∧ N ≤ b
theorem Own.nil (N sz : Nat) (e : TypeId) (H : AH) : Own N sz e H (.slice none 0 (.kn 0)) [] := .inl ⟨rfl, rfl⟩
theorem Own.mono {N sz : Nat} {e : TypeId} {H H' : AH} {s : AV} {cs : List AV} (h : Own N sz e H s cs) (hs : ∀ b, (∀ n c, s = .slice (some (b, 0)) n c → H'.m b = H.m b)) : Own N sz e H' s cs := by
  rcases h with h | ⟨b, n, c, B, rfl, h2, h3, h4, h5⟩
  · exact .inl h
  · exact .inr ⟨b, n, c, B, rfl, h2, h3, by rw [hs b n c rfl]; exact h4, h5⟩
theorem Own.new {N sz : Nat} {e : TypeId} {H : AH} {s : AV} {cs : List AV} (h : Own N sz e H s cs) (hw : H.wf) (cells : List AV) (e' : TypeId) : Own N sz e (H.new cells e') s cs := by
  rcases h with h | ⟨b, n, c, B, rfl, h2, h3, h4, h5⟩
  · exact .inl h
  · have : b ≠ H.next := by have := hw b _ h4; omega
    exact .inr ⟨b, n, c, B, rfl, h2, h3, by simp [this, h4], h5⟩
theorem Own.made {N sz : Nat} {e : TypeId} {H : AH} {cs : List AV} {n : Nat} (hN : N ≤ H.next) (hl : cs.length = n * sz) : Own N sz e (H.new cs e) (.slice (some (H.next, 0)) n (.kn n)) cs :=
  .inr ⟨H.next, n, _, ⟨cs, e, true⟩, rfl, .inr ⟨n, rfl, Nat.le_refl _, by simp [hl]⟩, hl, by simp, rfl, rfl, by simp [hl], by simp [← hl], hN⟩
theorem Own.low {N M sz : Nat} {e : TypeId} {H : AH} {s : AV} {cs : List AV} (h : Own N sz e H s cs) (hM : M ≤ N) : Own M sz e H s cs := by
  rcases h with h | ⟨b, n, c, B, h1, h2, h3, h4, h5, h6, h7, h8, h9⟩
  · exact .inl h
  · exact .inr ⟨b, n, c, B, h1, h2, h3, h4, h5, h6, h7, h8, Nat.le_trans hM h9⟩
theorem Own.keep {N sz : Nat} {e : TypeId} {H H' : AH} {s : AV} {cs : List AV} (h : Own N sz e H s cs) (hw : H.wf) (hs : ∀ b, b < H.next → H'.m b = H.m b) : Own N sz e H' s cs := by
  rcases h with h | ⟨b, n, c, B, rfl, h2, h3, h4, h5⟩
  · exact .inl h
  · exact .inr ⟨b, n, c, B, rfl, h2, h3, by rw [hs b (hw _ _ h4)]; exact h4, h5⟩
theorem Ext.put {N : Nat} {H0 H : AH} (h : Ext N H0 H) {b : Nat} (hb : N ≤ b) (hb' : b < H.next) (B : Blk) : Ext N H0 (H.put b B) := by
  refine ⟨fun i hi => ?_, h.next, fun i B' hB => ?_⟩
  · have : i ≠ b := by omega
    simp only [put_m, if_neg this]
    exact h.low i hi
  · simp only [put_m, put_next] at hB ⊢
    split at hB
    · omega
    · exact h.wf i B' hB
/-- The slice begins this block. -/
def At (s : AV) (b : Nat) : Prop := ∃ n c, s = .slice (some (b, 0)) n c
theorem At.one {s : AV} {b b' : Nat} (h : At s b) (h' : At s b') : b = b' := by
  obtain ⟨n, c, rfl⟩ := h
  obtain ⟨n', c', h'⟩ := h'
  cases h'
  rfl
theorem Own.at {N sz : Nat} {e : TypeId} {H : AH} {s : AV} {cs : List AV} (h : Own N sz e H s cs) {b : Nat} (ha : At s b) : ∃ B, H.m b = some B ∧ N ≤ b := by
  obtain ⟨n, c, rfl⟩ := ha
  rcases h with ⟨h, _⟩ | ⟨b', n', c', B, h1, h2, h3, h4, h5, h6, h7, h8, h9⟩
  · cases h
  · cases h1
    exact ⟨B, h4, h9⟩

/-- Something is appended to a slice of one's own. -/
theorem app_own {P : Program} {t xt e sz by_ : Nat} (T : SlT P t e sz by_) (hq : seqT P xt = true)
    {N : Nat} {H0 H : AH} {s x : AV} {cs ds : List AV} {n : Nat} (hs : Own N sz e H s cs) (he : Ext N H0 H) (hx : aLenOf x = some n) (hd : srcN sz n x H = some ds) (hdl : ds.length = n * sz)
    (hlim : (cs.length + ds.length) * by_ ≤ 140737488355328 * sz) :
    Ret (aAppend P t xt s x H) fun r => Own N sz e r.2 r.1 (cs ++ ds) ∧ Ext N H0 r.2 ∧ H.next ≤ r.2.next ∧ (∀ b, b < H.next → ¬ At s b → r.2.m b = H.m b) ∧ ∀ b, At r.1 b → At s b ∨ (H.next ≤ b ∧ b < r.2.next) := by
  obtain ⟨i, hi, rfl, rfl⟩ := T.info
  obtain ⟨z, hz, hzl⟩ := T.zero
  have hzp := T.pos
  have hsl : isSl s = true := by
    rcases hs with ⟨rfl, _⟩ | ⟨b, m, c, B, rfl, _⟩ <;> rfl
  unfold aAppend
  simp only [T.under, hi, hz, Option.bind_some]
  rw [if_pos ⟨hq, by omega, hzl, hsl⟩]
  simp only [hx, hd, Option.bind_some]
  have bound : ∀ m : Nat, m * i.size = cs.length + ds.length → m * i.bytes ≤ 140737488355328 ∧ m ≤ 9223372036854775807 := by
    intro m hm
    rw [← hm, Nat.mul_right_comm] at hlim
    have h1 := Nat.le_of_mul_le_mul_right hlim hzp
    have h2 : m ≤ m * i.bytes := Nat.le_mul_of_pos_right m T.bpos
    omega
  cases n with
  | zero =>
    have : ds = [] := List.eq_nil_of_length_eq_zero (by simpa using hdl)
    subst this
    exact .mk ⟨by simpa using hs, he, Nat.le_refl _, fun _ _ _ => rfl, fun b hb => .inl hb⟩
  | succ n =>
    -- a new block
    have fin : ∀ (H1 : AH) (need : Nat), need * i.size = cs.length + ds.length → H1.next = H.next → Ext N H0 H1 → (∀ b, b < H.next → ¬ At s b → H1.m b = H.m b) →
        Ret (grow i.size i.bytes e cs ds need H1) fun r => Own N i.size e r.2 r.1 (cs ++ ds) ∧ Ext N H0 r.2 ∧ H.next ≤ r.2.next ∧ (∀ b, b < H.next → ¬ At s b → r.2.m b = H.m b) ∧ ∀ b, At r.1 b → At s b ∨ (H.next ≤ b ∧ b < r.2.next) := by
      intro H1 need hneed hn1 he1 hk
      simp only [grow]
      rw [if_pos (bound need hneed)]
      refine .mk ⟨.inr ⟨H1.next, need, _, ⟨cs ++ ds, e, true⟩, rfl, .inl rfl, by simp [hneed], by simp, rfl, rfl, by simp [hneed], ?_, he1.next⟩, he1.new _ _, by simp [hn1], fun b hb hne => ?_, fun b hb => .inr ?_⟩
      · exact List.take_of_length_le (by simp [hneed])
      · have : b ≠ H1.next := by omega
        simp only [new_m, if_neg this]
        exact hk b hb hne
      · obtain ⟨n', c', h'⟩ := hb
        cases h'
        simp only [new_next]
        omega
    rcases hs with ⟨rfl, rfl⟩ | ⟨b, m, c, B, rfl, hc, hcl, hb, hbe, hbr, hbl, htk, hN⟩
    · simp only [appTo]
      rw [if_neg (by omega)]
      simp only [oldN, Option.bind_some]
      exact fin H _ (by simp at hdl ⊢; omega) rfl he fun _ _ _ => rfl
    · have hold : oldN i.size m (some (b, 0)) H = some cs := by
        cases m with
        | zero =>
          have : cs = [] := List.eq_nil_of_length_eq_zero (by omega)
          subst this
          rfl
        | succ m =>
          simp only [oldN, AH.ldN, hb, Option.bind_some]
          rw [if_pos (by omega)]
          simp only [List.drop_zero, htk]
      rcases hc with rfl | ⟨mc, rfl, hmc, hmcl⟩
      · simp only [appTo, hb, Option.bind_some]
        rw [if_pos ⟨trivial, hbr, hbe⟩]
        simp only [hold, Option.bind_some]
        refine fin _ _ (by rw [Nat.add_mul, hcl, hdl]) rfl (he.kill hN) fun b' hb' hne => ?_
        have : b' ≠ b := fun e => hne ⟨m, .op i.size, by rw [e]⟩
        simp [this]
      · simp only [appTo]
        by_cases hfit : m + (n + 1) ≤ mc
        · rw [if_pos hfit]
          have hmul : (m + (n + 1)) * i.size ≤ mc * i.size := Nat.mul_le_mul_right _ hfit
          rw [Nat.add_mul] at hmul
          have hst : stAt (b, 0 + m * i.size) ds H = some (H.put b ⟨B.cells.take (m * i.size) ++ ds ++ B.cells.drop (m * i.size + ds.length), B.elem, B.rw_⟩) := by
            cases ds with
            | nil => simp at hdl; have : 0 < (n + 1) * i.size := Nat.mul_pos (by omega) hzp; omega
            | cons y ds =>
              simp only [stAt, AH.st, hb, Option.bind_some, Nat.zero_add]
              rw [if_pos ⟨hbr, by omega⟩]
              rfl
          simp only [hst, Option.map_some]
          refine .mk ⟨.inr ⟨b, m + (n + 1), _, ⟨B.cells.take (m * i.size) ++ ds ++ B.cells.drop (m * i.size + ds.length), B.elem, B.rw_⟩, rfl, .inr ⟨mc, rfl, hfit, ?_⟩, by simp [hcl, hdl, Nat.add_mul], by simp, hbe, hbr, ?_, ?_, hN⟩, he.put hN (he.wf _ _ hb) _, Nat.le_refl _, fun b' hb' hne => ?_, fun b' hb' => .inl ?_⟩
          · rw [List.length_append, List.length_append, List.length_take, List.length_drop]; omega
          · rw [List.length_append, List.length_append, List.length_take, List.length_drop, Nat.add_mul]; omega
          · simp only [htk]
            rw [List.take_append_of_le_length (by simp [Nat.add_mul, hcl, hdl]), List.take_of_length_le (by simp [Nat.add_mul, hcl, hdl])]
          · have : b' ≠ b := fun e => hne ⟨m, .kn mc, by rw [e]⟩
            simp [this]
          · obtain ⟨n', c', h'⟩ := hb'
            cases h'
            exact ⟨m, _, rfl⟩
        · rw [if_neg hfit]
          simp only [hold, Option.bind_some]
          exact fin H _ (by rw [Nat.add_mul, hcl, hdl]) rfl he fun _ _ _ => rfl

/-- One element more. -/
theorem app_el {P : Program} {t e sz by_ : Nat} (T : SlT P t e sz by_) {N : Nat} {H0 H : AH} {s : AV} {cs ds : List AV} (hs : Own N sz e H s cs) (he : Ext N H0 H) (hdl : ds.length = sz)
    (hlim : (cs.length + sz) * by_ ≤ 140737488355328 * sz) :
    Ret (aAppend P t t s (.slice (some (H.next, 0)) 1 (.kn 1)) (H.new ds e)) fun r => Own N sz e r.2 r.1 (cs ++ ds) ∧ Ext N H0 r.2 ∧ H.next < r.2.next ∧ (∀ b, b < H.next → ¬ At s b → r.2.m b = H.m b) ∧ ∀ b, At r.1 b → At s b ∨ (H.next < b ∧ b < r.2.next) := by
  have hpos := T.pos
  refine (app_own (n := 1) (ds := ds) T T.seq (hs.new he.wf ds e) (he.new ds e) rfl ?_ (by omega) (by rw [hdl]; exact hlim)).mono ?_
  · simp only [srcN, AH.ldN, new_m, if_true, Option.bind_some]
    rw [if_pos (by omega)]
    simp [← hdl]
  · rintro r ⟨h1, h2, h3, h4, h5⟩
    refine ⟨h1, h2, h3, fun b hb hne => ?_, fun b hb => (h5 b hb).imp id fun h => by simp only [new_next] at h; omega⟩
    rw [h4 b (Nat.lt_succ_of_lt hb) hne]
    have : b ≠ H.next := by omega
    simp [this]

theorem slSl_ptr (p : Nat × Nat) (n : Nat) (c : Cap) (sz : Nat) (lo hi mx : Option AV) (h : c = .op sz ∨ c.known.isSome = true) : slSl (.slice (some p) n c) sz lo hi mx = (bnds n c.known lo hi mx).bind fun x => some (cutAt p sz x.1 x.2.1 x.2.2) := if_pos h
theorem bnd_nat (k : IntKind) {j y : Nat} (h : j ≤ y) : bnd (.int k (j : Nat)) y = some j := by
  unfold bnd
  split
  · rename_i i he
    cases he
    rw [if_pos (by omega)]
    rfl
  · rename_i h'
    exact absurd rfl (h' k (j : Nat))
/-- The first ones of a slice of one's own. -/
theorem Own.cut {N sz : Nat} {e : TypeId} {H : AH} {s : AV} {cs : List AV} (h : Own N sz e H s cs) {n j : Nat} (hn : cs.length = n * sz) (hpos : 0 < sz) (hj : j ≤ n) (k : IntKind) :
    ∃ s', slSl s sz none (some (.int k (j : Nat))) none = some s' ∧ Own N sz e H s' (cs.take (j * sz)) ∧ ∀ b, At s' b → At s b := by
  rcases h with ⟨rfl, rfl⟩ | ⟨b, m, c, B, rfl, hc, hcl, hb, hbe, hbr, hbl, htk, hN⟩
  · have : n = 0 := by
      have h : n * sz = 0 := hn.symm
      rcases Nat.mul_eq_zero.1 h with h | h
      · exact h
      · omega
    subst this
    have : j = 0 := by omega
    subst this
    exact ⟨.slice none 0 (.kn 0), rfl, .inl ⟨rfl, by simp⟩, fun b h => h⟩
  · have hmn : m = n := Nat.eq_of_mul_eq_mul_right hpos (hcl.symm.trans hn)
    subst hmn
    have hjm : j * sz ≤ m * sz := Nat.mul_le_mul_right _ hj
    refine ⟨.slice (some (b, 0)) j c, ?_, .inr ⟨b, j, c, B, rfl, ?_, by rw [List.length_take, hcl]; omega, hb, hbe, hbr, by omega, ?_, hN⟩, fun b' hb' => ?_⟩
    · rcases hc with rfl | ⟨mc, rfl, hmc, _⟩
      · have h1 : bnds m (Cap.op sz).known none (some (.int k (j : Nat))) none = some (0, j, none) := by
          show (bnd (.int k (j : Nat)) m).bind _ = _
          rw [bnd_nat k hj]
          rfl
        rw [slSl_ptr _ _ _ _ _ _ _ (.inl rfl), h1]
        rfl
      · have h1 : bnds m (Cap.kn mc).known none (some (.int k (j : Nat))) none = some (0, j, some mc) := by
          show (bnd (.int k (j : Nat)) mc).bind _ = _
          rw [bnd_nat k (by omega)]
          rfl
        rw [slSl_ptr _ _ _ _ _ _ _ (.inr rfl), h1]
        rfl
    · rcases hc with rfl | ⟨mc, rfl, hmc, hml⟩
      · exact .inl rfl
      · exact .inr ⟨mc, rfl, by omega, hml⟩
    · rw [← htk, List.take_take]
      congr 1
      omega
    · obtain ⟨n', c', h'⟩ := hb'
      cases h'
      exact ⟨m, c, rfl⟩

theorem Row.src {H : AH} {s : AV} {k : Nat} {l : List (List AV)} (h : Row H s k l) : aLenOf s = some l.length ∧ srcN k l.length s H = some l.flatten := by
  rcases h.is with ⟨rfl, rfl⟩ | ⟨a, c, rfl, h2⟩
  · exact ⟨rfl, rfl⟩
  refine ⟨rfl, ?_⟩
  rcases h2 with rfl | ⟨b, o, B, rfl, hB, hl, hr⟩
  · rfl
  · cases hn : l.length with
    | zero =>
      have : l = [] := List.eq_nil_of_length_eq_zero hn
      subst this
      rfl
    | succ n =>
      simp only [srcN, AH.ldN, hB, Option.bind_some]
      rw [← hn, if_pos hl]
      congr 1
      have key : ∀ (l : List (List AV)) (o : Nat), (∀ x ∈ l, x.length = k) → (∀ i (h : i < l.length), (B.cells.drop (o + i * k)).take k = l[i]) → (B.cells.drop o).take (l.length * k) = l.flatten := by
        intro l
        induction l with
        | nil => intro o _ _; simp
        | cons x l ih =>
          intro o hx hr
          have h0 : (B.cells.drop o).take k = x := by
            have := hr 0 (by simp)
            rw [Nat.zero_mul, Nat.add_zero] at this
            exact this
          have ih' := ih (o + k) (fun y hy => hx y (by simp [hy])) fun i hi => by
            have := hr (i + 1) (by simp; omega)
            rw [Nat.add_mul, Nat.one_mul] at this
            rw [show o + k + i * k = o + (i * k + k) by omega]
            simpa using this
          rw [List.flatten_cons, List.length_cons, Nat.succ_mul, Nat.add_comm (l.length * k) k, List.take_add, h0, List.drop_drop, ih']
      exact key l o h.len hr
/-- What one has made, read as a row. -/
theorem flat_at {k : Nat} : ∀ (l : List (List AV)), (∀ x ∈ l, x.length = k) → ∀ i (h : i < l.length), (l.flatten.drop (i * k)).take k = l[i]
  | [], _, i, h => by simp at h
  | x :: l, hx, 0, h => by
    have h1 := hx x (by simp)
    rw [List.flatten_cons, Nat.zero_mul, List.drop_zero, List.take_append_of_le_length (by omega), List.take_of_length_le (by omega)]
    rfl
  | x :: l, hx, i + 1, h => by
    have := flat_at l (fun y hy => hx y (by simp [hy])) i (by simpa using h)
    have h1 := hx x (by simp)
    rw [List.flatten_cons, Nat.succ_mul, Nat.add_comm, ← List.drop_drop, ← h1, List.drop_left, h1, this]
    rfl
theorem flat_len {k : Nat} : ∀ (l : List (List AV)), (∀ x ∈ l, x.length = k) → l.flatten.length = l.length * k
  | [], _ => by simp
  | x :: l, hx => by
    have := flat_len l fun y hy => hx y (by simp [hy])
    simp [this, hx x (by simp), Nat.succ_mul, Nat.add_comm]
theorem Own.row {N sz : Nat} {e : TypeId} {H : AH} {s : AV} {l : List (List AV)} (hpos : 0 < sz) (h : Own N sz e H s l.flatten) (hl : ∀ x ∈ l, x.length = sz) : Row H s sz l := by
  refine ⟨hl, ?_⟩
  have hfl := flat_len l hl
  rcases h with ⟨rfl, h⟩ | ⟨b, n, c, B, rfl, hc, hcl, hb, hbe, hbr, hbl, htk, hN⟩
  · have : l.length * sz = 0 := by rw [← hfl, h]; rfl
    have hl0 : l.length = 0 := by
      rcases Nat.mul_eq_zero.1 this with h | h
      · exact h
      · omega
    have : l = [] := List.eq_nil_of_length_eq_zero hl0
    subst this
    exact .inr ⟨none, _, rfl, .inl rfl⟩
  · have hn : n = l.length := by
      rw [hcl] at hfl
      exact Nat.eq_of_mul_eq_mul_right hpos hfl
    subst hn
    refine .inr ⟨some (b, 0), c, rfl, .inr ⟨b, 0, B, rfl, hb, by omega, fun i hi => ?_⟩⟩
    rw [← flat_at l hl i hi, ← htk, Nat.zero_add, List.drop_take, List.take_take]
    congr 1
    have : i * sz + sz ≤ l.length * sz := by rw [← Nat.succ_mul]; exact Nat.mul_le_mul_right sz hi
    omega
end Go.Ri
/- Facts on the program's types, by the kernel. Printed by a program of ours (ty.py). -/
set_option linter.unusedVariables false
set_option maxRecDepth 100000
namespace Go.Proofs.YthiflgncldmkjaaDoor
open Go.Ri
@[simp] theorem ylen22 (p : Option (Nat × Nat)) (n : Nat) (c : Cap) : aLen Tryd.prog 22 (.slice p n c) = some (.int .i64 (n : Nat)) := by kernel_rfl
@[simp] theorem ylen36 (p : Option (Nat × Nat)) (n : Nat) (c : Cap) : aLen Tryd.prog 36 (.slice p n c) = some (.int .i64 (n : Nat)) := by kernel_rfl
@[simp] theorem ylen40 (p : Option (Nat × Nat)) (n : Nat) (c : Cap) : aLen Tryd.prog 40 (.slice p n c) = some (.int .i64 (n : Nat)) := by kernel_rfl
@[simp] theorem ylen51 (p : Option (Nat × Nat)) (n : Nat) (c : Cap) : aLen Tryd.prog 51 (.slice p n c) = some (.int .i64 (n : Nat)) := by kernel_rfl
@[simp] theorem ylen61 (p : Option (Nat × Nat)) (n : Nat) (c : Cap) : aLen Tryd.prog 61 (.slice p n c) = some (.int .i64 (n : Nat)) := by kernel_rfl
@[simp] theorem ylen73 (p : Option (Nat × Nat)) (n : Nat) (c : Cap) : aLen Tryd.prog 73 (.slice p n c) = some (.int .i64 (n : Nat)) := by kernel_rfl
@[simp] theorem ylen90 (p : Option (Nat × Nat)) (n : Nat) (c : Cap) : aLen Tryd.prog 90 (.slice p n c) = some (.int .i64 (n : Nat)) := by kernel_rfl
@[simp] theorem ylen112 (p : Option (Nat × Nat)) (n : Nat) (c : Cap) : aLen Tryd.prog 112 (.slice p n c) = some (.int .i64 (n : Nat)) := by kernel_rfl
@[simp] theorem ylen139 (p : Option (Nat × Nat)) (n : Nat) (c : Cap) : aLen Tryd.prog 139 (.slice p n c) = some (.int .i64 (n : Nat)) := by kernel_rfl
@[simp] theorem ylen9 (s : ByteArray) : aLen Tryd.prog 9 (.str s) = some (.int .i64 (s.size : Nat)) := by kernel_rfl
@[simp] theorem yalloc24 : nAlloc Tryd.prog 24 = some ⟨[.slice none 0 (.kn 0), .int .i64 0, .int .i64 0, .bool false], 24, ptrTo⟩ := by kernel_rfl
@[simp] theorem yalloc29 : nAlloc Tryd.prog 29 = some ⟨[.int .i64 0, .int .i64 0, .int .i64 0], 29, ptrTo⟩ := by kernel_rfl
@[simp] theorem yalloc64 : nAlloc Tryd.prog 64 = some ⟨[.int .i64 0, .int .i64 0], 64, ptrTo⟩ := by kernel_rfl
@[simp] theorem yalloc75 : nAlloc Tryd.prog 75 = some ⟨[.int .i64 0, .int .i64 0, .int .i64 0, .int .i64 0], 75, ptrTo⟩ := by kernel_rfl
@[simp] theorem yalloc108 : nAlloc Tryd.prog 108 = some ⟨[.int .i64 0, .int .i64 0, .slice none 0 (.kn 0)], 108, ptrTo⟩ := by kernel_rfl
@[simp] theorem yalloc114 : nAlloc Tryd.prog 114 = some ⟨[.slice none 0 (.kn 0), .slice none 0 (.kn 0), .slice none 0 (.kn 0), .int .i64 0, .int .i64 0, .int .i64 0, .int .i64 0, .int .i64 0, .int .i64 0, .int .i64 0, .slice none 0 (.kn 0), .bool false], 114, ptrTo⟩ := by kernel_rfl
@[simp] theorem yalloc120 : nAlloc Tryd.prog 120 = some ⟨[.int .i64 0, .int .i64 0, .int .i64 0, .slice none 0 (.kn 0), .slice none 0 (.kn 0)], 120, ptrTo⟩ := by kernel_rfl
@[simp] theorem yalloc127 : nAlloc Tryd.prog 127 = some ⟨[.int .i64 0, .int .i64 0, .int .i64 0, .slice none 0 (.kn 0), .slice none 0 (.kn 0)], 127, ptrTo⟩ := by kernel_rfl
@[simp] theorem yalloc133 : nAlloc Tryd.prog 133 = some ⟨[.str ⟨#[]⟩, .int .i64 0, .int .i64 0, .int .i64 0], 133, ptrTo⟩ := by kernel_rfl
@[simp] theorem yalloc141 : nAlloc Tryd.prog 141 = some ⟨[.slice none 0 (.kn 0), .slice none 0 (.kn 0), .slice none 0 (.kn 0)], 141, ptrTo⟩ := by kernel_rfl
@[simp] theorem ybs22 (a b c : AV) : nBuildSlice Tryd.prog 22 1 [(0, .agg [a, b, c])] = some ⟨[a, b, c], 29, slTo 1 1⟩ := by kernel_rfl
@[simp] theorem ybs22_2 (a b c d e f : AV) : nBuildSlice Tryd.prog 22 2 [(0, .agg [a, b, c]), (1, .agg [d, e, f])] = some ⟨[a, b, c, d, e, f], 29, slTo 2 2⟩ := by kernel_rfl
@[simp] theorem ybs36 (a b c d : AV) : nBuildSlice Tryd.prog 36 1 [(0, .agg [a, b, c, d])] = some ⟨[a, b, c, d], 24, slTo 1 1⟩ := by kernel_rfl
@[simp] theorem ybs61 (a b : AV) : nBuildSlice Tryd.prog 61 1 [(0, .agg [a, b])] = some ⟨[a, b], 64, slTo 1 1⟩ := by kernel_rfl
@[simp] theorem ybs73 (a b c d e : AV) : nBuildSlice Tryd.prog 73 1 [(0, .agg [a, b, c, d, e])] = some ⟨[a, b, c, d, e], 127, slTo 1 1⟩ := by kernel_rfl
@[simp] theorem ybs40 (k : IntKind) (n : Int) : nBuildSlice Tryd.prog 40 1 [(0, .int k n)] = some ⟨[.int k n], 3, slTo 1 1⟩ := by kernel_rfl
@[simp] theorem ybs40_2 (k k2 : IntKind) (n m : Int) : nBuildSlice Tryd.prog 40 2 [(0, .int k n), (1, .int k2 m)] = some ⟨[.int k n, .int k2 m], 3, slTo 2 2⟩ := by kernel_rfl
@[simp] theorem ybs51 (k : IntKind) (n : Int) : nBuildSlice Tryd.prog 51 1 [(0, .int k n)] = some ⟨[.int k n], 2, slTo 1 1⟩ := by kernel_rfl
@[simp] theorem ybs51_2 (k k2 : IntKind) (n m : Int) : nBuildSlice Tryd.prog 51 2 [(0, .int k n), (1, .int k2 m)] = some ⟨[.int k n, .int k2 m], 2, slTo 2 2⟩ := by kernel_rfl
@[simp] theorem ybs112 (p : Option (Nat × Nat)) : nBuildSlice Tryd.prog 112 1 [(0, .ptr p)] = some ⟨[.ptr p], 116, slTo 1 1⟩ := by kernel_rfl
theorem yinf2 : (Tryd.prog.info? 2).isSome = true := by kernel_rfl
theorem ycel2 : Tryd.prog.cellsOf 2 = 1 := by kernel_rfl
theorem yinf3 : (Tryd.prog.info? 3).isSome = true := by kernel_rfl
theorem ycel3 : Tryd.prog.cellsOf 3 = 1 := by kernel_rfl
theorem yinf4 : (Tryd.prog.info? 4).isSome = true := by kernel_rfl
theorem ycel4 : Tryd.prog.cellsOf 4 = 1 := by kernel_rfl
theorem yinf5 : (Tryd.prog.info? 5).isSome = true := by kernel_rfl
theorem ycel5 : Tryd.prog.cellsOf 5 = 1 := by kernel_rfl
theorem yinf22 : (Tryd.prog.info? 22).isSome = true := by kernel_rfl
theorem ycel22 : Tryd.prog.cellsOf 22 = 1 := by kernel_rfl
theorem yinf36 : (Tryd.prog.info? 36).isSome = true := by kernel_rfl
theorem ycel36 : Tryd.prog.cellsOf 36 = 1 := by kernel_rfl
theorem yinf40 : (Tryd.prog.info? 40).isSome = true := by kernel_rfl
theorem ycel40 : Tryd.prog.cellsOf 40 = 1 := by kernel_rfl
theorem yinf51 : (Tryd.prog.info? 51).isSome = true := by kernel_rfl
theorem ycel51 : Tryd.prog.cellsOf 51 = 1 := by kernel_rfl
theorem yinf61 : (Tryd.prog.info? 61).isSome = true := by kernel_rfl
theorem ycel61 : Tryd.prog.cellsOf 61 = 1 := by kernel_rfl
theorem yinf73 : (Tryd.prog.info? 73).isSome = true := by kernel_rfl
theorem ycel73 : Tryd.prog.cellsOf 73 = 1 := by kernel_rfl
theorem yinf112 : (Tryd.prog.info? 112).isSome = true := by kernel_rfl
theorem ycel112 : Tryd.prog.cellsOf 112 = 1 := by kernel_rfl
theorem yinf29 : (Tryd.prog.info? 29).isSome = true := by kernel_rfl
theorem ycel29 : Tryd.prog.cellsOf 29 = 3 := by kernel_rfl
theorem yinf24 : (Tryd.prog.info? 24).isSome = true := by kernel_rfl
theorem ycel24 : Tryd.prog.cellsOf 24 = 4 := by kernel_rfl
theorem yinf64 : (Tryd.prog.info? 64).isSome = true := by kernel_rfl
theorem ycel64 : Tryd.prog.cellsOf 64 = 2 := by kernel_rfl
theorem yinf75 : (Tryd.prog.info? 75).isSome = true := by kernel_rfl
theorem ycel75 : Tryd.prog.cellsOf 75 = 4 := by kernel_rfl
theorem yinf108 : (Tryd.prog.info? 108).isSome = true := by kernel_rfl
theorem ycel108 : Tryd.prog.cellsOf 108 = 3 := by kernel_rfl
theorem yinf114 : (Tryd.prog.info? 114).isSome = true := by kernel_rfl
theorem ycel114 : Tryd.prog.cellsOf 114 = 12 := by kernel_rfl
theorem yinf120 : (Tryd.prog.info? 120).isSome = true := by kernel_rfl
theorem ycel120 : Tryd.prog.cellsOf 120 = 5 := by kernel_rfl
theorem yinf127 : (Tryd.prog.info? 127).isSome = true := by kernel_rfl
theorem ycel127 : Tryd.prog.cellsOf 127 = 5 := by kernel_rfl
theorem yinf133 : (Tryd.prog.info? 133).isSome = true := by kernel_rfl
theorem ycel133 : Tryd.prog.cellsOf 133 = 4 := by kernel_rfl
theorem yinf141 : (Tryd.prog.info? 141).isSome = true := by kernel_rfl
theorem ycel141 : Tryd.prog.cellsOf 141 = 3 := by kernel_rfl
@[simp] theorem ystore2 (b i : Nat) (k : IntKind) (x : Int) (H : AH) : aStore Tryd.prog 2 (.ptr (some (b, i))) (.int k x) H = (H.m b).bind fun B => if B.rw_ = true ∧ i < B.cells.length then some (H.put b ⟨B.cells.set i (.int k x), B.elem, B.rw_⟩) else none := aStore_one yinf2 ycel2 rfl b i H
@[simp] theorem ystore3 (b i : Nat) (k : IntKind) (x : Int) (H : AH) : aStore Tryd.prog 3 (.ptr (some (b, i))) (.int k x) H = (H.m b).bind fun B => if B.rw_ = true ∧ i < B.cells.length then some (H.put b ⟨B.cells.set i (.int k x), B.elem, B.rw_⟩) else none := aStore_one yinf3 ycel3 rfl b i H
@[simp] theorem ystore5 (b i : Nat) (k : IntKind) (x : Int) (H : AH) : aStore Tryd.prog 5 (.ptr (some (b, i))) (.int k x) H = (H.m b).bind fun B => if B.rw_ = true ∧ i < B.cells.length then some (H.put b ⟨B.cells.set i (.int k x), B.elem, B.rw_⟩) else none := aStore_one yinf5 ycel5 rfl b i H
@[simp] theorem ystore4 (b i : Nat) (x : Bool) (H : AH) : aStore Tryd.prog 4 (.ptr (some (b, i))) (.bool x) H = (H.m b).bind fun B => if B.rw_ = true ∧ i < B.cells.length then some (H.put b ⟨B.cells.set i (.bool x), B.elem, B.rw_⟩) else none := aStore_one yinf4 ycel4 rfl b i H
@[simp] theorem ystore22 (b i : Nat) (p : Option (Nat × Nat)) (n : Nat) (c : Cap) (H : AH) : aStore Tryd.prog 22 (.ptr (some (b, i))) (.slice p n c) H = (H.m b).bind fun B => if B.rw_ = true ∧ i < B.cells.length then some (H.put b ⟨B.cells.set i (.slice p n c), B.elem, B.rw_⟩) else none := aStore_one yinf22 ycel22 rfl b i H
@[simp] theorem ystore36 (b i : Nat) (p : Option (Nat × Nat)) (n : Nat) (c : Cap) (H : AH) : aStore Tryd.prog 36 (.ptr (some (b, i))) (.slice p n c) H = (H.m b).bind fun B => if B.rw_ = true ∧ i < B.cells.length then some (H.put b ⟨B.cells.set i (.slice p n c), B.elem, B.rw_⟩) else none := aStore_one yinf36 ycel36 rfl b i H
@[simp] theorem ystore40 (b i : Nat) (p : Option (Nat × Nat)) (n : Nat) (c : Cap) (H : AH) : aStore Tryd.prog 40 (.ptr (some (b, i))) (.slice p n c) H = (H.m b).bind fun B => if B.rw_ = true ∧ i < B.cells.length then some (H.put b ⟨B.cells.set i (.slice p n c), B.elem, B.rw_⟩) else none := aStore_one yinf40 ycel40 rfl b i H
@[simp] theorem ystore51 (b i : Nat) (p : Option (Nat × Nat)) (n : Nat) (c : Cap) (H : AH) : aStore Tryd.prog 51 (.ptr (some (b, i))) (.slice p n c) H = (H.m b).bind fun B => if B.rw_ = true ∧ i < B.cells.length then some (H.put b ⟨B.cells.set i (.slice p n c), B.elem, B.rw_⟩) else none := aStore_one yinf51 ycel51 rfl b i H
@[simp] theorem ystore61 (b i : Nat) (p : Option (Nat × Nat)) (n : Nat) (c : Cap) (H : AH) : aStore Tryd.prog 61 (.ptr (some (b, i))) (.slice p n c) H = (H.m b).bind fun B => if B.rw_ = true ∧ i < B.cells.length then some (H.put b ⟨B.cells.set i (.slice p n c), B.elem, B.rw_⟩) else none := aStore_one yinf61 ycel61 rfl b i H
@[simp] theorem ystore73 (b i : Nat) (p : Option (Nat × Nat)) (n : Nat) (c : Cap) (H : AH) : aStore Tryd.prog 73 (.ptr (some (b, i))) (.slice p n c) H = (H.m b).bind fun B => if B.rw_ = true ∧ i < B.cells.length then some (H.put b ⟨B.cells.set i (.slice p n c), B.elem, B.rw_⟩) else none := aStore_one yinf73 ycel73 rfl b i H
@[simp] theorem ystore112 (b i : Nat) (p : Option (Nat × Nat)) (n : Nat) (c : Cap) (H : AH) : aStore Tryd.prog 112 (.ptr (some (b, i))) (.slice p n c) H = (H.m b).bind fun B => if B.rw_ = true ∧ i < B.cells.length then some (H.put b ⟨B.cells.set i (.slice p n c), B.elem, B.rw_⟩) else none := aStore_one yinf112 ycel112 rfl b i H
@[simp] theorem ystore29 (b i : Nat) (cs : List AV) (H : AH) : aStore Tryd.prog 29 (.ptr (some (b, i))) (.agg cs) H = if cs.length = 3 then (H.m b).bind fun B => if B.rw_ = true ∧ i + 3 ≤ B.cells.length then some (H.put b ⟨B.cells.take i ++ cs ++ B.cells.drop (i + 3), B.elem, B.rw_⟩) else none else none := aStore_agg yinf29 ycel29 b i cs H
@[simp] theorem ystore24 (b i : Nat) (cs : List AV) (H : AH) : aStore Tryd.prog 24 (.ptr (some (b, i))) (.agg cs) H = if cs.length = 4 then (H.m b).bind fun B => if B.rw_ = true ∧ i + 4 ≤ B.cells.length then some (H.put b ⟨B.cells.take i ++ cs ++ B.cells.drop (i + 4), B.elem, B.rw_⟩) else none else none := aStore_agg yinf24 ycel24 b i cs H
@[simp] theorem ystore64 (b i : Nat) (cs : List AV) (H : AH) : aStore Tryd.prog 64 (.ptr (some (b, i))) (.agg cs) H = if cs.length = 2 then (H.m b).bind fun B => if B.rw_ = true ∧ i + 2 ≤ B.cells.length then some (H.put b ⟨B.cells.take i ++ cs ++ B.cells.drop (i + 2), B.elem, B.rw_⟩) else none else none := aStore_agg yinf64 ycel64 b i cs H
@[simp] theorem ystore75 (b i : Nat) (cs : List AV) (H : AH) : aStore Tryd.prog 75 (.ptr (some (b, i))) (.agg cs) H = if cs.length = 4 then (H.m b).bind fun B => if B.rw_ = true ∧ i + 4 ≤ B.cells.length then some (H.put b ⟨B.cells.take i ++ cs ++ B.cells.drop (i + 4), B.elem, B.rw_⟩) else none else none := aStore_agg yinf75 ycel75 b i cs H
@[simp] theorem ystore108 (b i : Nat) (cs : List AV) (H : AH) : aStore Tryd.prog 108 (.ptr (some (b, i))) (.agg cs) H = if cs.length = 3 then (H.m b).bind fun B => if B.rw_ = true ∧ i + 3 ≤ B.cells.length then some (H.put b ⟨B.cells.take i ++ cs ++ B.cells.drop (i + 3), B.elem, B.rw_⟩) else none else none := aStore_agg yinf108 ycel108 b i cs H
@[simp] theorem ystore114 (b i : Nat) (cs : List AV) (H : AH) : aStore Tryd.prog 114 (.ptr (some (b, i))) (.agg cs) H = if cs.length = 12 then (H.m b).bind fun B => if B.rw_ = true ∧ i + 12 ≤ B.cells.length then some (H.put b ⟨B.cells.take i ++ cs ++ B.cells.drop (i + 12), B.elem, B.rw_⟩) else none else none := aStore_agg yinf114 ycel114 b i cs H
@[simp] theorem ystore120 (b i : Nat) (cs : List AV) (H : AH) : aStore Tryd.prog 120 (.ptr (some (b, i))) (.agg cs) H = if cs.length = 5 then (H.m b).bind fun B => if B.rw_ = true ∧ i + 5 ≤ B.cells.length then some (H.put b ⟨B.cells.take i ++ cs ++ B.cells.drop (i + 5), B.elem, B.rw_⟩) else none else none := aStore_agg yinf120 ycel120 b i cs H
@[simp] theorem ystore127 (b i : Nat) (cs : List AV) (H : AH) : aStore Tryd.prog 127 (.ptr (some (b, i))) (.agg cs) H = if cs.length = 5 then (H.m b).bind fun B => if B.rw_ = true ∧ i + 5 ≤ B.cells.length then some (H.put b ⟨B.cells.take i ++ cs ++ B.cells.drop (i + 5), B.elem, B.rw_⟩) else none else none := aStore_agg yinf127 ycel127 b i cs H
@[simp] theorem ystore133 (b i : Nat) (cs : List AV) (H : AH) : aStore Tryd.prog 133 (.ptr (some (b, i))) (.agg cs) H = if cs.length = 4 then (H.m b).bind fun B => if B.rw_ = true ∧ i + 4 ≤ B.cells.length then some (H.put b ⟨B.cells.take i ++ cs ++ B.cells.drop (i + 4), B.elem, B.rw_⟩) else none else none := aStore_agg yinf133 ycel133 b i cs H
@[simp] theorem ystore141 (b i : Nat) (cs : List AV) (H : AH) : aStore Tryd.prog 141 (.ptr (some (b, i))) (.agg cs) H = if cs.length = 3 then (H.m b).bind fun B => if B.rw_ = true ∧ i + 3 ≤ B.cells.length then some (H.put b ⟨B.cells.take i ++ cs ++ B.cells.drop (i + 3), B.elem, B.rw_⟩) else none else none := aStore_agg yinf141 ycel141 b i cs H
@[simp] theorem ybuild29_  : aBuild Tryd.prog 29 [] = some (.agg [.int .i64 0, .int .i64 0, .int .i64 0]) := by kernel_rfl
@[simp] theorem ybuild29_0i (k0 : IntKind) (a0 : Int) : aBuild Tryd.prog 29 [(0, .int k0 a0)] = some (.agg [.int k0 a0, .int .i64 0, .int .i64 0]) := by kernel_rfl
@[simp] theorem ybuild29_0i1i (k0 : IntKind) (a0 : Int) (k1 : IntKind) (a1 : Int) : aBuild Tryd.prog 29 [(0, .int k0 a0), (1, .int k1 a1)] = some (.agg [.int k0 a0, .int k1 a1, .int .i64 0]) := by kernel_rfl
@[simp] theorem ybuild29_0i2i (k0 : IntKind) (a0 : Int) (k2 : IntKind) (a2 : Int) : aBuild Tryd.prog 29 [(0, .int k0 a0), (2, .int k2 a2)] = some (.agg [.int k0 a0, .int .i64 0, .int k2 a2]) := by kernel_rfl
@[simp] theorem ybuild29_0i1i2i (k0 : IntKind) (a0 : Int) (k1 : IntKind) (a1 : Int) (k2 : IntKind) (a2 : Int) : aBuild Tryd.prog 29 [(0, .int k0 a0), (1, .int k1 a1), (2, .int k2 a2)] = some (.agg [.int k0 a0, .int k1 a1, .int k2 a2]) := by kernel_rfl
@[simp] theorem ybuild24_  : aBuild Tryd.prog 24 [] = some (.agg [.slice none 0 (.kn 0), .int .i64 0, .int .i64 0, .bool false]) := by kernel_rfl
@[simp] theorem ybuild24_0s (p0 : Option (Nat × Nat)) (n0 : Nat) (c0 : Cap) : aBuild Tryd.prog 24 [(0, .slice p0 n0 c0)] = some (.agg [.slice p0 n0 c0, .int .i64 0, .int .i64 0, .bool false]) := by kernel_rfl
@[simp] theorem ybuild24_1i (k1 : IntKind) (a1 : Int) : aBuild Tryd.prog 24 [(1, .int k1 a1)] = some (.agg [.slice none 0 (.kn 0), .int k1 a1, .int .i64 0, .bool false]) := by kernel_rfl
@[simp] theorem ybuild64_  : aBuild Tryd.prog 64 [] = some (.agg [.int .i64 0, .int .i64 0]) := by kernel_rfl
@[simp] theorem ybuild64_0i (k0 : IntKind) (a0 : Int) : aBuild Tryd.prog 64 [(0, .int k0 a0)] = some (.agg [.int k0 a0, .int .i64 0]) := by kernel_rfl
@[simp] theorem ybuild64_0i1i (k0 : IntKind) (a0 : Int) (k1 : IntKind) (a1 : Int) : aBuild Tryd.prog 64 [(0, .int k0 a0), (1, .int k1 a1)] = some (.agg [.int k0 a0, .int k1 a1]) := by kernel_rfl
@[simp] theorem ybuild75_  : aBuild Tryd.prog 75 [] = some (.agg [.int .i64 0, .int .i64 0, .int .i64 0, .int .i64 0]) := by kernel_rfl
@[simp] theorem ybuild75_0i1i2i3i (k0 : IntKind) (a0 : Int) (k1 : IntKind) (a1 : Int) (k2 : IntKind) (a2 : Int) (k3 : IntKind) (a3 : Int) : aBuild Tryd.prog 75 [(0, .int k0 a0), (1, .int k1 a1), (2, .int k2 a2), (3, .int k3 a3)] = some (.agg [.int k0 a0, .int k1 a1, .int k2 a2, .int k3 a3]) := by kernel_rfl
@[simp] theorem ybuild108_  : aBuild Tryd.prog 108 [] = some (.agg [.int .i64 0, .int .i64 0, .slice none 0 (.kn 0)]) := by kernel_rfl
@[simp] theorem ybuild108_0i1i2s (k0 : IntKind) (a0 : Int) (k1 : IntKind) (a1 : Int) (p2 : Option (Nat × Nat)) (n2 : Nat) (c2 : Cap) : aBuild Tryd.prog 108 [(0, .int k0 a0), (1, .int k1 a1), (2, .slice p2 n2 c2)] = some (.agg [.int k0 a0, .int k1 a1, .slice p2 n2 c2]) := by kernel_rfl
@[simp] theorem ybuild118_0i2i (k0 : IntKind) (a0 : Int) (k2 : IntKind) (a2 : Int) : aBuild Tryd.prog 118 [(0, .int k0 a0), (2, .int k2 a2)] = some (.agg [.int k0 a0, .int .i64 0, .int k2 a2]) := by kernel_rfl
@[simp] theorem ybuild114_2s4i (p2 : Option (Nat × Nat)) (n2 : Nat) (c2 : Cap) (k4 : IntKind) (a4 : Int) : aBuild Tryd.prog 114 [(2, .slice p2 n2 c2), (4, .int k4 a4)] = some (.agg [.slice none 0 (.kn 0), .slice none 0 (.kn 0), .slice p2 n2 c2, .int .i64 0, .int k4 a4, .int .i64 0, .int .i64 0, .int .i64 0, .int .i64 0, .int .i64 0, .slice none 0 (.kn 0), .bool false]) := by kernel_rfl
@[simp] theorem ybuild100 (p : Option (Nat × Nat)) (n : Nat) (c : Cap) (a b d e : AV) : aBuild Tryd.prog 100 [(0, .slice p n c), (1, .agg [a, b, d, e])] = some (.agg [.slice p n c, a, b, d, e, .slice none 0 (.kn 0)]) := by kernel_rfl
@[simp] theorem ybuild120 (a b d : AV) (p : Option (Nat × Nat)) (n : Nat) (c : Cap) : aBuild Tryd.prog 120 [(0, .agg [a, b, d]), (1, .slice p n c)] = some (.agg [a, b, d, .slice p n c, .slice none 0 (.kn 0)]) := by kernel_rfl
@[simp] theorem ybuild127 (k j : IntKind) (a b : Int) (p : Option (Nat × Nat)) (n : Nat) (c : Cap) : aBuild Tryd.prog 127 [(0, .int k a), (2, .int j b), (3, .slice p n c)] = some (.agg [.int k a, .int .i64 0, .int j b, .slice p n c, .slice none 0 (.kn 0)]) := by kernel_rfl
@[simp] theorem ybuild141 (p q r : Option (Nat × Nat)) (n m l : Nat) (c d e : Cap) : aBuild Tryd.prog 141 [(0, .slice p n c), (1, .slice q m d), (2, .slice r l e)] = some (.agg [.slice p n c, .slice q m d, .slice r l e]) := by kernel_rfl
@[simp] theorem ybuild141_0 : aBuild Tryd.prog 141 [] = some (.agg [.slice none 0 (.kn 0), .slice none 0 (.kn 0), .slice none 0 (.kn 0)]) := by kernel_rfl
@[simp] theorem ybuild148 (p q r : Option (Nat × Nat)) (n m l : Nat) (c d e : Cap) : aBuild Tryd.prog 148 [(0, .slice p n c), (1, .slice q m d), (2, .slice r l e)] = some (.agg [.slice p n c, .slice q m d, .slice r l e]) := by kernel_rfl
@[simp] theorem ybuild91 (k j : IntKind) (n m : Int) : aBuild Tryd.prog 91 [(0, .int k n), (1, .int j m)] = some (.agg [.int k n, .int j m]) := by kernel_rfl
@[simp] theorem yfld108_0 (a b c : AV) : aField Tryd.prog 108 0 (.agg [a, b, c]) = some a := by kernel_rfl
@[simp] theorem yfld133_2 (a b c d : AV) : aField Tryd.prog 133 2 (.agg [a, b, c, d]) = some c := by kernel_rfl
theorem ysl22 : SlT Tryd.prog 22 29 3 24 :=
  ⟨by kernel_rfl, slT_info (by kernel_rfl) (by kernel_rfl) (by kernel_rfl), ⟨[.int .i64 0, .int .i64 0, .int .i64 0], by kernel_rfl, rfl⟩, by decide, by kernel_rfl, by decide⟩
theorem ysl36 : SlT Tryd.prog 36 24 4 48 :=
  ⟨by kernel_rfl, slT_info (by kernel_rfl) (by kernel_rfl) (by kernel_rfl), ⟨[.slice none 0 (.kn 0), .int .i64 0, .int .i64 0, .bool false], by kernel_rfl, rfl⟩, by decide, by kernel_rfl, by decide⟩
theorem ysl40 : SlT Tryd.prog 40 3 1 8 :=
  ⟨by kernel_rfl, slT_info (by kernel_rfl) (by kernel_rfl) (by kernel_rfl), ⟨[.int .i64 0], by kernel_rfl, rfl⟩, by decide, by kernel_rfl, by decide⟩
theorem ysl51 : SlT Tryd.prog 51 2 1 8 :=
  ⟨by kernel_rfl, slT_info (by kernel_rfl) (by kernel_rfl) (by kernel_rfl), ⟨[.int .i64 0], by kernel_rfl, rfl⟩, by decide, by kernel_rfl, by decide⟩
theorem ysl61 : SlT Tryd.prog 61 64 2 16 :=
  ⟨by kernel_rfl, slT_info (by kernel_rfl) (by kernel_rfl) (by kernel_rfl), ⟨[.int .i64 0, .int .i64 0], by kernel_rfl, rfl⟩, by decide, by kernel_rfl, by decide⟩
theorem ysl73 : SlT Tryd.prog 73 127 5 72 :=
  ⟨by kernel_rfl, slT_info (by kernel_rfl) (by kernel_rfl) (by kernel_rfl), ⟨[.int .i64 0, .int .i64 0, .int .i64 0, .slice none 0 (.kn 0), .slice none 0 (.kn 0)], by kernel_rfl, rfl⟩, by decide, by kernel_rfl, by decide⟩
theorem ysl112 : SlT Tryd.prog 112 116 1 8 :=
  ⟨by kernel_rfl, slT_info (by kernel_rfl) (by kernel_rfl) (by kernel_rfl), ⟨[.ptr none], by kernel_rfl, rfl⟩, by decide, by kernel_rfl, by decide⟩
theorem ysl87 : SlT Tryd.prog 87 5 1 1 :=
  ⟨by kernel_rfl, slT_info (by kernel_rfl) (by kernel_rfl) (by kernel_rfl), ⟨[.int .u8 0], by kernel_rfl, rfl⟩, by decide, by kernel_rfl, by decide⟩
theorem ysl90 : SlT Tryd.prog 90 9 1 16 :=
  ⟨by kernel_rfl, slT_info (by kernel_rfl) (by kernel_rfl) (by kernel_rfl), ⟨[.str ⟨#[]⟩], by kernel_rfl, rfl⟩, by decide, by kernel_rfl, by decide⟩
attribute [go_sem] ylen22 ylen36 ylen40 ylen51 ylen61 ylen73 ylen90 ylen112 ylen139 ylen9 yalloc24 yalloc29 yalloc64 yalloc75 yalloc108 yalloc114 yalloc120 yalloc127 yalloc133 yalloc141 ybs22 ybs22_2 ybs36 ybs61 ybs73 ybs40 ybs40_2 ybs51 ybs51_2 ybs112 ystore2 ystore3 ystore5 ystore4 ystore22 ystore36 ystore40 ystore51 ystore61 ystore73 ystore112 ystore29 ystore24 ystore64 ystore75 ystore108 ystore114 ystore120 ystore127 ystore133 ystore141 ybuild29_ ybuild29_0i ybuild29_0i1i ybuild29_0i2i ybuild29_0i1i2i ybuild24_ ybuild24_0s ybuild24_1i ybuild64_ ybuild64_0i ybuild64_0i1i ybuild75_ ybuild75_0i1i2i3i ybuild108_ ybuild108_0i1i2s ybuild118_0i2i ybuild114_2s4i ybuild100 ybuild120 ybuild127 ybuild141 ybuild141_0 ybuild148 ybuild91 yfld108_0 yfld133_2
end Go.Proofs.YthiflgncldmkjaaDoor
/- A whole world as an abstract heap that nobody writes; the two tables in it. -/
set_option linter.unusedVariables false
set_option linter.unusedSimpArgs false
namespace Go.Ri

/-- A cell as an abstract value; `n`: how many blocks there are. -/
def wV (n : Nat) (v : Value) : Option AV := match v with
  | .bool b => some (.bool b)
  | .int k m => some (.int k m)
  | .string s => some (.str s)
  | .pointer none => some (.ptr none)
  | .pointer (some ⟨b, o, none⟩) => if b < n then some (.ptr (some (b, o))) else none
  | .slice none l c => if l ≤ c then some (.slice none l (.kn c)) else none
  | .slice (some _) 0 _ => some .empty
  | .slice (some ⟨b, o, none⟩) l c => if b < n ∧ l ≤ c then some (.slice (some (b, o)) l (.kn c)) else none
  | v => if v.oneCell' = true then some (.other v) else none
def wL (n : Nat) : List Value → Option (List AV)
  | [] => some []
  | v :: vs => (wV n v).bind fun c => (wL n vs).map fun cs => c :: cs
def absH (w : World) : AH := ⟨fun b => match w.heap[b]? with
  | some (.cells cs e fr) => (wL w.heap.size cs.toList).map fun l => ⟨l, e, false⟩
  | _ => none, w.heap.size⟩
def absRo (w : World) : Ro := fun b => if b < w.heap.size then some ⟨b, 0, match w.heap[b]? with
  | some (.cells cs _ _) => cs.size
  | _ => 0⟩ else none

theorem absRo_some {w : World} {b : Nat} (h : b < w.heap.size) : ∃ l, absRo w b = some ⟨b, 0, l⟩ := ⟨_, if_pos h⟩
theorem wV_rel {w : World} {v : Value} {c : AV} (h : wV w.heap.size v = some c) : rel (absRo w) c v ∧ c.isOne = true := by
  unfold wV at h
  split at h
  · cases h; exact ⟨rfl, rfl⟩
  · cases h; exact ⟨rfl, rfl⟩
  · cases h; exact ⟨rfl, rfl⟩
  · cases h; exact ⟨⟨none, rfl, rfl⟩, rfl⟩
  · split at h
    · rename_i b o hb
      cases h
      obtain ⟨l, hl⟩ := absRo_some hb
      exact ⟨⟨some ⟨b, 0 + o, none⟩, by simp [cAddr, hl], by simp⟩, rfl⟩
    · cases h
  · split at h
    · cases h; rename_i hlc; exact ⟨⟨none, _, rfl, rfl, hlc, rfl⟩, rfl⟩
    · cases h
  · cases h
    exact ⟨⟨_, _, rfl⟩, rfl⟩
  · split at h
    · rename_i b o l c _ hb
      cases h
      obtain ⟨l', hl⟩ := absRo_some hb.1
      exact ⟨⟨some ⟨b, 0 + o, none⟩, c, by simp [cAddr, hl], rfl, hb.2, by simp⟩, rfl⟩
    · cases h
  · split at h
    · rename_i hv; cases h; exact ⟨rfl, hv⟩
    · cases h
theorem wL_rel {w : World} : ∀ {vs : List Value} {cs : List AV}, wL w.heap.size vs = some cs → relL (absRo w) cs vs ∧ cs.all AV.isOne = true
  | [], cs, h => by cases h; exact ⟨relL_nil _, rfl⟩
  | v :: vs, cs, h => by
    simp only [wL, Option.bind_eq_some_iff, Option.map_eq_some_iff] at h
    obtain ⟨c, hc, ds, hds, rfl⟩ := h
    obtain ⟨h1, h2⟩ := wV_rel hc
    obtain ⟨h3, h4⟩ := wL_rel hds
    exact ⟨relL_cons h1 h3, by simp [h2, h4]⟩
theorem wL_get {n : Nat} : ∀ {vs : List Value} {cs : List AV}, wL n vs = some cs → ∀ i : Nat, cs[i]? = (vs[i]?).bind (wV n)
  | [], cs, h, i => by cases h; simp
  | v :: vs, cs, h, i => by
    simp only [wL, Option.bind_eq_some_iff, Option.map_eq_some_iff] at h
    obtain ⟨c, hc, ds, hds, rfl⟩ := h
    cases i with
    | zero => simp [hc]
    | succ i => simpa using wL_get hds i

theorem absH_sim (P : Program) {w : World} (hg : P.globals.size ≤ w.heap.size) : Sim P (absRo w) (absH w) w := by
  refine ⟨fun b B hB => ?_, fun b b' B B' r r' hB hB' _ hr hr' he => ?_, fun b hb => if_neg (by simp only [absH] at hb; omega), fun g hgl => ?_⟩
  · simp only [absH] at hB
    split at hB
    · rename_i cs e fr hcs
      simp only [Option.map_eq_some_iff] at hB
      obtain ⟨l, hl, rfl⟩ := hB
      have hlt : b < w.heap.size := (Array.getElem?_eq_some_iff.1 hcs).1
      obtain ⟨h1, h2⟩ := wL_rel hl
      refine ⟨⟨b, 0, cs.size⟩, cs, fr, cs.toList, ?_, hcs, by simp, fun h => by simp at h, h1, by simp, fun i v hi => by simpa using hi, h2⟩
      simp only [absRo, if_pos hlt, hcs]
    · cases hB
  · unfold absRo at hr hr'
    split at hr
    · split at hr'
      · cases hr; cases hr'; exact he
      · cases hr'
    · cases hr
  · obtain ⟨l, hl⟩ := absRo_some (w := w) (b := g) (by omega)
    exact ⟨l, hl⟩
theorem absH_wf (w : World) : (absH w).wf := by
  intro b B hB
  simp only [absH] at hB ⊢
  split at hB
  · rename_i cs e fr hcs
    exact (Array.getElem?_eq_some_iff.1 hcs).1
  · cases hB

open Go.RowKit in
/-- What a call that was run on the abstract heap says of the world. -/
theorem below_of_run {P : Program} {call : CallF} (hcall : CallOk P call) {f : FuncId} {vs : List AV} {v : AV} {H1 : AH} {W : World} {us : List Value} (hg : P.globals.size ≤ W.heap.size)
    (hrun : call f vs (absH W) = some (v, H1)) (hus : relL (absRo W) vs us) :
    Calls P f us.toArray W fun e W' => ∃ ρ' v', e = .returned v' ∧ rel ρ' v v' ∧ Below W.heap.size W W' := by
  obtain ⟨_, h⟩ := hcall f vs (absH W) v H1 hrun
  refine (h (absRo W) W us (absH_sim P hg) hus).mono ?_
  rintro e W' ⟨ρ', v', rfl, hr, hout⟩
  refine ⟨ρ', v', rfl, hr, hout.os, hout.tape, hout.output, hout.size, fun k hk => hout.keep k hk fun b B r hB hrw _ => ?_⟩
  simp only [absH] at hB
  split at hB
  · simp only [Option.map_eq_some_iff] at hB
    obtain ⟨l, _, rfl⟩ := hB
    simp at hrw
  · cases hB
end Go.Ri
namespace Go.Proofs.YthiflgncldmkjaaDoor
open Go.Ri Go.ChangeShapes Go.WideShapes Go.ChangeAt Go.RowKit

section
variable {H : Type} {enc : TypeId × Value → H} {P : Program}
theorem post_of_below {f : Func} {s : ChangeSpec} {apart fresh handsOn again : Bool} {W W' : World} {args : Array Value} {v : Value} {ds gs : List (DataW H)} {before pa pv : List MemPlace}
    (hW : DataW.Whole enc P f.params.toList s.vars apart W args.toList ds gs before)
    (hres : ∀ (b : Nat) (sp : Nat → Bool) (hd : Bool), DataW.TrodAll enc P W' b sp hd f.resultTypes.toList (v.resultList f.resultTypes.size) (s.fn H (ds ++ gs)).results [])
    (hargs : ∀ sp : Nat → Bool, (∀ p ∈ before, sp p.block = true) → DataW.TrodAll enc P W' 0 sp true f.params.toList args.toList (s.fn H (ds ++ gs)).args pa)
    (hvars : ∀ sp : Nat → Bool, (∀ p ∈ before, sp p.block = true) → DataW.TrodVars enc P W' sp s.vars (s.fn H (ds ++ gs)).vars pv)
    (hps : before = pa ++ pv) (hb : Below W.heap.size W W')
    (hok : ∀ (j : Nat) (t : TypeId) (r : Value), f.resultTypes[j]? = some t → (v.resultList f.resultTypes.size)[j]? = some r → Value.okWide P W' .any 0 t r) :
    s.post enc P f apart fresh handsOn again W args v W' := by
  have hlt : ∀ p ∈ before, p.block < W.heap.size := fun p hp => hW.lt p hp
  have hold : ∀ p ∈ before, (fun b => decide (b < W.heap.size)) p.block = true := fun p hp => by simpa using hlt p hp
  refine ⟨ds, gs, before, [], pa, pv, hW, hres _ _ _, hargs _ hold, hvars _ hold, World.keptBut_mono (fun p hp => ⟨hp, ?_⟩) (hb.frame (· ∈ before)), fun _ => ?_⟩
  · rw [hps, List.mem_append] at hp
    exact Or.inr hp
  · obtain ⟨_, _, _, _, _, hz, hn⟩ := hW
    refine ⟨hok, _, _, ([] ++ pa) ++ pv, ⟨[] ++ pa, pv, trodAll_append (hargs _ (fun _ _ => rfl)) (hres _ _ _), hvars _ (fun _ _ => rfl), rfl, ?_, ?_⟩, ?_⟩
    · intro b off hp
      have hin : MemPlace.cell b off ∈ before := by rw [hps]; simpa using hp
      rw [hb.frozen (hlt _ hin)]
      exact hz b off hin
    · intro ha
      have := hn ha
      rw [hps] at this
      simpa using this
    · intro p hp _
      rw [hps]
      simpa using hp
end

/-! ### The two tables -/
def wordsA : List AV := [.str ⟨#[]⟩, .str ⟨#[112, 117, 115, 104]⟩, .str ⟨#[108, 111, 97, 100]⟩, .str ⟨#[115, 116, 111, 114, 101]⟩, .str ⟨#[105, 110, 100, 101, 120]⟩, .str ⟨#[112, 117, 116]⟩, .str ⟨#[99, 108, 101, 97, 114]⟩, .str ⟨#[97, 100, 100]⟩, .str ⟨#[115, 117, 98]⟩, .str ⟨#[109, 117, 108]⟩, .str ⟨#[100, 105, 118]⟩, .str ⟨#[109, 111, 100]⟩, .str ⟨#[108, 101, 115, 115]⟩, .str ⟨#[109, 111, 115, 116]⟩, .str ⟨#[115, 97, 109, 101]⟩, .str ⟨#[110, 111, 116]⟩, .str ⟨#[110, 101, 103]⟩, .str ⟨#[106, 117, 109, 112]⟩, .str ⟨#[122, 101, 114, 111]⟩, .str ⟨#[99, 97, 108, 108]⟩, .str ⟨#[108, 101, 97, 118, 101]⟩, .str ⟨#[112, 114, 105, 110, 116]⟩, .str ⟨#[114, 101, 97, 100]⟩, .str ⟨#[116, 101, 115, 116]⟩, .str ⟨#[109, 97, 114, 107]⟩, .str ⟨#[100, 114, 111, 112]⟩]
def stackN : List Int := [0,0,0,1,0,1,1,0,1,1,2,0,0,0,2,1,2,1,2,1,2,1,2,1,2,1,2,1,2,1,1,1,1,1,0,0,1,0,0,0,0,0,1,0,0,1,1,0,0,0,1,0]
def stackA : List AV := stackN.map (.int .i64)
/-- The tables stand in the heap. -/
structure Tabs (H : AH) : Prop where
  words : ∃ e, H.m 0 = some ⟨wordsA, e, false⟩
  stack : ∃ e, H.m 1 = some ⟨stackA, e, false⟩
  two : 2 ≤ H.next

theorem gWords : Tryd.prog.globalNamed "parallax/code.words" = some 0 := by kernel_rfl
theorem gStack : Tryd.prog.globalNamed "parallax/code.stack" = some 1 := by kernel_rfl
theorem globals2 : Tryd.prog.globals.size = 2 := by kernel_rfl
theorem tWords : (Tryd.prog.globals[0]?).map (·.type) = some 89 := by kernel_rfl
theorem tStack : (Tryd.prog.globals[1]?).map (·.type) = some 173 := by kernel_rfl
theorem under89 : Tryd.prog.underlying 89 = some (.array 26 9) := by kernel_rfl
theorem under9 : Tryd.prog.underlying 9 = some .string := by kernel_rfl
theorem under173 : Tryd.prog.underlying 173 = some (.array 26 172) := by kernel_rfl
theorem under172 : Tryd.prog.underlying 172 = some (.array 2 3) := by kernel_rfl
theorem under3 : Tryd.prog.underlying 3 = some (.int .i64) := by kernel_rfl
theorem cells89 : Tryd.prog.cellsOf 89 = 26 := by kernel_rfl
theorem cells9 : Tryd.prog.cellsOf 9 = 1 := by kernel_rfl
theorem cells173 : Tryd.prog.cellsOf 173 = 52 := by kernel_rfl
theorem cells172 : Tryd.prog.cellsOf 172 = 2 := by kernel_rfl
theorem cells3 : Tryd.prog.cellsOf 3 = 1 := by kernel_rfl

/-- A table's cells, out of what they read as. -/
theorem cells_of_strs {W : World} {m : Nat} {cs : List Value} {ls : List (List UInt8)} {p : List MemPlace}
    (h : DataW.trod (fun _ => ()) Tryd.prog W 0 (fun _ => true) false m 89 cs = some (.agg (ls.map fun s => .lit (.string s)), p)) : cs = ls.map fun s => .string ⟨s.toArray⟩ := by
  obtain ⟨xs, m', _, hx, hl, hn, hel⟩ := DataW.trod_array under89 h
  simp only [Prod.mk.injEq, DataW.agg.injEq] at hx
  have hxl : ls.length = 26 := by have := congrArg List.length hx.1; simp at this; omega
  rw [cells89] at hl
  apply List.ext_getElem?
  intro i
  by_cases hi : i < 26
  · have h1 := hel i hi
    rw [cells9, Nat.mul_one, List.getElem?_eq_getElem (by omega)] at h1
    obtain ⟨s, hs, hxs, _⟩ := DataW.trod_string under9 h1
    have e1 : cs[i]? = some (.string s) := by
      have := congrArg (·[0]?) hs
      simpa [List.getElem?_take, List.getElem?_drop] using this
    have e2 : (xs.map (·.1))[i]? = some (DataW.lit (.string s.data.toList) : DataW Unit) := by
      rw [List.getElem?_map, List.getElem?_eq_getElem (by omega), hxs]; rfl
    rw [← hx.1, List.getElem?_map, Option.map_eq_some_iff] at e2
    obtain ⟨z, hz, hz2⟩ := e2
    simp only [DataW.lit.injEq, Lit.string.injEq] at hz2
    rw [e1, List.getElem?_map, hz, hz2]
    rfl
  · rw [List.getElem?_eq_none (by omega), List.getElem?_eq_none (by simp; omega)]
theorem cells_of_pairs {W : World} {m : Nat} {cs : List Value} {ls : List (Int × Int)} {p : List MemPlace}
    (h : DataW.trod (fun _ => ()) Tryd.prog W 0 (fun _ => true) false m 173 cs = some (.agg (ls.map fun s => .agg [.lit (.int .i64 s.1), .lit (.int .i64 s.2)]), p)) : cs = ls.flatMap fun s => [.int .i64 s.1, .int .i64 s.2] := by
  obtain ⟨xs, m', _, hx, hl, hn, hel⟩ := DataW.trod_array under173 h
  simp only [Prod.mk.injEq, DataW.agg.injEq] at hx
  have hxl : ls.length = 26 := by have := congrArg List.length hx.1; simp at this; omega
  rw [cells173] at hl
  have key : ∀ i, i < 26 → ∃ a b, ls[i]? = some (a, b) ∧ cs[i * 2]? = some (.int .i64 a) ∧ cs[i * 2 + 1]? = some (.int .i64 b) := by
    intro i hi
    have h1 := hel i hi
    rw [cells172, List.getElem?_eq_getElem (by omega)] at h1
    obtain ⟨a, b, hab⟩ : ∃ a b, ls[i]? = some (a, b) := ⟨_, _, List.getElem?_eq_getElem (by omega)⟩
    have e2 : (xs.map (·.1))[i]? = some (DataW.agg [.lit (.int .i64 a), .lit (.int .i64 b)] : DataW Unit) := by
      rw [← hx.1, List.getElem?_map, hab]; rfl
    rw [List.getElem?_map, List.getElem?_eq_getElem (by omega)] at e2
    have e3 : xs[i] = (Lib.tabData .i64 [a, b], xs[i].2) := by
      simp only [Option.map_some, Option.some.injEq] at e2
      exact Prod.ext e2 rfl
    rw [e3] at h1
    have := Lib.cells_of_tab under172 under3 cells3 cells172 h1
    refine ⟨a, b, hab, ?_, ?_⟩
    · have := congrArg (·[0]?) this
      simpa [List.getElem?_take, List.getElem?_drop] using this
    · have := congrArg (·[1]?) this
      simpa [List.getElem?_take, List.getElem?_drop] using this
  have hfl : ∀ (l : List (Int × Int)) (i : Nat), (l.flatMap fun s => [Value.int .i64 s.1, Value.int .i64 s.2])[i]? = (l[i / 2]?).map fun s => if i % 2 = 0 then Value.int .i64 s.1 else Value.int .i64 s.2 := by
    intro l
    induction l with
    | nil => intro i; simp
    | cons s l ih =>
      intro i
      match i with
      | 0 => simp
      | 1 => simp
      | i + 2 =>
        have := ih i
        rw [show (i + 2) / 2 = i / 2 + 1 by omega, show (i + 2) % 2 = i % 2 by omega]
        simpa using this
  apply List.ext_getElem?
  intro i
  rw [hfl]
  by_cases hi : i < 52
  · obtain ⟨a, b, h1, h2, h3⟩ := key (i / 2) (by omega)
    rw [h1]
    by_cases hp : i % 2 = 0
    · rw [show i / 2 * 2 = i by omega] at h2
      simp [h2, hp]
    · rw [show i / 2 * 2 + 1 = i by omega] at h3
      simp [h3, hp]
  · rw [List.getElem?_eq_none (by omega), List.getElem?_eq_none (by omega)]
    rfl

def laidTabs : List (String × DataW Unit) := [("parallax/code.words", Rows.laid_parallax_code_words), ("parallax/code.stack", Rows.laid_parallax_code_stack)]
def wordsV : List Value := [.string ⟨#[]⟩, .string ⟨#[112, 117, 115, 104]⟩, .string ⟨#[108, 111, 97, 100]⟩, .string ⟨#[115, 116, 111, 114, 101]⟩, .string ⟨#[105, 110, 100, 101, 120]⟩, .string ⟨#[112, 117, 116]⟩, .string ⟨#[99, 108, 101, 97, 114]⟩, .string ⟨#[97, 100, 100]⟩, .string ⟨#[115, 117, 98]⟩, .string ⟨#[109, 117, 108]⟩, .string ⟨#[100, 105, 118]⟩, .string ⟨#[109, 111, 100]⟩, .string ⟨#[108, 101, 115, 115]⟩, .string ⟨#[109, 111, 115, 116]⟩, .string ⟨#[115, 97, 109, 101]⟩, .string ⟨#[110, 111, 116]⟩, .string ⟨#[110, 101, 103]⟩, .string ⟨#[106, 117, 109, 112]⟩, .string ⟨#[122, 101, 114, 111]⟩, .string ⟨#[99, 97, 108, 108]⟩, .string ⟨#[108, 101, 97, 118, 101]⟩, .string ⟨#[112, 114, 105, 110, 116]⟩, .string ⟨#[114, 101, 97, 100]⟩, .string ⟨#[116, 101, 115, 116]⟩, .string ⟨#[109, 97, 114, 107]⟩, .string ⟨#[100, 114, 111, 112]⟩]
theorem wL_wordsV (n : Nat) : wL n wordsV = some wordsA := rfl
theorem wL_ints (n : Nat) : ∀ l : List Int, wL n (l.map fun z => .int .i64 z) = some (l.map (.int .i64))
  | [] => rfl
  | z :: l => by simp [wL, wV, wL_ints n l]

/-- What the rows' condition says of the abstract heap. -/
theorem tabs_of_laid {W : World} (h : laidMetH Tryd.prog laidTabs W) : Tabs (absH W) := by
  rw [MakeChecks.laidMetH_plain _ _ _ (by rfl)] at h
  obtain ⟨ps, ⟨g0, t0, cs0, f0, p0, q0, hg0, ht0, hv0, hd0, ⟨g1, t1, cs1, f1, p1, q1, hg1, ht1, hv1, hd1, _, _⟩, _⟩, _, _⟩ := h
  obtain rfl := Option.some.inj (gWords.symm.trans hg0)
  obtain rfl := Option.some.inj (gStack.symm.trans hg1)
  obtain rfl := Option.some.inj (tWords.symm.trans ht0)
  obtain rfl := Option.some.inj (tStack.symm.trans ht1)
  simp only [World.var?, hg0, Option.bind_some] at hv0
  simp only [World.var?, hg1, Option.bind_some] at hv1
  split at hv0
  · rename_i c0 e0 fr0 hc0
    split at hv1
    · rename_i c1 e1 fr1 hc1
      cases hv0
      cases hv1
      have k0 := cells_of_strs (ls := [[], [112, 117, 115, 104], [108, 111, 97, 100], [115, 116, 111, 114, 101], [105, 110, 100, 101, 120], [112, 117, 116], [99, 108, 101, 97, 114], [97, 100, 100], [115, 117, 98], [109, 117, 108], [100, 105, 118], [109, 111, 100], [108, 101, 115, 115], [109, 111, 115, 116], [115, 97, 109, 101], [110, 111, 116], [110, 101, 103], [106, 117, 109, 112], [122, 101, 114, 111], [99, 97, 108, 108], [108, 101, 97, 118, 101], [112, 114, 105, 110, 116], [114, 101, 97, 100], [116, 101, 115, 116], [109, 97, 114, 107], [100, 114, 111, 112]]) hd0
      have k1 := cells_of_pairs (ls := [(0,0),(0,1),(0,1),(1,0),(1,1),(2,0),(0,0),(2,1),(2,1),(2,1),(2,1),(2,1),(2,1),(2,1),(2,1),(1,1),(1,1),(0,0),(1,0),(0,0),(0,0),(1,0),(0,1),(1,0),(0,0),(1,0)]) hd1
      refine ⟨⟨e0, ?_⟩, ⟨e1, ?_⟩, ?_⟩
      · simp only [absH, hc0, k0]
        exact congrArg (Option.map _) (wL_wordsV _)
      · simp only [absH, hc1, k1]
        exact congrArg (Option.map _) (wL_ints _ stackN)
      · have := (Array.getElem?_eq_some_iff.1 hc1).1
        simp only [absH]
        omega
    · cases hv1
  · cases hv0
end Go.Proofs.YthiflgncldmkjaaDoor
/- Fixed calls, run by the kernel. -/
set_option linter.unusedVariables false
set_option maxRecDepth 100000
namespace Go.Proofs.YthiflgncldmkjaaDoor
open Go.Ri
def mTabs (e0 e1 : TypeId) : Nat → Option Blk := fun b => if b = 0 then some ⟨wordsA, e0, false⟩ else if b = 1 then some ⟨stackA, e1, false⟩ else none
def saysTrue : Option (AV × AH) → Bool
  | some (.bool true, _) => true
  | _ => false
theorem saysTrue_some {x : Option (AV × AH)} (h : saysTrue x = true) : ∃ H1, x = some (.bool true, H1) := by
  unfold saysTrue at h
  split at h
  · exact ⟨_, rfl⟩
  · cases h
theorem wordsA_flat : wordsA.all flat = true := by decide
theorem stackA_flat : stackA.all flat = true := by decide
theorem mTabs_ok (e0 e1 : TypeId) : ∀ b B, mTabs e0 e1 b = some B → b < 2 ∧ B.rw_ = false ∧ B.cells.all flat = true := by
  intro b B h
  unfold mTabs at h
  split at h
  · cases h; exact ⟨by omega, rfl, wordsA_flat⟩
  · split at h
    · cases h; exact ⟨by omega, rfl, stackA_flat⟩
    · cases h
theorem run18 (k : Int) (e0 e1 : TypeId) : saysTrue (aCall Tryd.prog (drawB Tryd.prog) 60 18 [.int .i64 k] ⟨mTabs e0 e1, 2⟩) = true := by kernel_rfl
end Go.Proofs.YthiflgncldmkjaaDoor
/- What every row of this seat wants: the frame, the witness's world. -/
set_option linter.unusedVariables false
set_option linter.unusedSimpArgs false
set_option maxRecDepth 100000
namespace Go.Proofs.YthiflgncldmkjaaDoor
open Go.Ri Go.ChangeShapes Go.WideShapes Go.ChangeAt Go.RowKit

theorem below_of_out {P : Program} {W W' : World} {ρ' : Ro} {H' : AH} (hout : Out P (absRo W) (absH W) W ρ' H' W') : Below W.heap.size W W' := by
  refine ⟨hout.os, hout.tape, hout.output, hout.size, fun k hk => hout.keep k hk fun b B r hB hrw _ => ?_⟩
  simp only [absH] at hB
  split at hB
  · simp only [Option.map_eq_some_iff] at hB
    obtain ⟨l, _, rfl⟩ := hB
    simp at hrw
  · cases hB
theorem below_of_ok1 {P : Program} {f : FuncId} {g : List AV → AH → Option (AV × AH)} (hok : Ok1 P f g) {vs : List AV} {v : AV} {H1 : AH} {W : World} {us : List Value} (hg : P.globals.size ≤ W.heap.size)
    (hrun : g vs (absH W) = some (v, H1)) (hus : relL (absRo W) vs us) :
    Calls P f us.toArray W fun e W' => ∃ ρ' v', e = .returned v' ∧ rel ρ' v v' ∧ Below W.heap.size W W' := by
  obtain ⟨_, h⟩ := hok vs (absH W) v H1 hrun
  refine (h (absRo W) W us (absH_sim P hg) hus).mono ?_
  rintro e W' ⟨ρ', v', rfl, hr, hout⟩
  exact ⟨ρ', v', rfl, hr, below_of_out hout⟩

/-- The small heap of the two tables lies in any world that meets the rows' condition. -/
theorem small_sub {H : AH} (h : Tabs H) : ∃ e0 e1, ∀ b B, mTabs e0 e1 b = some B → H.m b = some B := by
  obtain ⟨⟨e0, h0⟩, ⟨e1, h1⟩, _⟩ := h
  refine ⟨e0, e1, fun b B hb => ?_⟩
  unfold mTabs at hb
  split at hb
  · rename_i e; subst e; rw [← hb]; exact h0
  · split at hb
    · rename_i e; subst e; rw [← hb]; exact h1
    · cases hb

theorem own : ownKnob Tryd.prog.godebug = none := by kernel_rfl
theorem under4 : Tryd.prog.underlying 4 = some .bool := by kernel_rfl

/-- A world for the witness: the tables hold what their initialisers lay. -/
def setCells (cs : Array Value) : Obj → Obj
  | .cells _ t frozen => .cells cs t frozen
  | o => o
noncomputable def laidWorld (os : Os) : World :=
  { World.holding Tryd.prog os ⟨#[], #[], []⟩ with heap := ((World.holding Tryd.prog os ⟨#[], #[], []⟩).heap.modify 0 (setCells wordsV.toArray)).modify 1 (setCells (stackN.map fun z => Value.int .i64 z).toArray) }
theorem laid_met (os : Os) (args : Array Value) : laidMet Tryd.prog laidTabs ((laidWorld os).forCall (fun _ _ => 0) ⟨#[], args, []⟩).memory :=
  laidMet_of_run' 8 (by kernel_rfl) (by kernel_rfl)
end Go.Proofs.YthiflgncldmkjaaDoor
