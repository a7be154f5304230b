/- Part 1 of the proof that: What is handed in stays as it is (PeepOwn): for every input the law returns true, and the input reads as it did. Condition: the two tables of package code start as the program's text lays them (the row's own). -/
import Derived.Test.YthiflgncldmkjaaDoorBV130
import Derived.Test.YthiflgncldmkjaaDoorProg
import Derived.Laws.BytesArg
set_option linter.unusedVariables false
set_option linter.unusedSimpArgs false
namespace Go.Ri

mutual
def eqA : AV → AV → Bool
  | .bool a => fun | .bool b => a == b | _ => false
  | .int k n => fun | .int l m => decide (k = l) && decide (n = m) | _ => false
  | .str a => fun | .str b => decide (a = b) | _ => false
  | .ptr a => fun | .ptr b => decide (a = b) | _ => false
  | .slice a n c => fun | .slice b m d => decide (a = b) && decide (n = m) && decide (c = d) | _ => false
  | .empty => fun | .empty => true | _ => false
  | .func f cs => fun | .func g ds => decide (f = g) && eqAs cs ds | _ => false
  | .nilFunc => fun | .nilFunc => true | _ => false
  | .agg cs => fun | .agg ds => eqAs cs ds | _ => false
  | .tuple cs => fun | .tuple ds => eqAs cs ds | _ => false
  | .other _ => fun _ => false
def eqAs : List AV → List AV → Bool
  | [] => fun | [] => true | _ => false
  | c :: cs => fun | d :: ds => eqA c d && eqAs cs ds | [] => false
end
mutual
theorem eqA_eq : ∀ (a b : AV), eqA a b = true → a = b
  | .bool a, b, h => by cases b <;> simp [eqA] at h; rw [h]
  | .int k n, b, h => by cases b <;> simp [eqA] at h; rw [h.1, h.2]
  | .str a, b, h => by cases b <;> simp [eqA] at h; rw [h]
  | .ptr a, b, h => by cases b <;> simp [eqA] at h; rw [h]
  | .slice a n c, b, h => by cases b <;> simp [eqA] at h; rw [h.1.1, h.1.2, h.2]
  | .empty, b, h => by cases b <;> simp [eqA] at h; rfl
  | .func f cs, b, h => by
    cases b with
    | func g ds => simp [eqA] at h; rw [h.1, eqAs_eq cs ds h.2]
    | _ => simp [eqA] at h
  | .nilFunc, b, h => by cases b <;> simp [eqA] at h; rfl
  | .agg cs, b, h => by
    cases b with
    | agg ds => simp [eqA] at h; rw [eqAs_eq cs ds h]
    | _ => simp [eqA] at h
  | .tuple cs, b, h => by
    cases b with
    | tuple ds => simp [eqA] at h; rw [eqAs_eq cs ds h]
    | _ => simp [eqA] at h
  | .other v, b, h => by simp [eqA] at h
theorem eqAs_eq : ∀ (a b : List AV), eqAs a b = true → a = b
  | [], b, h => by cases b <;> simp [eqAs] at h; rfl
  | c :: cs, b, h => by
    cases b with
    | nil => simp [eqAs] at h
    | cons d ds => simp [eqAs] at h; rw [eqA_eq c d h.1, eqAs_eq cs ds h.2]
end
def eqO : Option AV → Option AV → Bool
  | some a, some b => eqA a b
  | _, _ => false
theorem eqO_eq {a b : Option AV} (h : eqO a b = true) : a = b := by
  cases a <;> cases b <;> simp [eqO] at h
  rw [eqA_eq _ _ h]
def allB : List (Option AV × Option AV) → Bool
  | [] => true
  | (a, b) :: l => eqO a b && allB l
theorem allB_eq : ∀ {l}, allB l = true → allEq l
  | [], _ => trivial
  | (a, b) :: l, h => by
    simp only [allB, Bool.and_eq_true] at h
    exact ⟨eqO_eq h.1, allB_eq h.2⟩

section
variable {R : Type}
def drawGoB (P : Program) (nt : Nat) (call : CallF) (ops : Array Oper) (anc : List Nat) : List Oper → Nat → Nat → Tm → AH → Nat → List FL → List (Nat × AH × Nat) → List PL → List (Option AV × Option AV) → Option (Tm × AH)
  | [], _, _, T, G, mb, all, _, _, chks => if allB chks = true then some (T, addF (selR all mb) G) else none
  | o :: l, i, id, T, G, mb, all, vers, pend, chks => match dK o.op with
    | .pure => (gval ops T o (aLight P (evo P.globals.size T) o.op G)).bind fun v => (putA nt T o.dst v).bind fun T' =>
        drawGoB P nt call ops anc l (i + 1) id T' G mb all vers pend chks
    | .read => ((fun (V : AH × Nat) => gval ops T o (aLight P (evo P.globals.size T) o.op (addF (sel all (anc.getD i 0) V.2) V.1))) (G, mb)).bind fun v => (putA nt T o.dst v).bind fun T' =>
        drawGoB P nt call ops anc l (i + 1) id T' G mb all vers (⟨i, fun V => gval ops T o (aLight P (evo P.globals.size T) o.op (addF (sel all (anc.getD i 0) V.2) V.1)), v⟩ :: pend)
          (((vers.filter fun V => !((anc.getD i 0).testBit V.1)).map fun V => (gval ops T o (aLight P (evo P.globals.size T) o.op (addF (sel all (anc.getD i 0) V.2.2) V.2.1)), some v)) ++ chks)
    | .new => (aNew P (evo P.globals.size T) o.op).bind fun nb => (putA nt T o.dst (nb.val id)).bind fun T' =>
        drawGoB P nt call ops anc l (i + 1) (id + 1) T' G mb (all ++ [⟨i, id, ⟨nb.cells, nb.elem, true⟩⟩]) vers pend chks
    | .heavy => (gheavy ops T o (addF (sel all (anc.getD i 0) mb) G) (aHeavy P call (evo P.globals.size T) o.op (addF (sel all (anc.getD i 0) mb) G))).bind fun r => (putA nt T o.dst r.1).bind fun T' =>
        drawGoB P nt call ops anc l (i + 1) id T' r.2 (mb ||| anc.getD i 0) all ((i, G, mb) :: vers) pend
          (((pend.filter fun p => !((anc.getD i 0).testBit p.i)).map fun p => (p.f (r.2, mb ||| anc.getD i 0), some p.v)) ++ chks)
theorem drawGoB_eq {P : Program} {nt : Nat} {call : CallF} {ops : Array Oper} {anc : List Nat} {r : Tm × AH} : ∀ (l : List Oper) (i id : Nat) (T : Tm) (G : AH) (mb : Nat) (all : List FL) (vers : List (Nat × AH × Nat)) (pend : List PL) (chks : List (Option AV × Option AV)),
    drawGoB P nt call ops anc l i id T G mb all vers pend chks = some r → drawGo P nt call ops anc (fun T H => some (T, H)) l i id T G mb all vers pend chks = some r
  | [], i, id, T, G, mb, all, vers, pend, chks, h => by
    simp only [drawGoB] at h
    split at h
    · rename_i hb
      simp only [drawGo, chkL_eq]
      rw [chk_pos (allB_eq hb)]
      exact h
    · cases h
  | o :: l, i, id, T, G, mb, all, vers, pend, chks, h => by
    simp only [drawGoB] at h
    simp only [drawGo]
    cases hk : dK o.op <;> simp only [hk] at h ⊢ <;> simp only [Option.bind_eq_some_iff] at h ⊢
    all_goals
      obtain ⟨x, hx, T', hT, h⟩ := h
      exact ⟨x, hx, T', hT, drawGoB_eq l _ _ _ _ _ _ _ _ _ h⟩
end
def drawB (P : Program) : DrawG := fun nt call ops T H => if okD P ops (ancB ops.toList []) = true then
    drawGoB P nt call ops (ancB ops.toList []) ops.toList 0 H.next T { H with next := H.next + news ops.toList } 0 [] [] [] []
  else none
theorem drawB_ok {P : Program} {nt : Nat} {call : CallF} (hcall : CallOk P call) : DrawOk P nt (drawB P nt call) := by
  intro id ops ρ H w T T' H' a Q h ht hd hc hQ
  refine drawA_ok hcall id ops ρ H w T T' H' a Q h ht hd ?_ hQ
  simp only [drawB] at hc
  simp only [drawA, drawK]
  split at hc
  · rename_i hok
    rw [if_pos hok]
    exact drawGoB_eq _ _ _ _ _ _ _ _ _ _ hc
  · cases hc
theorem aCallB (P : Program) : ∀ n, CallOk P (aCall P (drawB P) n) := aCall_sound fun nt call h => drawB_ok h

def Ok1 (P : Program) (f : FuncId) (g : List AV → AH → Option (AV × AH)) : Prop := ∀ vs H v H', g vs H = some (v, H') →
  (∃ fn, P.funcs[f]? = some fn ∧ (fn.name == "runtime.NumGoroutine") = false ∧ fn.body.isNone = false) ∧
  ∀ ρ w us, Sim P ρ H w → relL ρ vs us → Calls P f us.toArray w fun e w' => ∃ ρ' v', e = .returned v' ∧ rel ρ' v v' ∧ Out P ρ H w ρ' H' w'
def addT (S : CallF) (f : FuncId) (g : List AV → AH → Option (AV × AH)) : CallF := fun f' vs H => if f' = f then g vs H else S f' vs H
def noT : CallF := fun _ _ _ => none
theorem noT_ok (P : Program) : CallOk P noT := fun f vs H v H' h => by cases h
theorem addT_ok {P : Program} {S : CallF} {f : FuncId} {g : List AV → AH → Option (AV × AH)} (hS : CallOk P S) (hg : Ok1 P f g) : CallOk P (addT S f g) := by
  intro f' vs H v H' h
  unfold addT at h
  split at h
  · rename_i e
    subst e
    exact hg vs H v H' h
  · exact hS f' vs H v H' h
theorem addT_at (S : CallF) (f : FuncId) (g : List AV → AH → Option (AV × AH)) (vs : List AV) (H : AH) : addT S f g f vs H = g vs H := if_pos rfl
theorem addT_ne (S : CallF) {f f' : FuncId} (g : List AV → AH → Option (AV × AH)) (vs : List AV) (H : AH) (h : f' ≠ f) : addT S f g f' vs H = S f' vs H := if_neg h

def flat : AV → Bool
  | .bool _ | .int _ _ | .str _ | .nilFunc | .other _ => true
  | .ptr none => true
  | .slice none _ (.kn _) => true
  | _ => false
def flatT : AV → Bool
  | .tuple vs => vs.all flat
  | .agg vs => vs.all flat
  | v => flat v
theorem rel_flat {ρ ρ' : Ro} {v : AV} {u : Value} (h : flat v = true) (hr : rel ρ v u) : rel ρ' v u := by
  cases v with
  | ptr a => cases a <;> simp [flat] at h; simpa [rel, cAddr] using hr
  | slice a n c => cases a <;> cases c <;> simp [flat] at h; simpa [rel, cAddr, cCap] using hr
  | empty => simp [flat] at h
  | func f cs => simp [flat] at h
  | agg cs => simp [flat] at h
  | tuple cs => simp [flat] at h
  | bool b => simpa [rel] using hr
  | int k n => simpa [rel] using hr
  | str s => simpa [rel] using hr
  | nilFunc => simpa [rel] using hr
  | other v => simpa [rel] using hr
theorem relL_flat {ρ ρ' : Ro} : ∀ {vs : List AV} {us : List Value}, vs.all flat = true → relL ρ vs us → relL ρ' vs us
  | [], us, _, hr => by simpa [relL] using hr
  | v :: vs, us, h, hr => by
    simp only [List.all_cons, Bool.and_eq_true] at h
    simp only [relL] at hr
    obtain ⟨x, y, hx, hy, rfl⟩ := hr
    exact relL_cons (rel_flat h.1 hx) (relL_flat h.2 hy)
theorem rel_flatT {ρ ρ' : Ro} {v : AV} {u : Value} (h : flatT v = true) (hr : rel ρ v u) : rel ρ' v u := by
  cases v with
  | tuple vs =>
    obtain ⟨us, hus, rfl⟩ := hr
    exact ⟨us, relL_flat h hus, rfl⟩
  | agg vs =>
    obtain ⟨h1, us, hus, rfl⟩ := hr
    exact ⟨h1, us, relL_flat h hus, rfl⟩
  | ptr a => exact rel_flat h hr
  | slice a n c => exact rel_flat h hr
  | empty => exact rel_flat h hr
  | func f cs => exact rel_flat h hr
  | bool b => exact rel_flat h hr
  | int k n => exact rel_flat h hr
  | str s => exact rel_flat h hr
  | nilFunc => exact rel_flat h hr
  | other v => exact rel_flat h hr

theorem cAddr_back {ρ ρ' : Ro} (h : ρ.le ρ') {a x y} (h0 : cAddr ρ a = some x) (h1 : cAddr ρ' a = some y) : cAddr ρ a = some y := by
  rw [cAddr_mono h h0] at h1
  rw [← h1, h0]
theorem cCap_back {ρ ρ' : Ro} (h : ρ.le ρ') {a c x y} (h0 : cCap ρ a c = some x) (h1 : cCap ρ' a c = some y) : cCap ρ a c = some y := by
  rw [cCap_mono h h0] at h1
  rw [← h1, h0]
mutual
theorem rel_back {ρ ρ' : Ro} (h : ρ.le ρ') : ∀ (c : AV) {u v}, rel ρ c u → rel ρ' c v → rel ρ c v
  | .bool _, _, _, _, e => by simpa [rel] using e
  | .int _ _, _, _, _, e => by simpa [rel] using e
  | .str _, _, _, _, e => by simpa [rel] using e
  | .ptr a, u, v, g, e => by
    simp only [rel] at g e ⊢
    obtain ⟨x, hx, rfl⟩ := e
    obtain ⟨y, hy, rfl⟩ := g
    exact ⟨x, cAddr_back h hy hx, rfl⟩
  | .slice a n c, u, v, g, e => by
    simp only [rel] at g e ⊢
    obtain ⟨x, y, hx, hy, hn, rfl⟩ := e
    obtain ⟨x', y', hx', hy', hn', rfl⟩ := g
    exact ⟨x, y, cAddr_back h hx' hx, cCap_back h hy' hy, hn, rfl⟩
  | .empty, _, _, _, e => by simpa [rel] using e
  | .func f cs, u, v, g, e => by
    simp only [rel] at g e ⊢
    obtain ⟨x, hx, rfl⟩ := e
    obtain ⟨y, hy, rfl⟩ := g
    exact ⟨x, relL_back h cs hy hx, rfl⟩
  | .nilFunc, _, _, _, e => by simpa [rel] using e
  | .agg cs, u, v, g, e => by
    simp only [rel] at g e ⊢
    obtain ⟨h1, x, hx, rfl⟩ := e
    obtain ⟨_, y, hy, rfl⟩ := g
    exact ⟨h1, x, relL_back h cs hy hx, rfl⟩
  | .tuple cs, u, v, g, e => by
    simp only [rel] at g e ⊢
    obtain ⟨x, hx, rfl⟩ := e
    obtain ⟨y, hy, rfl⟩ := g
    exact ⟨x, relL_back h cs hy hx, rfl⟩
  | .other _, _, _, _, e => by simpa [rel] using e
theorem relL_back {ρ ρ' : Ro} (h : ρ.le ρ') : ∀ (cs : List AV) {us vs}, relL ρ cs us → relL ρ' cs vs → relL ρ cs vs
  | [], _, _, _, e => by simpa [relL] using e
  | c :: cs, us, vs, g, e => by
    simp only [relL] at g e ⊢
    obtain ⟨x, y, hx, hy, rfl⟩ := e
    obtain ⟨x', y', hx', hy', rfl⟩ := g
    exact ⟨x, y, rel_back h c hx' hx, relL_back h cs hy' hy, rfl⟩
end
theorem Out.forget {P : Program} {ρ ρ' : Ro} {H H' : AH} {w w' : World} (h : Sim P ρ H w) (o : Out P ρ H w ρ' H' w') (hs : ∀ b B, H.m b = some B → H'.m b = some B) : Out P ρ H w ρ H w' := by
  have hle := o.le h
  refine ⟨fun _ _ => rfl, Nat.le_refl _, ⟨fun b B hB => ?_, h.inj, h.fresh, h.glob⟩, o.os, o.tape, o.output, o.size, o.keep, fun b B r hB hr _ => ⟨b, B, r, hB, hr, rfl, id⟩⟩
  obtain ⟨r, cs, fr, vs, g1, g2, g3, g4, g5, g6⟩ := o.sim.blk b B (hs b B hB)
  obtain ⟨r0, cs0, fr0, vs0, k1, k2, k3, k4, k5, k6⟩ := h.blk b B hB
  rw [hle _ _ k1] at g1
  cases g1
  exact ⟨r, cs, fr, vs, k1, g2, g3, g4, relL_back hle _ k5 g5, g6⟩

def AH.wf (H : AH) : Prop := ∀ b B, H.m b = some B → b < H.next
def AH.sub (H H1 : AH) : Prop := ∀ b B, H.m b = some B → H1.m b = some B
def Fn1 (P : Program) (f : FuncId) : Prop := ∃ fn, P.funcs[f]? = some fn ∧ (fn.name == "runtime.NumGoroutine") = false ∧ fn.body.isNone = false
theorem ok1_flat {P : Program} {S : CallF} (hS : CallOk P S) {f : FuncId} (hfn : Fn1 P f) {g : List AV → AH → Option (AV × AH)}
    (h : ∀ vs H v H', g vs H = some (v, H') → H' = H ∧ flatT v = true ∧ (H.wf → ∃ n H1, aFun P (drawA P) S (iter n) f vs H = some (v, H1) ∧ H.sub H1)) : Ok1 P f g := by
  intro vs H v H' hg
  obtain ⟨rfl, hv, hr⟩ := h vs H v H' hg
  refine ⟨hfn, fun ρ w us hs hus => ?_⟩
  obtain ⟨n, H1, hrun, hsub⟩ := hr fun b B hB => hs.dom hB
  obtain ⟨h1, h2⟩ := aFun_sound (draw := drawA P) (n := n) hS (fun nt => drawA_ok hS) f vs H' v H1 hrun
  refine (h2 ρ w us hs hus).mono ?_
  rintro e w' ⟨ρ', v', rfl, hr, hout⟩
  exact ⟨ρ, v', rfl, rel_flatT hv hr, hout.forget hs hsub⟩

theorem Out.still {P : Program} {ρ : Ro} {H : AH} {w w' : World} (h : Sim P ρ H w) (h1 : w'.os = w.os) (h2 : w'.tape = w.tape) (h3 : w'.output = w.output) (h4 : w.heap.size ≤ w'.heap.size) (h5 : ∀ i, i < w.heap.size → w'.heap[i]? = w.heap[i]?) : Out P ρ H w ρ H w' := by
  refine ⟨fun _ _ => rfl, Nat.le_refl _, ⟨fun b B hB => ?_, h.inj, h.fresh, h.glob⟩, h1, h2, h3, h4, fun i hi _ => h5 i hi, fun b B r hB hr _ => ⟨b, B, r, hB, hr, rfl, id⟩⟩
  obtain ⟨r, cs, fr, vs, g1, g2, g3⟩ := h.blk b B hB
  exact ⟨r, cs, fr, vs, g1, by rw [h5 _ (Array.getElem?_eq_some_iff.1 g2).1]; exact g2, g3⟩

theorem ok1_small {P : Program} {f : FuncId} {vs : List AV} {v : AV} {n k : Nat} {m : Nat → Option Blk} {H1 : AH} (hv : flatT v = true) (hvs : vs.all flat = true) (hg : P.globals.size ≤ n)
    (hm : ∀ b B, m b = some B → b < n ∧ B.rw_ = false ∧ B.cells.all flat = true)
    (hrun : aCall P (drawB P) k f vs ⟨m, n⟩ = some (v, H1)) : Ok1 P f (fun us H => chk (us = vs ∧ n ≤ H.next ∧ (∀ b B, m b = some B → H.m b = some B)) (some (v, H))) := by
  intro us H v' H' hc
  obtain ⟨⟨rfl, hn, hsub⟩, e⟩ := chk_some hc
  cases e
  obtain ⟨h1, h2⟩ := aCallB P k f us _ v H1 hrun
  refine ⟨h1, fun ρ w xs hs hxs => ?_⟩
  have hs0 : Sim P (fun b => if b < n then ρ b else none) ⟨m, n⟩ w := by
    refine ⟨fun b B hB => ?_, fun b b' B B' r r' hB hB' hor hr hr' => ?_, fun b hb => ?_, fun g hgl => ?_⟩
    · obtain ⟨hb, hrw, hfl⟩ := hm b B hB
      obtain ⟨r, cs, fr, ws, g1, g2, g3, g4, g5, g6⟩ := hs.blk b B (hsub b B hB)
      exact ⟨r, cs, fr, ws, by simp only [if_pos hb]; exact g1, g2, g3, g4, relL_flat hfl g5, g6⟩
    · simp only [if_pos (hm b B hB).1] at hr
      simp only [if_pos (hm b' B' hB').1] at hr'
      exact hs.inj b b' B B' r r' (hsub b B hB) (hsub b' B' hB') hor hr hr'
    · exact if_neg (by simp only at hb; omega)
    · obtain ⟨l, hl⟩ := hs.glob g hgl
      exact ⟨l, by simp only [if_pos (show g < n by omega)]; exact hl⟩
  refine (h2 _ w xs hs0 (relL_flat hvs hxs)).mono ?_
  rintro e w' ⟨ρ', v', rfl, hr, hout⟩
  refine ⟨ρ, v', rfl, rel_flatT hv hr, .still hs hout.os hout.tape hout.output hout.size fun i hi => hout.keep i hi fun b B r hB hrw _ => ?_⟩
  rw [(hm b B hB).2.1] at hrw
  cases hrw
end Go.Ri
set_option linter.unusedVariables false
set_option maxRecDepth 100000
namespace Go.Proofs.YthiflgncldmkjaaDoor
open Go.Ri

noncomputable def F13_L0 (call : CallF) (it : ItF) (s54 : St) : Option (Ex × St) :=
 (idxSl (s54.1 9) (s54.1 11) 4).bind fun v57 =>
 (ptrAdd v57 0).bind fun v58 =>
 (ldOne v58 s54.2).bind fun v59 =>
 (aLen Tryd.prog 22 v59).bind fun v60 =>
 (aBin Tryd.prog .lss 3 (s54.1 15) v60).bind fun v61 =>
 (asB v61).bind fun b62 => if b62 = true then
 ((idxSl (s54.1 9) (s54.1 11) 4).bind fun v63 =>
 (ptrAdd v63 0).bind fun v64 =>
 (ldOne v64 s54.2).bind fun v65 =>
 (aBuild Tryd.prog 29 [(0, (.int .i64 1)), (1, (.int .i64 8))]).bind fun v66 =>
 (idxSl v65 (s54.1 15) 3).bind fun v67 =>
 ((aStore Tryd.prog 29 v67 v66 s54.2).map fun H' => ((.tuple [] : AV), H')).bind fun r68 =>
 (aBin Tryd.prog .add 3 (s54.1 15) (.int .i64 1)).bind fun v69 =>
 some (.normal, (updL s54.1 [(72, (s54.1 15)), (73, (s54.1 9)), (74, (s54.1 11)), (75, v57), (76, v58), (77, v59), (78, v60), (79, v61), (82, (s54.1 9)), (83, (s54.1 11)), (84, v63), (85, v64), (86, v65), (87, (s54.1 15)), (88, v66), (89, v67), (80, (s54.1 15)), (81, v69), (15, v69)]), r68.2))
 else
 (some (.exit 6, (updL s54.1 [(72, (s54.1 15)), (73, (s54.1 9)), (74, (s54.1 11)), (75, v57), (76, v58), (77, v59), (78, v60), (79, v61)]), s54.2))
noncomputable def F13_L1 (call : CallF) (it : ItF) (s37 : St) : Option (Ex × St) :=
 (ptrAdd (s37.1 12) 0).bind fun v40 =>
 (ldOne v40 s37.2).bind fun v41 =>
 (aLen Tryd.prog 22 v41).bind fun v42 =>
 (aBin Tryd.prog .lss 3 (s37.1 14) v42).bind fun v43 =>
 (asB v43).bind fun b44 => if b44 = true then
 ((ptrAdd (s37.1 12) 0).bind fun v45 =>
 (ldOne v45 s37.2).bind fun v46 =>
 (aBuild Tryd.prog 29 [(0, (.int .i64 1)), (1, (.int .i64 9))]).bind fun v47 =>
 (idxSl v46 (s37.1 14) 3).bind fun v48 =>
 ((aStore Tryd.prog 29 v48 v47 s37.2).map fun H' => ((.tuple [] : AV), H')).bind fun r49 =>
 (aBin Tryd.prog .add 3 (s37.1 14) (.int .i64 1)).bind fun v50 =>
 some (.normal, (updL s37.1 [(56, (s37.1 14)), (57, v40), (58, v41), (59, v42), (60, v43), (63, v45), (64, v46), (65, (s37.1 14)), (66, v47), (67, v48), (61, (s37.1 14)), (62, v50), (14, v50)]), r49.2))
 else
 (some (.exit 4, (updL s37.1 [(56, (s37.1 14)), (57, v40), (58, v41), (59, v42), (60, v43)]), s37.2))
noncomputable def F13_J2 (call : CallF) (it : ItF) (T70 : Tm) (H71 : AH) : Option (Ex × St) :=
 (aBin Tryd.prog .add 3 (T70 11) (.int .i64 1)).bind fun v72 =>
 some (.normal, (updL T70 [(48, (T70 11)), (49, v72), (11, v72)]), H71)
noncomputable def F13_L3 (call : CallF) (it : ItF) (s26 : St) : Option (Ex × St) :=
 (aLen Tryd.prog 36 (s26.1 0)).bind fun v29 =>
 (aBin Tryd.prog .lss 3 (s26.1 11) v29).bind fun v30 =>
 (asB v30).bind fun b31 => if b31 = true then
 (jn (
 (call 49 [(s26.1 0), (s26.1 11)] s26.2).bind fun r32 =>
 (aExtract r32.1 0).bind fun v33 =>
 (aExtract r32.1 1).bind fun v34 =>
 (nAlloc Tryd.prog 24).bind fun nb35 =>
 ((aStore Tryd.prog 24 (nb35.val r32.2.next) v33 (r32.2.new nb35.cells nb35.elem)).map fun H' => ((.tuple [] : AV), H')).bind fun r36 =>
 (it (F13_L1 call it) ((updL s26.1 [(44, (s26.1 11)), (45, (s26.1 0)), (46, v29), (47, v30), (51, (s26.1 0)), (52, (s26.1 11)), (53, r32.1), (50, r32.1), (54, v33), (55, v34), (12, (nb35.val r32.2.next)), (13, v34), (14, (.int .i64 0))]), r36.2)).bind fun r38 => match r38.1 with
 | .normal => none
 | .exit j39 => if j39 = 4 then
 ((aLen Tryd.prog 36 (r38.2.1 9)).bind fun v51 =>
 (aBin Tryd.prog .lss 3 (r38.2.1 11) v51).bind fun v52 =>
 (asB v52).bind fun b53 => if b53 = true then
 ((it (F13_L0 call it) ((updL r38.2.1 [(68, (r38.2.1 11)), (69, (r38.2.1 9)), (70, v51), (71, v52), (15, (.int .i64 0))]), r38.2.2)).bind fun r55 => match r55.1 with
 | .normal => none
 | .exit j56 => if j56 = 6 then
 (some (.inl (r55.2.1, r55.2.2)))
 else
 (if j56 = 3 then some (.inl (r55.2.1, r55.2.2)) else (some (.exit j56, r55.2.1, r55.2.2)).map .inr)
 | .ret => (some (.ret, r55.2.1, r55.2.2)).map .inr)
 else
 (some (.inl ((updL r38.2.1 [(68, (r38.2.1 11)), (69, (r38.2.1 9)), (70, v51), (71, v52)]), r38.2.2))))
 else
 (if j39 = 3 then some (.inl (r38.2.1, r38.2.2)) else (some (.exit j39, r38.2.1, r38.2.2)).map .inr)
 | .ret => (some (.ret, r38.2.1, r38.2.2)).map .inr)
 (F13_J2 call it))
 else
 (some (.exit 2, (updL s26.1 [(44, (s26.1 11)), (45, (s26.1 0)), (46, v29), (47, v30)]), s26.2))
noncomputable def F13_L4 (call : CallF) (it : ItF) (s4 : St) : Option (Ex × St) :=
 (aLen Tryd.prog 36 (s4.1 0)).bind fun v7 =>
 (aBin Tryd.prog .lss 3 (s4.1 6) v7).bind fun v8 =>
 (asB v8).bind fun b9 => if b9 = true then
 ((idxSl (s4.1 0) (s4.1 6) 4).bind fun v10 =>
 (ldAgg v10 4 s4.2).bind fun v11 =>
 (nAlloc Tryd.prog 24).bind fun nb12 =>
 ((aStore Tryd.prog 24 (nb12.val s4.2.next) v11 (s4.2.new nb12.cells nb12.elem)).map fun H' => ((.tuple [] : AV), H')).bind fun r13 =>
 (ptrAdd (nb12.val s4.2.next) 0).bind fun v14 =>
 (ldOne v14 r13.2).bind fun v15 =>
 (aAppend Tryd.prog 22 22 (.slice none 0 (.kn 0)) v15 r13.2).bind fun r16 =>
 (ptrAdd (nb12.val s4.2.next) 0).bind fun v17 =>
 ((aStore Tryd.prog 22 v17 r16.1 r16.2).map fun H' => ((.tuple [] : AV), H')).bind fun r18 =>
 (ldAgg (nb12.val s4.2.next) 4 r18.2).bind fun v19 =>
 (nBuildSlice Tryd.prog 36 1 [(0, v19)]).bind fun nb20 =>
 (aAppend Tryd.prog 36 36 (s4.1 5) (nb20.val r18.2.next) (r18.2.new nb20.cells nb20.elem)).bind fun r21 =>
 (aBin Tryd.prog .add 3 (s4.1 6) (.int .i64 1)).bind fun v22 =>
 some (.normal, (updL s4.1 [(19, (s4.1 6)), (20, (s4.1 0)), (21, v7), (22, v8), (25, (s4.1 0)), (26, (s4.1 6)), (27, v10), (28, v11), (7, (nb12.val s4.2.next)), (8, (.slice none 0 (.kn 0))), (29, (.slice none 0 (.kn 0))), (30, v14), (31, v15), (32, r16.1), (33, v17), (34, (s4.1 5)), (35, v19), (36, (nb20.val r18.2.next)), (37, r21.1), (5, r21.1), (23, (s4.1 6)), (24, v22), (6, v22)]), r21.2))
 else
 (some (.exit 0, (updL s4.1 [(19, (s4.1 6)), (20, (s4.1 0)), (21, v7), (22, v8)]), s4.2))
noncomputable def F13 (call : CallF) (it : ItF) (x0 : AV) (x1 : AV) (H : AH) : Option (AV × AH) :=
 (call 31 [x0] H).bind fun r1 =>
 (asB r1.1).bind fun b2 => if b2 = true then
 ((call 32 [] r1.2).bind fun r3 =>
 some (r3.1, r3.2))
 else
 ((it (F13_L4 call it) ((updL (T0 [x0, x1]) [(4, (.bool false)), (16, x0), (17, r1.1), (5, (.slice none 0 (.kn 0))), (6, (.int .i64 0))]), r1.2)).bind fun r5 => match r5.1 with
 | .normal => none
 | .exit j6 => if j6 = 0 then
 ((call 33 [(r5.2.1 0), (r5.2.1 1)] r5.2.2).bind fun r23 =>
 (aExtract r23.1 0).bind fun v24 =>
 (aExtract r23.1 1).bind fun v25 =>
 (it (F13_L3 call it) ((updL r5.2.1 [(39, (r5.2.1 0)), (40, (r5.2.1 1)), (41, r23.1), (38, r23.1), (42, v24), (43, v25), (9, v24), (10, v25), (11, (.int .i64 0))]), r23.2)).bind fun r27 => match r27.1 with
 | .normal => none
 | .exit j28 => if j28 = 2 then
 ((call 35 [(r27.2.1 0), (r27.2.1 5)] r27.2.2).bind fun r73 =>
 ((gdv r73.1 true).bind fun g74 => if g74 = true then (call 32 [] r73.2) else some (.tuple [], r73.2)).bind fun r75 =>
 ((asB r73.1).bind fun b76 => if b76 = true then some r75.1 else some (.bool false)).bind fun v77 =>
 some (v77, r75.2))
 else
 (none)
 | .ret => some ((r27.2.1 4), r27.2.2))
 else
 (none)
 | .ret => some ((r5.2.1 4), r5.2.2))
theorem F13_eq (call : CallF) (it : ItF) (x0 : AV) (x1 : AV) (H : AH) : aFun Tryd.prog (drawA Tryd.prog) call it 13 [x0, x1] H = F13 call it x0 x1 H :=
 (aFun_eq Tryd.func13 rfl (by kernel_rfl) _ H (Nat.le_of_ble_eq_true (by kernel_rfl))).trans (by kernel_rfl)

end Go.Proofs.YthiflgncldmkjaaDoor
set_option linter.unusedVariables false
set_option maxRecDepth 100000
namespace Go.Proofs.YthiflgncldmkjaaDoor
open Go.Ri

noncomputable def F23_J0 (call : CallF) (it : ItF) (T65 : Tm) (H66 : AH) : Option (Ex × St) :=
 (aBin Tryd.prog .add 3 (T65 45) (.int .i64 1)).bind fun v67 =>
 some (.normal, (updL T65 [(57, v67), (45, v67)]), H66)
noncomputable def F23_L1 (call : CallF) (it : ItF) (s54 : St) : Option (Ex × St) :=
 (aBin Tryd.prog .lss 3 (s54.1 45) (.int .i64 2)).bind fun v57 =>
 (asB v57).bind fun b58 => if b58 = true then
 (jn (
 (idxAgg Tryd.prog 2 2 1 (s54.1 44) (s54.1 45)).bind fun v59 =>
 (aBin Tryd.prog .lss 3 (s54.1 45) (s54.1 5)).bind fun v60 =>
 (asB v60).bind fun b61 => if b61 = true then
 ((call 62 [v59] s54.2).bind fun r62 =>
 (nBuildSlice Tryd.prog 90 1 [(0, r62.1)]).bind fun nb63 =>
 (aAppend Tryd.prog 90 90 (s54.1 4) (nb63.val r62.2.next) (r62.2.new nb63.cells nb63.elem)).bind fun r64 =>
 some (.inl ((updL s54.1 [(46, v57), (47, (s54.1 45)), (48, v59), (6, (s54.1 45)), (7, v59), (49, (s54.1 45)), (50, (s54.1 5)), (51, v60), (52, (s54.1 4)), (53, v59), (54, r62.1), (55, (nb63.val r62.2.next)), (56, r64.1), (4, r64.1)]), r64.2)))
 else
 (some (.inl ((updL s54.1 [(46, v57), (47, (s54.1 45)), (48, v59), (6, (s54.1 45)), (7, v59), (49, (s54.1 45)), (50, (s54.1 5)), (51, v60)]), s54.2))))
 (F23_J0 call it))
 else
 (some (.exit 0, (updL s54.1 [(46, v57)]), s54.2))
noncomputable def F23 (call : CallF) (it : ItF) (x0 : AV) (H : AH) : Option (AV × AH) :=
 (nBox 29 x0).bind fun nb1 =>
 (ptrAdd (nb1.val H.next) 0).bind fun v2 =>
 (ldOne v2 (H.new nb1.cells nb1.elem)).bind fun v3 =>
 (aBin Tryd.prog .lss 3 v3 (.int .i64 1)).bind fun v4 =>
 ((gdv v4 false).bind fun g5 => if g5 = true then (ptrAdd (nb1.val H.next) 0) else some (.tuple [])).bind fun v6 =>
 ((gdv v4 false).bind fun g7 => if g7 = true then (ldOne v6 (H.new nb1.cells nb1.elem)) else some (.tuple [])).bind fun v8 =>
 ((gdv v4 false).bind fun g9 => if g9 = true then (aBin Tryd.prog .gtr 3 v8 (.int .i64 25)) else some (.tuple [])).bind fun v10 =>
 ((asB v4).bind fun b11 => if b11 = true then some (.bool true) else some v10).bind fun v12 =>
 (asB v12).bind fun b13 => if b13 = true then
 (some ((.tuple [(.str ⟨#[]⟩), (.int .i64 61)]), (H.new nb1.cells nb1.elem)))
 else
 ((ptrAdd (nb1.val H.next) 0).bind fun v14 =>
 (ldOne v14 (H.new nb1.cells nb1.elem)).bind fun v15 =>
 (idxPtr (.ptr (some (0, 0))) v15 26 1).bind fun v16 =>
 (ldOne v16 (H.new nb1.cells nb1.elem)).bind fun v17 =>
 (nBuildSlice Tryd.prog 90 1 [(0, v17)]).bind fun nb18 =>
 (ptrAdd (nb1.val H.next) 0).bind fun v19 =>
 (ldOne v19 ((H.new nb1.cells nb1.elem).new nb18.cells nb18.elem)).bind fun v20 =>
 (call 65 [v20] ((H.new nb1.cells nb1.elem).new nb18.cells nb18.elem)).bind fun r21 =>
 (aBin Tryd.prog .lss 3 r21.1 (.int .i64 1)).bind fun v22 =>
 ((gdv v22 true).bind fun g23 => if g23 = true then (ptrAdd (nb1.val H.next) 1) else some (.tuple [])).bind fun v24 =>
 ((gdv v22 true).bind fun g25 => if g25 = true then (ldOne v24 r21.2) else some (.tuple [])).bind fun v26 =>
 ((gdv v22 true).bind fun g27 => if g27 = true then (aBin Tryd.prog .neq 2 v26 (.int .i64 0)) else some (.tuple [])).bind fun v28 =>
 ((asB v22).bind fun b29 => if b29 = true then some v28 else some (.bool false)).bind fun v30 =>
 ((gdv v30 false).bind fun g31 => if g31 = true then (some r21.1) else some (.tuple [])).bind fun v32 =>
 ((gdv v30 false).bind fun g33 => if g33 = true then (aBin Tryd.prog .lss 3 v32 (.int .i64 2)) else some (.tuple [])).bind fun v34 =>
 ((gdv v30 false).bind fun g35 => if g35 = true then (some v34) else some (.tuple [])).bind fun v36 =>
 ((gdv v36 true).bind fun g37 => if g37 = true then (ptrAdd (nb1.val H.next) 2) else some (.tuple [])).bind fun v38 =>
 ((gdv v36 true).bind fun g39 => if g39 = true then (ldOne v38 r21.2) else some (.tuple [])).bind fun v40 =>
 ((gdv v36 true).bind fun g41 => if g41 = true then (aBin Tryd.prog .neq 2 v40 (.int .i64 0)) else some (.tuple [])).bind fun v42 =>
 ((gdv v30 false).bind fun g44 => if g44 = true then ((asB v36).bind fun b43 => if b43 = true then some v42 else some (.bool false)) else some (.tuple [])).bind fun v45 =>
 ((asB v30).bind fun b46 => if b46 = true then some (.bool true) else some v45).bind fun v47 =>
 (asB v47).bind fun b48 => if b48 = true then
 (some ((.tuple [(.str ⟨#[]⟩), (.int .i64 61)]), r21.2))
 else
 ((ptrAdd (nb1.val H.next) 1).bind fun v49 =>
 (ldOne v49 r21.2).bind fun v50 =>
 (ptrAdd (nb1.val H.next) 2).bind fun v51 =>
 (ldOne v51 r21.2).bind fun v52 =>
 (aBuild Tryd.prog 91 [(0, v50), (1, v52)]).bind fun v53 =>
 (it (F23_L1 call it) ((updL (T0 [x0]) [(1, (nb1.val H.next)), (2, (.str ⟨#[]⟩)), (3, (.int .i64 0)), (8, v2), (9, v3), (10, v4), (11, v4), (12, v6), (13, v8), (14, v10), (15, v12), (16, v14), (17, v15), (18, v16), (19, v17), (20, (nb18.val (H.new nb1.cells nb1.elem).next)), (4, (nb18.val (H.new nb1.cells nb1.elem).next)), (21, v19), (22, v20), (23, r21.1), (5, r21.1), (24, r21.1), (25, v22), (26, v22), (27, v24), (28, v26), (29, v28), (30, v30), (31, v30), (32, v32), (33, v34), (34, v36), (35, v38), (36, v40), (37, v42), (38, v45), (39, v47), (40, v49), (41, v50), (42, v51), (43, v52), (44, v53), (45, (.int .i64 0))]), r21.2)).bind fun r55 => match r55.1 with
 | .normal => none
 | .exit j56 => if j56 = 0 then
 ((call 66 [(r55.2.1 4)] r55.2.2).bind fun r68 =>
 some ((.tuple [r68.1, (.int .i64 0)]), r68.2))
 else
 (none)
 | .ret => some ((.tuple [(r55.2.1 2), (r55.2.1 3)]), r55.2.2)))
theorem F23_eq (call : CallF) (it : ItF) (x0 : AV) (H : AH) : aFun Tryd.prog (drawA Tryd.prog) call it 23 [x0] H = F23 call it x0 H :=
 (aFun_eq Tryd.func23 rfl (by kernel_rfl) _ H (Nat.le_of_ble_eq_true (by kernel_rfl))).trans (by kernel_rfl)

end Go.Proofs.YthiflgncldmkjaaDoor
set_option linter.unusedVariables false
set_option maxRecDepth 100000
namespace Go.Proofs.YthiflgncldmkjaaDoor
open Go.Ri

noncomputable def F26_L0 (call : CallF) (it : ItF) (s1 : St) : Option (Ex × St) :=
 (aLen Tryd.prog 36 (s1.1 0)).bind fun v4 =>
 (aBin Tryd.prog .lss 3 (s1.1 6) v4).bind fun v5 =>
 ((gdv v5 true).bind fun g6 => if g6 = true then (some (s1.1 5)) else some (.tuple [])).bind fun v7 =>
 ((gdv v5 true).bind fun g8 => if g8 = true then (some (s1.1 1)) else some (.tuple [])).bind fun v9 =>
 ((gdv v5 true).bind fun g10 => if g10 = true then (aBin Tryd.prog .leq 3 v7 v9) else some (.tuple [])).bind fun v11 =>
 ((asB v5).bind fun b12 => if b12 = true then some v11 else some (.bool false)).bind fun v13 =>
 (asB v13).bind fun b14 => if b14 = true then
 ((aBin Tryd.prog .add 3 (s1.1 5) (.int .i64 1)).bind fun v15 =>
 (idxSl (s1.1 0) (s1.1 6) 4).bind fun v16 =>
 (ptrAdd v16 0).bind fun v17 =>
 (ldOne v17 s1.2).bind fun v18 =>
 (aLen Tryd.prog 22 v18).bind fun v19 =>
 (aBin Tryd.prog .add 3 v15 v19).bind fun v20 =>
 (aBin Tryd.prog .add 3 (s1.1 6) (.int .i64 1)).bind fun v21 =>
 some (.normal, (updL s1.1 [(7, (s1.1 6)), (8, (s1.1 0)), (9, v4), (10, v5), (11, v5), (12, v7), (13, v9), (14, v11), (15, v13), (18, (s1.1 5)), (19, v15), (20, (s1.1 0)), (21, (s1.1 6)), (22, v16), (23, v17), (24, v18), (25, v19), (26, v20), (5, v20), (16, (s1.1 6)), (17, v21), (6, v21)]), s1.2))
 else
 (some (.exit 0, (updL s1.1 [(7, (s1.1 6)), (8, (s1.1 0)), (9, v4), (10, v5), (11, v5), (12, v7), (13, v9), (14, v11), (15, v13)]), s1.2))
noncomputable def F26 (call : CallF) (it : ItF) (x0 : AV) (x1 : AV) (H : AH) : Option (AV × AH) :=
 (it (F26_L0 call it) ((updL (T0 [x0, x1]) [(4, (.int .i64 0)), (5, (.int .i64 0)), (6, (.int .i64 0))]), H)).bind fun r2 => match r2.1 with
 | .normal => none
 | .exit j3 => if j3 = 0 then
 (some ((r2.2.1 5), r2.2.2))
 else
 (none)
 | .ret => some ((r2.2.1 4), r2.2.2)
theorem F26_eq (call : CallF) (it : ItF) (x0 : AV) (x1 : AV) (H : AH) : aFun Tryd.prog (drawA Tryd.prog) call it 26 [x0, x1] H = F26 call it x0 x1 H :=
 (aFun_eq Tryd.func26 rfl (by kernel_rfl) _ H (Nat.le_of_ble_eq_true (by kernel_rfl))).trans (by kernel_rfl)

noncomputable def F27_L0 (call : CallF) (it : ItF) (s55 : St) : Option (Ex × St) :=
 (aBin Tryd.prog .lss 3 (s55.1 43) (s55.1 42)).bind fun v58 =>
 (asB v58).bind fun b59 => if b59 = true then
 ((call 28 [(s55.1 0), (s55.1 43)] s55.2).bind fun r60 =>
 (aExtract r60.1 0).bind fun v61 =>
 (aExtract r60.1 1).bind fun v62 =>
 (aUn .not v62).bind fun v63 =>
 (asB v63).bind fun b64 => if b64 = true then
 (some (.ret, (updL s55.1 [(44, v58), (45, (s55.1 43)), (5, (s55.1 43)), (47, (s55.1 0)), (48, (s55.1 43)), (49, r60.1), (46, r60.1), (50, v61), (51, v62), (6, v61), (7, v62), (52, v62), (53, v63), (4, (.bool false))]), r60.2))
 else
 ((aBin Tryd.prog .add 3 (s55.1 43) (.int .i64 1)).bind fun v65 =>
 some (.normal, (updL s55.1 [(44, v58), (45, (s55.1 43)), (5, (s55.1 43)), (47, (s55.1 0)), (48, (s55.1 43)), (49, r60.1), (46, r60.1), (50, v61), (51, v62), (6, v61), (7, v62), (52, v62), (53, v63), (54, v65), (43, v65)]), r60.2)))
 else
 (some (.exit 0, (updL s55.1 [(44, v58)]), s55.2))
noncomputable def F27 (call : CallF) (it : ItF) (x0 : AV) (x1 : AV) (H : AH) : Option (AV × AH) :=
 (aLen Tryd.prog 36 x0).bind fun v1 =>
 (aBin Tryd.prog .lss 3 v1 (.int .i64 1)).bind fun v2 =>
 ((gdv v2 false).bind fun g3 => if g3 = true then (some x0) else some (.tuple [])).bind fun v4 =>
 ((gdv v2 false).bind fun g5 => if g5 = true then (aLen Tryd.prog 36 v4) else some (.tuple [])).bind fun v6 =>
 ((gdv v2 false).bind fun g7 => if g7 = true then (aBin Tryd.prog .gtr 3 v6 (.int .i64 40)) else some (.tuple [])).bind fun v8 =>
 ((asB v2).bind fun b9 => if b9 = true then some (.bool true) else some v8).bind fun v10 =>
 ((gdv v10 false).bind fun g11 => if g11 = true then (some x1) else some (.tuple [])).bind fun v12 =>
 ((gdv v10 false).bind fun g13 => if g13 = true then (aBin Tryd.prog .lss 3 v12 (.int .i64 0)) else some (.tuple [])).bind fun v14 =>
 ((asB v10).bind fun b15 => if b15 = true then some (.bool true) else some v14).bind fun v16 =>
 ((gdv v16 false).bind fun g17 => if g17 = true then (some x1) else some (.tuple [])).bind fun v18 =>
 ((gdv v16 false).bind fun g19 => if g19 = true then (some x0) else some (.tuple [])).bind fun v20 =>
 ((gdv v16 false).bind fun g21 => if g21 = true then (aLen Tryd.prog 36 v20) else some (.tuple [])).bind fun v22 =>
 ((gdv v16 false).bind fun g23 => if g23 = true then (aBin Tryd.prog .geq 3 v18 v22) else some (.tuple [])).bind fun v24 =>
 ((asB v16).bind fun b25 => if b25 = true then some (.bool true) else some v24).bind fun v26 =>
 ((gdv v26 false).bind fun g27 => if g27 = true then (some x0) else some (.tuple [])).bind fun v28 =>
 ((gdv v26 false).bind fun g29 => if g29 = true then (some x1) else some (.tuple [])).bind fun v30 =>
 ((gdv v26 false).bind fun g31 => if g31 = true then (idxSl v28 v30 4) else some (.tuple [])).bind fun v32 =>
 ((gdv v26 false).bind fun g33 => if g33 = true then (ptrAdd v32 2) else some (.tuple [])).bind fun v34 =>
 ((gdv v26 false).bind fun g35 => if g35 = true then (ldOne v34 H) else some (.tuple [])).bind fun v36 =>
 ((gdv v26 false).bind fun g37 => if g37 = true then (aBin Tryd.prog .neq 3 v36 (.int .i64 0)) else some (.tuple [])).bind fun v38 =>
 ((asB v26).bind fun b39 => if b39 = true then some (.bool true) else some v38).bind fun v40 =>
 ((gdv v40 false).bind fun g41 => if g41 = true then (some x0) else some (.tuple [])).bind fun v42 =>
 ((gdv v40 false).bind fun g43 => if g43 = true then (some x1) else some (.tuple [])).bind fun v44 =>
 ((gdv v40 false).bind fun g45 => if g45 = true then (idxSl v42 v44 4) else some (.tuple [])).bind fun v46 =>
 ((gdv v40 false).bind fun g47 => if g47 = true then (ptrAdd v46 3) else some (.tuple [])).bind fun v48 =>
 ((gdv v40 false).bind fun g49 => if g49 = true then (ldOne v48 H) else some (.tuple [])).bind fun v50 =>
 ((asB v40).bind fun b51 => if b51 = true then some (.bool true) else some v50).bind fun v52 =>
 (asB v52).bind fun b53 => if b53 = true then
 (some ((.bool false), H))
 else
 ((aLen Tryd.prog 36 x0).bind fun v54 =>
 (it (F27_L0 call it) ((updL (T0 [x0, x1]) [(4, (.bool false)), (8, x0), (9, v1), (10, v2), (11, v2), (12, v4), (13, v6), (14, v8), (15, v10), (16, v10), (17, v12), (18, v14), (19, v16), (20, v16), (21, v18), (22, v20), (23, v22), (24, v24), (25, v26), (26, v26), (27, v28), (28, v30), (29, v32), (30, v34), (31, v36), (32, v38), (33, v40), (34, v40), (35, v42), (36, v44), (37, v46), (38, v48), (39, v50), (40, v52), (41, x0), (42, v54), (43, (.int .i64 0))]), H)).bind fun r56 => match r56.1 with
 | .normal => none
 | .exit j57 => if j57 = 0 then
 (some ((.bool true), r56.2.2))
 else
 (none)
 | .ret => some ((r56.2.1 4), r56.2.2))
theorem F27_eq (call : CallF) (it : ItF) (x0 : AV) (x1 : AV) (H : AH) : aFun Tryd.prog (drawA Tryd.prog) call it 27 [x0, x1] H = F27 call it x0 x1 H :=
 (aFun_eq Tryd.func27 rfl (by kernel_rfl) _ H (Nat.le_of_ble_eq_true (by kernel_rfl))).trans (by kernel_rfl)

noncomputable def F28 (call : CallF) (it : ItF) (x0 : AV) (x1 : AV) (H : AH) : Option (AV × AH) :=
 (aBin Tryd.prog .lss 3 x1 (.int .i64 0)).bind fun v1 =>
 ((gdv v1 false).bind fun g2 => if g2 = true then (some x1) else some (.tuple [])).bind fun v3 =>
 ((gdv v1 false).bind fun g4 => if g4 = true then (some x0) else some (.tuple [])).bind fun v5 =>
 ((gdv v1 false).bind fun g6 => if g6 = true then (aLen Tryd.prog 36 v5) else some (.tuple [])).bind fun v7 =>
 ((gdv v1 false).bind fun g8 => if g8 = true then (aBin Tryd.prog .geq 3 v3 v7) else some (.tuple [])).bind fun v9 =>
 ((asB v1).bind fun b10 => if b10 = true then some (.bool true) else some v9).bind fun v11 =>
 (asB v11).bind fun b12 => if b12 = true then
 (some ((.tuple [(.slice none 0 (.kn 0)), (.bool false)]), H))
 else
 ((idxSl x0 x1 4).bind fun v13 =>
 (ldAgg v13 4 H).bind fun v14 =>
 (aBuild Tryd.prog 100 [(0, x0), (1, v14)]).bind fun v15 =>
 (nBox 100 v15).bind fun nb16 =>
 (call 69 [(nb16.val H.next)] (H.new nb16.cells nb16.elem)).bind fun r17 =>
 (aUn .not r17.1).bind fun v18 =>
 (asB v18).bind fun b19 => if b19 = true then
 (some ((.tuple [(.slice none 0 (.kn 0)), (.bool false)]), r17.2))
 else
 ((nilC (nb16.val H.next)).bind fun v20 =>
 (ptrAdd v20 5).bind fun v21 =>
 (ldOne v21 r17.2).bind fun v22 =>
 some ((.tuple [v22, (.bool true)]), r17.2)))
theorem F28_eq (call : CallF) (it : ItF) (x0 : AV) (x1 : AV) (H : AH) : aFun Tryd.prog (drawA Tryd.prog) call it 28 [x0, x1] H = F28 call it x0 x1 H :=
 (aFun_eq Tryd.func28 rfl (by kernel_rfl) _ H (Nat.le_of_ble_eq_true (by kernel_rfl))).trans (by kernel_rfl)

noncomputable def F31_L0 (call : CallF) (it : ItF) (s12 : St) : Option (Ex × St) :=
 (aLen Tryd.prog 36 (s12.1 0)).bind fun v15 =>
 (aBin Tryd.prog .lss 3 (s12.1 3) v15).bind fun v16 =>
 (asB v16).bind fun b17 => if b17 = true then
 ((idxSl (s12.1 0) (s12.1 3) 4).bind fun v18 =>
 (ptrAdd v18 1).bind fun v19 =>
 (ldOne v19 s12.2).bind fun v20 =>
 (aBin Tryd.prog .gtr 3 v20 (.int .i64 300)).bind fun v21 =>
 ((gdv v21 true).bind fun g22 => if g22 = true then (some (s12.1 0)) else some (.tuple [])).bind fun v23 =>
 ((gdv v21 true).bind fun g24 => if g24 = true then (some (s12.1 3)) else some (.tuple [])).bind fun v25 =>
 ((gdv v21 true).bind fun g26 => if g26 = true then (idxSl v23 v25 4) else some (.tuple [])).bind fun v27 =>
 ((gdv v21 true).bind fun g28 => if g28 = true then (ptrAdd v27 1) else some (.tuple [])).bind fun v29 =>
 ((gdv v21 true).bind fun g30 => if g30 = true then (ldOne v29 s12.2) else some (.tuple [])).bind fun v31 =>
 ((gdv v21 true).bind fun g32 => if g32 = true then (aBin Tryd.prog .leq 3 v31 (.int .i64 65536)) else some (.tuple [])).bind fun v33 =>
 ((asB v21).bind fun b34 => if b34 = true then some v33 else some (.bool false)).bind fun v35 =>
 (asB v35).bind fun b36 => if b36 = true then
 (some (.ret, (updL s12.1 [(12, (s12.1 3)), (13, (s12.1 0)), (14, v15), (15, v16), (18, (s12.1 0)), (19, (s12.1 3)), (20, v18), (21, v19), (22, v20), (23, v21), (24, v21), (25, v23), (26, v25), (27, v27), (28, v29), (29, v31), (30, v33), (31, v35), (2, (.bool true))]), s12.2))
 else
 ((aBin Tryd.prog .add 3 (s12.1 3) (.int .i64 1)).bind fun v37 =>
 some (.normal, (updL s12.1 [(12, (s12.1 3)), (13, (s12.1 0)), (14, v15), (15, v16), (18, (s12.1 0)), (19, (s12.1 3)), (20, v18), (21, v19), (22, v20), (23, v21), (24, v21), (25, v23), (26, v25), (27, v27), (28, v29), (29, v31), (30, v33), (31, v35), (16, (s12.1 3)), (17, v37), (3, v37)]), s12.2)))
 else
 (some (.exit 0, (updL s12.1 [(12, (s12.1 3)), (13, (s12.1 0)), (14, v15), (15, v16)]), s12.2))
noncomputable def F31 (call : CallF) (it : ItF) (x0 : AV) (H : AH) : Option (AV × AH) :=
 (aLen Tryd.prog 36 x0).bind fun v1 =>
 (aBin Tryd.prog .gtr 3 v1 (.int .i64 50)).bind fun v2 =>
 ((gdv v2 false).bind fun g3 => if g3 = true then (some x0) else some (.tuple [])).bind fun v4 =>
 ((gdv v2 false).bind fun g5 => if g5 = true then (call 26 [v4, (.int .i64 400)] H) else some (.tuple [], H)).bind fun r6 =>
 ((gdv v2 false).bind fun g7 => if g7 = true then (aBin Tryd.prog .gtr 3 r6.1 (.int .i64 400)) else some (.tuple [])).bind fun v8 =>
 ((asB v2).bind fun b9 => if b9 = true then some (.bool true) else some v8).bind fun v10 =>
 (asB v10).bind fun b11 => if b11 = true then
 (some ((.bool true), r6.2))
 else
 ((it (F31_L0 call it) ((updL (T0 [x0]) [(2, (.bool false)), (4, x0), (5, v1), (6, v2), (7, v2), (8, v4), (9, r6.1), (10, v8), (11, v10), (3, (.int .i64 0))]), r6.2)).bind fun r13 => match r13.1 with
 | .normal => none
 | .exit j14 => if j14 = 0 then
 (some ((.bool false), r13.2.2))
 else
 (none)
 | .ret => some ((r13.2.1 2), r13.2.2))
theorem F31_eq (call : CallF) (it : ItF) (x0 : AV) (H : AH) : aFun Tryd.prog (drawA Tryd.prog) call it 31 [x0] H = F31 call it x0 H :=
 (aFun_eq Tryd.func31 rfl (by kernel_rfl) _ H (Nat.le_of_ble_eq_true (by kernel_rfl))).trans (by kernel_rfl)

noncomputable def F33_L0 (call : CallF) (it : ItF) (s17 : St) : Option (Ex × St) :=
 (asB (s17.1 10)).bind fun b20 => if b20 = true then
 ((call 73 [(s17.1 9)] s17.2).bind fun r21 =>
 (aExtract r21.1 0).bind fun v22 =>
 (aExtract r21.1 1).bind fun v23 =>
 some (.normal, (updL s17.1 [(24, (s17.1 10)), (26, (s17.1 9)), (27, r21.1), (25, r21.1), (28, v22), (29, v23), (9, v22), (10, v23)]), r21.2))
 else
 (some (.exit 2, (updL s17.1 [(24, (s17.1 10))]), s17.2))
noncomputable def F33_L1 (call : CallF) (it : ItF) (s5 : St) : Option (Ex × St) :=
 (aBin Tryd.prog .lss 3 (s5.1 17) (s5.1 16)).bind fun v8 =>
 (asB v8).bind fun b9 => if b9 = true then
 ((idxSl (s5.1 15) (s5.1 17) 4).bind fun v10 =>
 (ldAgg v10 4 s5.2).bind fun v11 =>
 (nAlloc Tryd.prog 24).bind fun nb12 =>
 ((aStore Tryd.prog 24 (nb12.val s5.2.next) v11 (s5.2.new nb12.cells nb12.elem)).map fun H' => ((.tuple [] : AV), H')).bind fun r13 =>
 (ptrAdd (nb12.val s5.2.next) 0).bind fun v14 =>
 (ldOne v14 r13.2).bind fun v15 =>
 (aAppend Tryd.prog 22 22 (.slice none 0 (.kn 0)) v15 r13.2).bind fun r16 =>
 (it (F33_L0 call it) ((updL s5.1 [(18, v8), (19, v10), (20, v11), (8, (nb12.val s5.2.next)), (21, v14), (22, v15), (23, r16.1), (9, r16.1), (10, (.bool true))]), r16.2)).bind fun r18 => match r18.1 with
 | .normal => none
 | .exit j19 => if j19 = 2 then
 ((ptrAdd (r18.2.1 8) 0).bind fun v24 =>
 ((aStore Tryd.prog 22 v24 (r18.2.1 9) r18.2.2).map fun H' => ((.tuple [] : AV), H')).bind fun r25 =>
 (ldAgg (r18.2.1 8) 4 r25.2).bind fun v26 =>
 (nBuildSlice Tryd.prog 36 1 [(0, v26)]).bind fun nb27 =>
 (aAppend Tryd.prog 36 36 (r18.2.1 6) (nb27.val r25.2.next) (r25.2.new nb27.cells nb27.elem)).bind fun r28 =>
 (aBin Tryd.prog .add 3 (r18.2.1 17) (.int .i64 1)).bind fun v29 =>
 some (.normal, (updL r18.2.1 [(30, (r18.2.1 9)), (31, v24), (32, (r18.2.1 6)), (33, v26), (34, (nb27.val r25.2.next)), (35, r28.1), (6, r28.1), (36, v29), (17, v29)]), r28.2))
 else
 (if j19 = 1 then
 ((aBin Tryd.prog .add 3 (r18.2.1 17) (.int .i64 1)).bind fun v30 =>
 some (.normal, (updL r18.2.1 [(36, v30), (17, v30)]), r18.2.2))
 else
 (some (.exit j19, r18.2.1, r18.2.2)))
 | .ret => some (.ret, r18.2.1, r18.2.2))
 else
 (some (.exit 0, (updL s5.1 [(18, v8)]), s5.2))
noncomputable def F33 (call : CallF) (it : ItF) (x0 : AV) (x1 : AV) (H : AH) : Option (AV × AH) :=
 (call 27 [x0, x1] H).bind fun r1 =>
 (aUn .not r1.1).bind fun v2 =>
 (asB v2).bind fun b3 => if b3 = true then
 (some ((.tuple [(.slice none 0 (.kn 0)), (.int .i64 60)]), r1.2))
 else
 ((aLen Tryd.prog 36 x0).bind fun v4 =>
 (it (F33_L1 call it) ((updL (T0 [x0, x1]) [(4, (.slice none 0 (.kn 0))), (5, (.int .i64 0)), (11, x0), (12, x1), (13, r1.1), (14, v2), (6, (.slice none 0 (.kn 0))), (15, x0), (16, v4), (17, (.int .i64 0))]), r1.2)).bind fun r6 => match r6.1 with
 | .normal => none
 | .exit j7 => if j7 = 0 then
 (some ((.tuple [(r6.2.1 6), (.int .i64 0)]), r6.2.2))
 else
 (none)
 | .ret => some ((.tuple [(r6.2.1 4), (r6.2.1 5)]), r6.2.2))
theorem F33_eq (call : CallF) (it : ItF) (x0 : AV) (x1 : AV) (H : AH) : aFun Tryd.prog (drawA Tryd.prog) call it 33 [x0, x1] H = F33 call it x0 x1 H :=
 (aFun_eq Tryd.func33 rfl (by kernel_rfl) _ H (Nat.le_of_ble_eq_true (by kernel_rfl))).trans (by kernel_rfl)

noncomputable def F35_L0 (call : CallF) (it : ItF) (s95 : St) : Option (Ex × St) :=
 (idxSl (s95.1 0) (s95.1 5) 4).bind fun v98 =>
 (ptrAdd v98 0).bind fun v99 =>
 (ldOne v99 s95.2).bind fun v100 =>
 (aLen Tryd.prog 22 v100).bind fun v101 =>
 (aBin Tryd.prog .lss 3 (s95.1 6) v101).bind fun v102 =>
 (asB v102).bind fun b103 => if b103 = true then
 ((idxSl (s95.1 0) (s95.1 5) 4).bind fun v104 =>
 (ptrAdd v104 0).bind fun v105 =>
 (ldOne v105 s95.2).bind fun v106 =>
 (idxSl v106 (s95.1 6) 3).bind fun v107 =>
 (ldAgg v107 3 s95.2).bind fun v108 =>
 (idxSl (s95.1 1) (s95.1 5) 4).bind fun v109 =>
 (ptrAdd v109 0).bind fun v110 =>
 (ldOne v110 s95.2).bind fun v111 =>
 (idxSl v111 (s95.1 6) 3).bind fun v112 =>
 (ldAgg v112 3 s95.2).bind fun v113 =>
 (aBin Tryd.prog .neq 29 v108 v113).bind fun v114 =>
 (asB v114).bind fun b115 => if b115 = true then
 (some (.ret, (updL s95.1 [(70, (s95.1 6)), (71, (s95.1 0)), (72, (s95.1 5)), (73, v98), (74, v99), (75, v100), (76, v101), (77, v102), (80, (s95.1 0)), (81, (s95.1 5)), (82, v104), (83, v105), (84, v106), (85, (s95.1 6)), (86, v107), (87, v108), (88, (s95.1 1)), (89, (s95.1 5)), (90, v109), (91, v110), (92, v111), (93, (s95.1 6)), (94, v112), (95, v113), (96, v114), (4, (.bool false))]), s95.2))
 else
 ((aBin Tryd.prog .add 3 (s95.1 6) (.int .i64 1)).bind fun v116 =>
 some (.normal, (updL s95.1 [(70, (s95.1 6)), (71, (s95.1 0)), (72, (s95.1 5)), (73, v98), (74, v99), (75, v100), (76, v101), (77, v102), (80, (s95.1 0)), (81, (s95.1 5)), (82, v104), (83, v105), (84, v106), (85, (s95.1 6)), (86, v107), (87, v108), (88, (s95.1 1)), (89, (s95.1 5)), (90, v109), (91, v110), (92, v111), (93, (s95.1 6)), (94, v112), (95, v113), (96, v114), (78, (s95.1 6)), (79, v116), (6, v116)]), s95.2)))
 else
 (some (.exit 2, (updL s95.1 [(70, (s95.1 6)), (71, (s95.1 0)), (72, (s95.1 5)), (73, v98), (74, v99), (75, v100), (76, v101), (77, v102)]), s95.2))
noncomputable def F35_L1 (call : CallF) (it : ItF) (s5 : St) : Option (Ex × St) :=
 (aLen Tryd.prog 36 (s5.1 0)).bind fun v8 =>
 (aBin Tryd.prog .lss 3 (s5.1 5) v8).bind fun v9 =>
 (asB v9).bind fun b10 => if b10 = true then
 ((idxSl (s5.1 0) (s5.1 5) 4).bind fun v11 =>
 (ptrAdd v11 1).bind fun v12 =>
 (ldOne v12 s5.2).bind fun v13 =>
 (idxSl (s5.1 1) (s5.1 5) 4).bind fun v14 =>
 (ptrAdd v14 1).bind fun v15 =>
 (ldOne v15 s5.2).bind fun v16 =>
 (aBin Tryd.prog .neq 3 v13 v16).bind fun v17 =>
 ((gdv v17 false).bind fun g18 => if g18 = true then (some (s5.1 0)) else some (.tuple [])).bind fun v19 =>
 ((gdv v17 false).bind fun g20 => if g20 = true then (some (s5.1 5)) else some (.tuple [])).bind fun v21 =>
 ((gdv v17 false).bind fun g22 => if g22 = true then (idxSl v19 v21 4) else some (.tuple [])).bind fun v23 =>
 ((gdv v17 false).bind fun g24 => if g24 = true then (ptrAdd v23 2) else some (.tuple [])).bind fun v25 =>
 ((gdv v17 false).bind fun g26 => if g26 = true then (ldOne v25 s5.2) else some (.tuple [])).bind fun v27 =>
 ((gdv v17 false).bind fun g28 => if g28 = true then (some (s5.1 1)) else some (.tuple [])).bind fun v29 =>
 ((gdv v17 false).bind fun g30 => if g30 = true then (some (s5.1 5)) else some (.tuple [])).bind fun v31 =>
 ((gdv v17 false).bind fun g32 => if g32 = true then (idxSl v29 v31 4) else some (.tuple [])).bind fun v33 =>
 ((gdv v17 false).bind fun g34 => if g34 = true then (ptrAdd v33 2) else some (.tuple [])).bind fun v35 =>
 ((gdv v17 false).bind fun g36 => if g36 = true then (ldOne v35 s5.2) else some (.tuple [])).bind fun v37 =>
 ((gdv v17 false).bind fun g38 => if g38 = true then (aBin Tryd.prog .neq 3 v27 v37) else some (.tuple [])).bind fun v39 =>
 ((asB v17).bind fun b40 => if b40 = true then some (.bool true) else some v39).bind fun v41 =>
 ((gdv v41 false).bind fun g42 => if g42 = true then (some (s5.1 0)) else some (.tuple [])).bind fun v43 =>
 ((gdv v41 false).bind fun g44 => if g44 = true then (some (s5.1 5)) else some (.tuple [])).bind fun v45 =>
 ((gdv v41 false).bind fun g46 => if g46 = true then (idxSl v43 v45 4) else some (.tuple [])).bind fun v47 =>
 ((gdv v41 false).bind fun g48 => if g48 = true then (ptrAdd v47 3) else some (.tuple [])).bind fun v49 =>
 ((gdv v41 false).bind fun g50 => if g50 = true then (ldOne v49 s5.2) else some (.tuple [])).bind fun v51 =>
 ((gdv v41 false).bind fun g52 => if g52 = true then (some (s5.1 1)) else some (.tuple [])).bind fun v53 =>
 ((gdv v41 false).bind fun g54 => if g54 = true then (some (s5.1 5)) else some (.tuple [])).bind fun v55 =>
 ((gdv v41 false).bind fun g56 => if g56 = true then (idxSl v53 v55 4) else some (.tuple [])).bind fun v57 =>
 ((gdv v41 false).bind fun g58 => if g58 = true then (ptrAdd v57 3) else some (.tuple [])).bind fun v59 =>
 ((gdv v41 false).bind fun g60 => if g60 = true then (ldOne v59 s5.2) else some (.tuple [])).bind fun v61 =>
 ((gdv v41 false).bind fun g62 => if g62 = true then (aBin Tryd.prog .neq 4 v51 v61) else some (.tuple [])).bind fun v63 =>
 ((asB v41).bind fun b64 => if b64 = true then some (.bool true) else some v63).bind fun v65 =>
 ((gdv v65 false).bind fun g66 => if g66 = true then (some (s5.1 0)) else some (.tuple [])).bind fun v67 =>
 ((gdv v65 false).bind fun g68 => if g68 = true then (some (s5.1 5)) else some (.tuple [])).bind fun v69 =>
 ((gdv v65 false).bind fun g70 => if g70 = true then (idxSl v67 v69 4) else some (.tuple [])).bind fun v71 =>
 ((gdv v65 false).bind fun g72 => if g72 = true then (ptrAdd v71 0) else some (.tuple [])).bind fun v73 =>
 ((gdv v65 false).bind fun g74 => if g74 = true then (ldOne v73 s5.2) else some (.tuple [])).bind fun v75 =>
 ((gdv v65 false).bind fun g76 => if g76 = true then (aLen Tryd.prog 22 v75) else some (.tuple [])).bind fun v77 =>
 ((gdv v65 false).bind fun g78 => if g78 = true then (some (s5.1 1)) else some (.tuple [])).bind fun v79 =>
 ((gdv v65 false).bind fun g80 => if g80 = true then (some (s5.1 5)) else some (.tuple [])).bind fun v81 =>
 ((gdv v65 false).bind fun g82 => if g82 = true then (idxSl v79 v81 4) else some (.tuple [])).bind fun v83 =>
 ((gdv v65 false).bind fun g84 => if g84 = true then (ptrAdd v83 0) else some (.tuple [])).bind fun v85 =>
 ((gdv v65 false).bind fun g86 => if g86 = true then (ldOne v85 s5.2) else some (.tuple [])).bind fun v87 =>
 ((gdv v65 false).bind fun g88 => if g88 = true then (aLen Tryd.prog 22 v87) else some (.tuple [])).bind fun v89 =>
 ((gdv v65 false).bind fun g90 => if g90 = true then (aBin Tryd.prog .neq 3 v77 v89) else some (.tuple [])).bind fun v91 =>
 ((asB v65).bind fun b92 => if b92 = true then some (.bool true) else some v91).bind fun v93 =>
 (asB v93).bind fun b94 => if b94 = true then
 (some (.ret, (updL s5.1 [(12, (s5.1 5)), (13, (s5.1 0)), (14, v8), (15, v9), (18, (s5.1 0)), (19, (s5.1 5)), (20, v11), (21, v12), (22, v13), (23, (s5.1 1)), (24, (s5.1 5)), (25, v14), (26, v15), (27, v16), (28, v17), (29, v17), (30, v19), (31, v21), (32, v23), (33, v25), (34, v27), (35, v29), (36, v31), (37, v33), (38, v35), (39, v37), (40, v39), (41, v41), (42, v41), (43, v43), (44, v45), (45, v47), (46, v49), (47, v51), (48, v53), (49, v55), (50, v57), (51, v59), (52, v61), (53, v63), (54, v65), (55, v65), (56, v67), (57, v69), (58, v71), (59, v73), (60, v75), (61, v77), (62, v79), (63, v81), (64, v83), (65, v85), (66, v87), (67, v89), (68, v91), (69, v93), (4, (.bool false))]), s5.2))
 else
 ((it (F35_L0 call it) ((updL s5.1 [(12, (s5.1 5)), (13, (s5.1 0)), (14, v8), (15, v9), (18, (s5.1 0)), (19, (s5.1 5)), (20, v11), (21, v12), (22, v13), (23, (s5.1 1)), (24, (s5.1 5)), (25, v14), (26, v15), (27, v16), (28, v17), (29, v17), (30, v19), (31, v21), (32, v23), (33, v25), (34, v27), (35, v29), (36, v31), (37, v33), (38, v35), (39, v37), (40, v39), (41, v41), (42, v41), (43, v43), (44, v45), (45, v47), (46, v49), (47, v51), (48, v53), (49, v55), (50, v57), (51, v59), (52, v61), (53, v63), (54, v65), (55, v65), (56, v67), (57, v69), (58, v71), (59, v73), (60, v75), (61, v77), (62, v79), (63, v81), (64, v83), (65, v85), (66, v87), (67, v89), (68, v91), (69, v93), (6, (.int .i64 0))]), s5.2)).bind fun r96 => match r96.1 with
 | .normal => none
 | .exit j97 => if j97 = 2 then
 ((aBin Tryd.prog .add 3 (r96.2.1 5) (.int .i64 1)).bind fun v117 =>
 some (.normal, (updL r96.2.1 [(16, (r96.2.1 5)), (17, v117), (5, v117)]), r96.2.2))
 else
 (if j97 = 1 then
 ((aBin Tryd.prog .add 3 (r96.2.1 5) (.int .i64 1)).bind fun v118 =>
 some (.normal, (updL r96.2.1 [(16, (r96.2.1 5)), (17, v118), (5, v118)]), r96.2.2))
 else
 (some (.exit j97, r96.2.1, r96.2.2)))
 | .ret => some (.ret, r96.2.1, r96.2.2)))
 else
 (some (.exit 0, (updL s5.1 [(12, (s5.1 5)), (13, (s5.1 0)), (14, v8), (15, v9)]), s5.2))
noncomputable def F35 (call : CallF) (it : ItF) (x0 : AV) (x1 : AV) (H : AH) : Option (AV × AH) :=
 (aLen Tryd.prog 36 x0).bind fun v1 =>
 (aLen Tryd.prog 36 x1).bind fun v2 =>
 (aBin Tryd.prog .neq 3 v1 v2).bind fun v3 =>
 (asB v3).bind fun b4 => if b4 = true then
 (some ((.bool false), H))
 else
 ((it (F35_L1 call it) ((updL (T0 [x0, x1]) [(4, (.bool false)), (7, x0), (8, v1), (9, x1), (10, v2), (11, v3), (5, (.int .i64 0))]), H)).bind fun r6 => match r6.1 with
 | .normal => none
 | .exit j7 => if j7 = 0 then
 (some ((.bool true), r6.2.2))
 else
 (none)
 | .ret => some ((r6.2.1 4), r6.2.2))
theorem F35_eq (call : CallF) (it : ItF) (x0 : AV) (x1 : AV) (H : AH) : aFun Tryd.prog (drawA Tryd.prog) call it 35 [x0, x1] H = F35 call it x0 x1 H :=
 (aFun_eq Tryd.func35 rfl (by kernel_rfl) _ H (Nat.le_of_ble_eq_true (by kernel_rfl))).trans (by kernel_rfl)

end Go.Proofs.YthiflgncldmkjaaDoor
set_option linter.unusedVariables false
set_option maxRecDepth 100000
namespace Go.Proofs.YthiflgncldmkjaaDoor
open Go.Ri

noncomputable def F49 (call : CallF) (it : ItF) (x0 : AV) (x1 : AV) (H : AH) : Option (AV × AH) :=
 (nAlloc Tryd.prog 24).bind fun nb1 =>
 (call 28 [x0, x1] (H.new nb1.cells nb1.elem)).bind fun r2 =>
 (aExtract r2.1 0).bind fun v3 =>
 (aExtract r2.1 1).bind fun v4 =>
 (aUn .not v4).bind fun v5 =>
 (asB v5).bind fun b6 => if b6 = true then
 ((aBuild Tryd.prog 24 []).bind fun v7 =>
 ((aStore Tryd.prog 24 (nb1.val H.next) v7 r2.2).map fun H' => ((.tuple [] : AV), H')).bind fun r8 =>
 (((ldAgg (nb1.val H.next) 4 r8.2).bind fun v9 => some (v9 :: ((.bool false) :: []))).map oneOf).map fun v => (v, r8.2))
 else
 ((idxSl x0 x1 4).bind fun v10 =>
 (ldAgg v10 4 r2.2).bind fun v11 =>
 (nAlloc Tryd.prog 24).bind fun nb12 =>
 ((aStore Tryd.prog 24 (nb12.val r2.2.next) v11 (r2.2.new nb12.cells nb12.elem)).map fun H' => ((.tuple [] : AV), H')).bind fun r13 =>
 (ptrAdd (nb12.val r2.2.next) 0).bind fun v14 =>
 (ldOne v14 r13.2).bind fun v15 =>
 (aAppend Tryd.prog 22 22 (.slice none 0 (.kn 0)) v15 r13.2).bind fun r16 =>
 (call 73 [r16.1] r16.2).bind fun r17 =>
 (aExtract r17.1 0).bind fun v18 =>
 (aExtract r17.1 1).bind fun v19 =>
 (ptrAdd (nb12.val r2.2.next) 0).bind fun v20 =>
 ((aStore Tryd.prog 22 v20 v18 r17.2).map fun H' => ((.tuple [] : AV), H')).bind fun r21 =>
 (ldAgg (nb12.val r2.2.next) 4 r21.2).bind fun v22 =>
 ((aStore Tryd.prog 24 (nb1.val H.next) v22 r21.2).map fun H' => ((.tuple [] : AV), H')).bind fun r23 =>
 (((ldAgg (nb1.val H.next) 4 r23.2).bind fun v24 => some (v24 :: (v19 :: []))).map oneOf).map fun v => (v, r23.2))
theorem F49_eq (call : CallF) (it : ItF) (x0 : AV) (x1 : AV) (H : AH) : aFun Tryd.prog (drawA Tryd.prog) call it 49 [x0, x1] H = F49 call it x0 x1 H :=
 (aFun_eq Tryd.func49 rfl (by kernel_rfl) _ H (Nat.le_of_ble_eq_true (by kernel_rfl))).trans (by kernel_rfl)

end Go.Proofs.YthiflgncldmkjaaDoor
set_option linter.unusedVariables false
set_option maxRecDepth 100000
namespace Go.Proofs.YthiflgncldmkjaaDoor
open Go.Ri

noncomputable def F62 (call : CallF) (it : ItF) (x0 : AV) (H : AH) : Option (AV × AH) :=
 (nAlloc Tryd.prog 130).bind fun nb1 =>
 (cvInt .u64 x0).bind fun v2 =>
 jn (
 (aBin Tryd.prog .lss 2 x0 (.int .i64 0)).bind fun v3 =>
 (asB v3).bind fun b4 => if b4 = true then
 ((aUn .neg v2).bind fun v5 =>
 some (.inl ((updL (T0 [x0]) [(2, (.str ⟨#[]⟩)), (3, (nb1.val H.next)), (4, (.int .i64 20)), (6, x0), (7, v2), (5, v2), (8, x0), (9, v3), (10, v2), (11, v5), (5, v5)]), (H.new nb1.cells nb1.elem))))
 else
 (some (.inl ((updL (T0 [x0]) [(2, (.str ⟨#[]⟩)), (3, (nb1.val H.next)), (4, (.int .i64 20)), (6, x0), (7, v2), (5, v2), (8, x0), (9, v3)]), (H.new nb1.cells nb1.elem)))))
 fun T6 H7 =>
 (it (fun s8 =>
 (aBin Tryd.prog .sub 3 (s8.1 4) (.int .i64 1)).bind fun v11 =>
 (aBin Tryd.prog .rem 131 (s8.1 5) (.int .u64 10)).bind fun v12 =>
 (aBin Tryd.prog .add 131 (.int .u64 48) v12).bind fun v13 =>
 (cvInt .u8 v13).bind fun v14 =>
 (idxPtr (s8.1 3) v11 20 1).bind fun v15 =>
 ((aStore Tryd.prog 5 v15 v14 s8.2).map fun H' => ((.tuple [] : AV), H')).bind fun r16 =>
 (aBin Tryd.prog .quo 131 (s8.1 5) (.int .u64 10)).bind fun v17 =>
 (aBin Tryd.prog .eql 131 v17 (.int .u64 0)).bind fun v18 =>
 (asB v18).bind fun b19 => if b19 = true then
 (some (.exit 0, (updL s8.1 [(12, (s8.1 4)), (13, v11), (4, v11), (14, v11), (15, (s8.1 5)), (16, v12), (17, v13), (18, v14), (19, v15), (20, (s8.1 5)), (21, v17), (5, v17), (22, v17), (23, v18)]), r16.2))
 else
 (some (.normal, (updL s8.1 [(12, (s8.1 4)), (13, v11), (4, v11), (14, v11), (15, (s8.1 5)), (16, v12), (17, v13), (18, v14), (19, v15), (20, (s8.1 5)), (21, v17), (5, v17), (22, v17), (23, v18)]), r16.2))) (T6, H7)).bind fun r9 => match r9.1 with
 | .normal => none
 | .exit j10 => if j10 = 0 then
 (jn (
 (aBin Tryd.prog .lss 2 (r9.2.1 0) (.int .i64 0)).bind fun v20 =>
 (asB v20).bind fun b21 => if b21 = true then
 ((aBin Tryd.prog .sub 3 (r9.2.1 4) (.int .i64 1)).bind fun v22 =>
 (idxPtr (r9.2.1 3) v22 20 1).bind fun v23 =>
 ((aStore Tryd.prog 5 v23 (.int .u8 45) r9.2.2).map fun H' => ((.tuple [] : AV), H')).bind fun r24 =>
 some (.inl ((updL r9.2.1 [(24, (r9.2.1 0)), (25, v20), (26, (r9.2.1 4)), (27, v22), (4, v22), (28, v22), (29, v23)]), r24.2)))
 else
 (some (.inl ((updL r9.2.1 [(24, (r9.2.1 0)), (25, v20)]), r9.2.2))))
 fun T25 H26 =>
 (slArr (T25 3) 20 1 (some (T25 4)) none none).bind fun v27 =>
 (cvBytes v27 H26).bind fun v28 =>
 some (v28, H26))
 else
 (none)
 | .ret => some ((r9.2.1 2), r9.2.2)
theorem F62_eq (call : CallF) (it : ItF) (x0 : AV) (H : AH) : aFun Tryd.prog (drawA Tryd.prog) call it 62 [x0] H = F62 call it x0 H :=
 (aFun_eq Tryd.func62 rfl (by kernel_rfl) _ H (Nat.le_of_ble_eq_true (by kernel_rfl))).trans (by kernel_rfl)

noncomputable def F63_J0 (call : CallF) (it : ItF) (T71 : Tm) (H72 : AH) : Option (AV × AH) :=
 some ((.tuple [(T71 5), (.int .i64 0)]), H72)
noncomputable def F63_J1 (call : CallF) (it : ItF) (T60 : Tm) (H61 : AH) : Option (AV × AH) :=
 jn (
 (ptrAdd (T60 4) 1).bind fun v62 =>
 (ldOne v62 H61).bind fun v63 =>
 (aBin Tryd.prog .gtr 3 v63 (.int .i64 1)).bind fun v64 =>
 (asB v64).bind fun b65 => if b65 = true then
 ((aBin Tryd.prog .add 9 (T60 5) (.str ⟨#[32]⟩)).bind fun v66 =>
 (ptrAdd (T60 1) 2).bind fun v67 =>
 (ldOne v67 H61).bind fun v68 =>
 (call 64 [v68] H61).bind fun r69 =>
 (aBin Tryd.prog .add 9 v66 r69.1).bind fun v70 =>
 some (.inl ((updL T60 [(43, v62), (44, v63), (45, v64), (46, (T60 5)), (47, v66), (48, v67), (49, v68), (50, r69.1), (51, v70), (5, v70)]), r69.2)))
 else
 (some (.inl ((updL T60 [(43, v62), (44, v63), (45, v64)]), H61))))
 (F63_J0 call it)
noncomputable def F63 (call : CallF) (it : ItF) (x0 : AV) (H : AH) : Option (AV × AH) :=
 (nBox 29 x0).bind fun nb1 =>
 (ptrAdd (nb1.val H.next) 0).bind fun v2 =>
 (ldOne v2 (H.new nb1.cells nb1.elem)).bind fun v3 =>
 (call 92 [v3] (H.new nb1.cells nb1.elem)).bind fun r4 =>
 (nAlloc Tryd.prog 133).bind fun nb5 =>
 ((aStore Tryd.prog 133 (nb5.val r4.2.next) r4.1 (r4.2.new nb5.cells nb5.elem)).map fun H' => ((.tuple [] : AV), H')).bind fun r6 =>
 (ptrAdd (nb5.val r4.2.next) 0).bind fun v7 =>
 (ldOne v7 r6.2).bind fun v8 =>
 (aBin Tryd.prog .eql 9 v8 (.str ⟨#[]⟩)).bind fun v9 =>
 ((gdv v9 false).bind fun g10 => if g10 = true then (ptrAdd (nb5.val r4.2.next) 1) else some (.tuple [])).bind fun v11 =>
 ((gdv v9 false).bind fun g12 => if g12 = true then (ldOne v11 r6.2) else some (.tuple [])).bind fun v13 =>
 ((gdv v9 false).bind fun g14 => if g14 = true then (aBin Tryd.prog .lss 3 v13 (.int .i64 1)) else some (.tuple [])).bind fun v15 =>
 ((gdv v9 false).bind fun g16 => if g16 = true then (some v15) else some (.tuple [])).bind fun v17 =>
 ((gdv v17 true).bind fun g18 => if g18 = true then (ptrAdd (nb1.val H.next) 1) else some (.tuple [])).bind fun v19 =>
 ((gdv v17 true).bind fun g20 => if g20 = true then (ldOne v19 r6.2) else some (.tuple [])).bind fun v21 =>
 ((gdv v17 true).bind fun g22 => if g22 = true then (aBin Tryd.prog .neq 2 v21 (.int .i64 0)) else some (.tuple [])).bind fun v23 =>
 ((gdv v9 false).bind fun g25 => if g25 = true then ((asB v17).bind fun b24 => if b24 = true then some v23 else some (.bool false)) else some (.tuple [])).bind fun v26 =>
 ((asB v9).bind fun b27 => if b27 = true then some (.bool true) else some v26).bind fun v28 =>
 ((gdv v28 false).bind fun g29 => if g29 = true then (ptrAdd (nb5.val r4.2.next) 1) else some (.tuple [])).bind fun v30 =>
 ((gdv v28 false).bind fun g31 => if g31 = true then (ldOne v30 r6.2) else some (.tuple [])).bind fun v32 =>
 ((gdv v28 false).bind fun g33 => if g33 = true then (aBin Tryd.prog .lss 3 v32 (.int .i64 2)) else some (.tuple [])).bind fun v34 =>
 ((gdv v28 false).bind fun g35 => if g35 = true then (some v34) else some (.tuple [])).bind fun v36 =>
 ((gdv v36 true).bind fun g37 => if g37 = true then (ptrAdd (nb1.val H.next) 2) else some (.tuple [])).bind fun v38 =>
 ((gdv v36 true).bind fun g39 => if g39 = true then (ldOne v38 r6.2) else some (.tuple [])).bind fun v40 =>
 ((gdv v36 true).bind fun g41 => if g41 = true then (aBin Tryd.prog .neq 2 v40 (.int .i64 0)) else some (.tuple [])).bind fun v42 =>
 ((gdv v28 false).bind fun g44 => if g44 = true then ((asB v36).bind fun b43 => if b43 = true then some v42 else some (.bool false)) else some (.tuple [])).bind fun v45 =>
 ((asB v28).bind fun b46 => if b46 = true then some (.bool true) else some v45).bind fun v47 =>
 (asB v47).bind fun b48 => if b48 = true then
 (some ((.tuple [(.str ⟨#[]⟩), (.int .i64 61)]), r6.2))
 else
 ((ptrAdd (nb5.val r4.2.next) 0).bind fun v49 =>
 (ldOne v49 r6.2).bind fun v50 =>
 jn (
 (ptrAdd (nb5.val r4.2.next) 1).bind fun v51 =>
 (ldOne v51 r6.2).bind fun v52 =>
 (aBin Tryd.prog .gtr 3 v52 (.int .i64 0)).bind fun v53 =>
 (asB v53).bind fun b54 => if b54 = true then
 ((aBin Tryd.prog .add 9 v50 (.str ⟨#[32]⟩)).bind fun v55 =>
 (ptrAdd (nb1.val H.next) 1).bind fun v56 =>
 (ldOne v56 r6.2).bind fun v57 =>
 (call 64 [v57] r6.2).bind fun r58 =>
 (aBin Tryd.prog .add 9 v55 r58.1).bind fun v59 =>
 some (.inl ((updL (T0 [x0]) [(1, (nb1.val H.next)), (2, (.str ⟨#[]⟩)), (3, (.int .i64 0)), (6, v2), (7, v3), (8, r4.1), (4, (nb5.val r4.2.next)), (9, v7), (10, v8), (11, v9), (12, v9), (13, v11), (14, v13), (15, v15), (16, v17), (17, v19), (18, v21), (19, v23), (20, v26), (21, v28), (22, v28), (23, v30), (24, v32), (25, v34), (26, v36), (27, v38), (28, v40), (29, v42), (30, v45), (31, v47), (32, v49), (33, v50), (5, v50), (34, v51), (35, v52), (36, v53), (37, v50), (38, v55), (39, v56), (40, v57), (41, r58.1), (42, v59), (5, v59)]), r58.2)))
 else
 (some (.inl ((updL (T0 [x0]) [(1, (nb1.val H.next)), (2, (.str ⟨#[]⟩)), (3, (.int .i64 0)), (6, v2), (7, v3), (8, r4.1), (4, (nb5.val r4.2.next)), (9, v7), (10, v8), (11, v9), (12, v9), (13, v11), (14, v13), (15, v15), (16, v17), (17, v19), (18, v21), (19, v23), (20, v26), (21, v28), (22, v28), (23, v30), (24, v32), (25, v34), (26, v36), (27, v38), (28, v40), (29, v42), (30, v45), (31, v47), (32, v49), (33, v50), (5, v50), (34, v51), (35, v52), (36, v53)]), r6.2))))
 (F63_J1 call it))
theorem F63_eq (call : CallF) (it : ItF) (x0 : AV) (H : AH) : aFun Tryd.prog (drawA Tryd.prog) call it 63 [x0] H = F63 call it x0 H :=
 (aFun_eq Tryd.func63 rfl (by kernel_rfl) _ H (Nat.le_of_ble_eq_true (by kernel_rfl))).trans (by kernel_rfl)

noncomputable def F64 (call : CallF) (it : ItF) (x0 : AV) (H : AH) : Option (AV × AH) :=
 (call 93 [x0] H).bind fun r1 =>
 (it (fun s2 =>
 (aBin Tryd.prog .eql 9 (s2.1 3) (.str ⟨#[]⟩)).bind fun v5 =>
 ((gdv v5 false).bind fun g6 => if g6 = true then (some (s2.1 4)) else some (.tuple [])).bind fun v7 =>
 ((gdv v5 false).bind fun g8 => if g8 = true then (aBin Tryd.prog .gtr 131 v7 (.int .u64 0)) else some (.tuple [])).bind fun v9 =>
 ((asB v5).bind fun b10 => if b10 = true then some (.bool true) else some v9).bind fun v11 =>
 (asB v11).bind fun b12 => if b12 = true then
 ((aBin Tryd.prog .rem 131 (s2.1 4) (.int .u64 10)).bind fun v13 =>
 (aBin Tryd.prog .add 131 (.int .u64 48) v13).bind fun v14 =>
 (cvInt .u8 v14).bind fun v15 =>
 (nBuildSlice Tryd.prog 87 1 [(0, v15)]).bind fun nb16 =>
 (cvBytes (nb16.val s2.2.next) (s2.2.new nb16.cells nb16.elem)).bind fun v17 =>
 (aBin Tryd.prog .add 9 v17 (s2.1 3)).bind fun v18 =>
 (aBin Tryd.prog .quo 131 (s2.1 4) (.int .u64 10)).bind fun v19 =>
 some (.normal, (updL s2.1 [(7, (s2.1 3)), (8, v5), (9, v5), (10, v7), (11, v9), (12, v11), (13, (s2.1 4)), (14, v13), (15, v14), (16, v15), (17, (nb16.val s2.2.next)), (18, v17), (19, (s2.1 3)), (20, v18), (3, v18), (21, (s2.1 4)), (22, v19), (4, v19)]), (s2.2.new nb16.cells nb16.elem)))
 else
 (some (.exit 0, (updL s2.1 [(7, (s2.1 3)), (8, v5), (9, v5), (10, v7), (11, v9), (12, v11)]), s2.2))) ((updL (T0 [x0]) [(2, (.str ⟨#[]⟩)), (3, (.str ⟨#[]⟩)), (5, x0), (6, r1.1), (4, r1.1)]), r1.2)).bind fun r3 => match r3.1 with
 | .normal => none
 | .exit j4 => if j4 = 0 then
 (jn (
 (aBin Tryd.prog .lss 2 (r3.2.1 0) (.int .i64 0)).bind fun v20 =>
 (asB v20).bind fun b21 => if b21 = true then
 ((aBin Tryd.prog .add 9 (.str ⟨#[45]⟩) (r3.2.1 3)).bind fun v22 =>
 some (.inl ((updL r3.2.1 [(23, (r3.2.1 0)), (24, v20), (25, (r3.2.1 3)), (26, v22), (3, v22)]), r3.2.2)))
 else
 (some (.inl ((updL r3.2.1 [(23, (r3.2.1 0)), (24, v20)]), r3.2.2))))
 fun T23 H24 =>
 some ((T23 3), H24))
 else
 (none)
 | .ret => some ((r3.2.1 2), r3.2.2)
theorem F64_eq (call : CallF) (it : ItF) (x0 : AV) (H : AH) : aFun Tryd.prog (drawA Tryd.prog) call it 64 [x0] H = F64 call it x0 H :=
 (aFun_eq Tryd.func64 rfl (by kernel_rfl) _ H (Nat.le_of_ble_eq_true (by kernel_rfl))).trans (by kernel_rfl)

noncomputable def F65 (call : CallF) (it : ItF) (x0 : AV) (H : AH) : Option (AV × AH) :=
 jn (
 (aBin Tryd.prog .eql 3 x0 (.int .i64 4)).bind fun v1 =>
 (asB v1).bind fun b2 => if b2 = true then
 (some (.inl ((updL (T0 [x0]) [(2, (.int .i64 0)), (3, x0), (5, v1), (4, v1)]), H)))
 else
 ((aBin Tryd.prog .eql 3 x0 (.int .i64 5)).bind fun v3 =>
 (asB v3).bind fun b4 => if b4 = true then
 (some (.inl ((updL (T0 [x0]) [(2, (.int .i64 0)), (3, x0), (5, v1), (4, v1), (6, v3), (4, v3)]), H)))
 else
 ((aBin Tryd.prog .eql 3 x0 (.int .i64 6)).bind fun v5 =>
 (asB v5).bind fun b6 => if b6 = true then
 (some (.inl ((updL (T0 [x0]) [(2, (.int .i64 0)), (3, x0), (5, v1), (4, v1), (6, v3), (4, v3), (7, v5), (4, v5)]), H)))
 else
 ((aBin Tryd.prog .eql 3 x0 (.int .i64 19)).bind fun v7 =>
 (asB v7).bind fun b8 => if b8 = true then
 (some (.inl ((updL (T0 [x0]) [(2, (.int .i64 0)), (3, x0), (5, v1), (4, v1), (6, v3), (4, v3), (7, v5), (4, v5), (8, v7), (4, v7)]), H)))
 else
 ((aBin Tryd.prog .eql 3 x0 (.int .i64 24)).bind fun v9 =>
 some (.inl ((updL (T0 [x0]) [(2, (.int .i64 0)), (3, x0), (5, v1), (4, v1), (6, v3), (4, v3), (7, v5), (4, v5), (8, v7), (4, v7), (9, v9), (4, v9)]), H)))))))
 fun T10 H11 =>
 (asB (T10 4)).bind fun b12 => if b12 = true then
 (some ((.int .i64 2), H11))
 else
 (jn (
 (aBin Tryd.prog .eql 3 (T10 3) (.int .i64 1)).bind fun v13 =>
 (asB v13).bind fun b14 => if b14 = true then
 (some (.inl ((updL T10 [(11, v13), (10, v13)]), H11)))
 else
 ((aBin Tryd.prog .eql 3 (T10 3) (.int .i64 2)).bind fun v15 =>
 (asB v15).bind fun b16 => if b16 = true then
 (some (.inl ((updL T10 [(11, v13), (10, v13), (12, v15), (10, v15)]), H11)))
 else
 ((aBin Tryd.prog .eql 3 (T10 3) (.int .i64 3)).bind fun v17 =>
 (asB v17).bind fun b18 => if b18 = true then
 (some (.inl ((updL T10 [(11, v13), (10, v13), (12, v15), (10, v15), (13, v17), (10, v17)]), H11)))
 else
 ((aBin Tryd.prog .eql 3 (T10 3) (.int .i64 17)).bind fun v19 =>
 (asB v19).bind fun b20 => if b20 = true then
 (some (.inl ((updL T10 [(11, v13), (10, v13), (12, v15), (10, v15), (13, v17), (10, v17), (14, v19), (10, v19)]), H11)))
 else
 ((aBin Tryd.prog .eql 3 (T10 3) (.int .i64 18)).bind fun v21 =>
 (asB v21).bind fun b22 => if b22 = true then
 (some (.inl ((updL T10 [(11, v13), (10, v13), (12, v15), (10, v15), (13, v17), (10, v17), (14, v19), (10, v19), (15, v21), (10, v21)]), H11)))
 else
 ((aBin Tryd.prog .eql 3 (T10 3) (.int .i64 20)).bind fun v23 =>
 some (.inl ((updL T10 [(11, v13), (10, v13), (12, v15), (10, v15), (13, v17), (10, v17), (14, v19), (10, v19), (15, v21), (10, v21), (16, v23), (10, v23)]), H11))))))))
 fun T24 H25 =>
 (asB (T24 10)).bind fun b26 => if b26 = true then
 (some ((.int .i64 1), H25))
 else
 (some ((.int .i64 0), H25)))
theorem F65_eq (call : CallF) (it : ItF) (x0 : AV) (H : AH) : aFun Tryd.prog (drawA Tryd.prog) call it 65 [x0] H = F65 call it x0 H :=
 (aFun_eq Tryd.func65 rfl (by kernel_rfl) _ H (Nat.le_of_ble_eq_true (by kernel_rfl))).trans (by kernel_rfl)

noncomputable def F66 (call : CallF) (it : ItF) (x0 : AV) (H : AH) : Option (AV × AH) :=
 (aLen Tryd.prog 90 x0).bind fun v1 =>
 (it (fun s2 =>
 (aBin Tryd.prog .lss 3 (s2.1 8) (s2.1 7)).bind fun v5 =>
 (asB v5).bind fun b6 => if b6 = true then
 ((idxSl (s2.1 6) (s2.1 8) 1).bind fun v7 =>
 (ldOne v7 s2.2).bind fun v8 =>
 jn (
 (aBin Tryd.prog .gtr 3 (s2.1 8) (.int .i64 0)).bind fun v9 =>
 (asB v9).bind fun b10 => if b10 = true then
 ((nBuildSlice Tryd.prog 87 1 [(0, (.int .u8 32))]).bind fun nb11 =>
 (aAppend Tryd.prog 87 87 (s2.1 3) (nb11.val s2.2.next) (s2.2.new nb11.cells nb11.elem)).bind fun r12 =>
 some (.inl ((updL s2.1 [(9, v5), (10, (s2.1 8)), (11, v7), (12, v8), (4, (s2.1 8)), (5, v8), (13, (s2.1 8)), (14, v9), (15, (s2.1 3)), (16, (nb11.val s2.2.next)), (17, r12.1), (3, r12.1)]), r12.2)))
 else
 (some (.inl ((updL s2.1 [(9, v5), (10, (s2.1 8)), (11, v7), (12, v8), (4, (s2.1 8)), (5, v8), (13, (s2.1 8)), (14, v9)]), s2.2))))
 fun T13 H14 =>
 (aAppend Tryd.prog 87 9 (T13 3) (T13 5) H14).bind fun r15 =>
 (aBin Tryd.prog .add 3 (T13 8) (.int .i64 1)).bind fun v16 =>
 some (.normal, (updL T13 [(18, (T13 3)), (19, (T13 5)), (20, r15.1), (3, r15.1), (21, v16), (8, v16)]), r15.2))
 else
 (some (.exit 0, (updL s2.1 [(9, v5)]), s2.2))) ((updL (T0 [x0]) [(2, (.str ⟨#[]⟩)), (3, (.slice none 0 (.kn 0))), (6, x0), (7, v1), (8, (.int .i64 0))]), H)).bind fun r3 => match r3.1 with
 | .normal => none
 | .exit j4 => if j4 = 0 then
 ((cvBytes (r3.2.1 3) r3.2.2).bind fun v17 =>
 some (v17, r3.2.2))
 else
 (none)
 | .ret => some ((r3.2.1 2), r3.2.2)
theorem F66_eq (call : CallF) (it : ItF) (x0 : AV) (H : AH) : aFun Tryd.prog (drawA Tryd.prog) call it 66 [x0] H = F66 call it x0 H :=
 (aFun_eq Tryd.func66 rfl (by kernel_rfl) _ H (Nat.le_of_ble_eq_true (by kernel_rfl))).trans (by kernel_rfl)

noncomputable def F69_L0 (call : CallF) (it : ItF) (s68 : St) : Option (Ex × St) :=
 (aBin Tryd.prog .lss 3 (s68.1 50) (s68.1 49)).bind fun v71 =>
 (asB v71).bind fun b72 => if b72 = true then
 ((idxSl (s68.1 48) (s68.1 50) 3).bind fun v73 =>
 (ldAgg v73 3 s68.2).bind fun v74 =>
 (nAlloc Tryd.prog 29).bind fun nb75 =>
 ((aStore Tryd.prog 29 (nb75.val s68.2.next) v74 (s68.2.new nb75.cells nb75.elem)).map fun H' => ((.tuple [] : AV), H')).bind fun r76 =>
 (ldAgg (nb75.val s68.2.next) 3 r76.2).bind fun v77 =>
 (call 94 [(s68.1 0), v77] r76.2).bind fun r78 =>
 (aUn .not r78.1).bind fun v79 =>
 (asB v79).bind fun b80 => if b80 = true then
 (some (.ret, (updL s68.1 [(51, v71), (52, v73), (53, v74), (5, (nb75.val s68.2.next)), (54, (s68.1 0)), (55, v77), (56, r78.1), (57, v79), (2, (.bool false))]), r78.2))
 else
 ((aBin Tryd.prog .add 3 (s68.1 50) (.int .i64 1)).bind fun v81 =>
 some (.normal, (updL s68.1 [(51, v71), (52, v73), (53, v74), (5, (nb75.val s68.2.next)), (54, (s68.1 0)), (55, v77), (56, r78.1), (57, v79), (58, v81), (50, v81)]), r78.2)))
 else
 (some (.exit 0, (updL s68.1 [(51, v71)]), s68.2))
noncomputable def F69 (call : CallF) (it : ItF) (x0 : AV) (H : AH) : Option (AV × AH) :=
 (nilC x0).bind fun v1 =>
 (ptrAdd v1 1).bind fun v2 =>
 (ldAgg v2 4 H).bind fun v3 =>
 (nAlloc Tryd.prog 24).bind fun nb4 =>
 ((aStore Tryd.prog 24 (nb4.val H.next) v3 (H.new nb4.cells nb4.elem)).map fun H' => ((.tuple [] : AV), H')).bind fun r5 =>
 (ptrAdd (nb4.val H.next) 0).bind fun v6 =>
 (ldOne v6 r5.2).bind fun v7 =>
 (aLen Tryd.prog 22 v7).bind fun v8 =>
 (aBin Tryd.prog .lss 3 v8 (.int .i64 1)).bind fun v9 =>
 ((gdv v9 false).bind fun g10 => if g10 = true then (ptrAdd (nb4.val H.next) 0) else some (.tuple [])).bind fun v11 =>
 ((gdv v9 false).bind fun g12 => if g12 = true then (ldOne v11 r5.2) else some (.tuple [])).bind fun v13 =>
 ((gdv v9 false).bind fun g14 => if g14 = true then (aLen Tryd.prog 22 v13) else some (.tuple [])).bind fun v15 =>
 ((gdv v9 false).bind fun g16 => if g16 = true then (aBin Tryd.prog .gtr 3 v15 (.int .i64 65536)) else some (.tuple [])).bind fun v17 =>
 ((asB v9).bind fun b18 => if b18 = true then some (.bool true) else some v17).bind fun v19 =>
 ((gdv v19 false).bind fun g20 => if g20 = true then (ptrAdd (nb4.val H.next) 1) else some (.tuple [])).bind fun v21 =>
 ((gdv v19 false).bind fun g22 => if g22 = true then (ldOne v21 r5.2) else some (.tuple [])).bind fun v23 =>
 ((gdv v19 false).bind fun g24 => if g24 = true then (aBin Tryd.prog .lss 3 v23 (.int .i64 0)) else some (.tuple [])).bind fun v25 =>
 ((asB v19).bind fun b26 => if b26 = true then some (.bool true) else some v25).bind fun v27 =>
 ((gdv v27 false).bind fun g28 => if g28 = true then (ptrAdd (nb4.val H.next) 1) else some (.tuple [])).bind fun v29 =>
 ((gdv v27 false).bind fun g30 => if g30 = true then (ldOne v29 r5.2) else some (.tuple [])).bind fun v31 =>
 ((gdv v27 false).bind fun g32 => if g32 = true then (aBin Tryd.prog .gtr 3 v31 (.int .i64 65536)) else some (.tuple [])).bind fun v33 =>
 ((asB v27).bind fun b34 => if b34 = true then some (.bool true) else some v33).bind fun v35 =>
 ((gdv v35 false).bind fun g36 => if g36 = true then (ptrAdd (nb4.val H.next) 2) else some (.tuple [])).bind fun v37 =>
 ((gdv v35 false).bind fun g38 => if g38 = true then (ldOne v37 r5.2) else some (.tuple [])).bind fun v39 =>
 ((gdv v35 false).bind fun g40 => if g40 = true then (aBin Tryd.prog .lss 3 v39 (.int .i64 0)) else some (.tuple [])).bind fun v41 =>
 ((asB v35).bind fun b42 => if b42 = true then some (.bool true) else some v41).bind fun v43 =>
 ((gdv v43 false).bind fun g44 => if g44 = true then (ptrAdd (nb4.val H.next) 2) else some (.tuple [])).bind fun v45 =>
 ((gdv v43 false).bind fun g46 => if g46 = true then (ldOne v45 r5.2) else some (.tuple [])).bind fun v47 =>
 ((gdv v43 false).bind fun g48 => if g48 = true then (aBin Tryd.prog .gtr 3 v47 (.int .i64 8)) else some (.tuple [])).bind fun v49 =>
 ((asB v43).bind fun b50 => if b50 = true then some (.bool true) else some v49).bind fun v51 =>
 ((gdv v51 false).bind fun g52 => if g52 = true then (ptrAdd (nb4.val H.next) 2) else some (.tuple [])).bind fun v53 =>
 ((gdv v51 false).bind fun g54 => if g54 = true then (ldOne v53 r5.2) else some (.tuple [])).bind fun v55 =>
 ((gdv v51 false).bind fun g56 => if g56 = true then (ptrAdd (nb4.val H.next) 1) else some (.tuple [])).bind fun v57 =>
 ((gdv v51 false).bind fun g58 => if g58 = true then (ldOne v57 r5.2) else some (.tuple [])).bind fun v59 =>
 ((gdv v51 false).bind fun g60 => if g60 = true then (aBin Tryd.prog .gtr 3 v55 v59) else some (.tuple [])).bind fun v61 =>
 ((asB v51).bind fun b62 => if b62 = true then some (.bool true) else some v61).bind fun v63 =>
 (asB v63).bind fun b64 => if b64 = true then
 (some ((.bool false), r5.2))
 else
 ((ptrAdd (nb4.val H.next) 0).bind fun v65 =>
 (ldOne v65 r5.2).bind fun v66 =>
 (aLen Tryd.prog 22 v66).bind fun v67 =>
 (it (F69_L0 call it) ((updL (T0 [x0]) [(2, (.bool false)), (6, x0), (7, v1), (8, v2), (9, v3), (3, (nb4.val H.next)), (10, v6), (11, v7), (12, v8), (13, v9), (14, v9), (15, v11), (16, v13), (17, v15), (18, v17), (19, v19), (20, v19), (21, v21), (22, v23), (23, v25), (24, v27), (25, v27), (26, v29), (27, v31), (28, v33), (29, v35), (30, v35), (31, v37), (32, v39), (33, v41), (34, v43), (35, v43), (36, v45), (37, v47), (38, v49), (39, v51), (40, v51), (41, v53), (42, v55), (43, v57), (44, v59), (45, v61), (46, v63), (47, v65), (48, v66), (49, v67), (50, (.int .i64 0))]), r5.2)).bind fun r69 => match r69.1 with
 | .normal => none
 | .exit j70 => if j70 = 0 then
 ((call 95 [(r69.2.1 0)] r69.2.2).bind fun r82 =>
 some (r82.1, r82.2))
 else
 (none)
 | .ret => some ((r69.2.1 2), r69.2.2))
theorem F69_eq (call : CallF) (it : ItF) (x0 : AV) (H : AH) : aFun Tryd.prog (drawA Tryd.prog) call it 69 [x0] H = F69 call it x0 H :=
 (aFun_eq Tryd.func69 rfl (by kernel_rfl) _ H (Nat.le_of_ble_eq_true (by kernel_rfl))).trans (by kernel_rfl)

noncomputable def F73_L0 (call : CallF) (it : ItF) (s4 : St) : Option (Ex × St) :=
 (aBin Tryd.prog .lss 3 (s4.1 12) (s4.1 11)).bind fun v7 =>
 (asB v7).bind fun b8 => if b8 = true then
 ((call 76 [(s4.1 4), (s4.1 12)] s4.2).bind fun r9 =>
 ((aStore Tryd.prog 108 (s4.1 5) r9.1 r9.2).map fun H' => ((.tuple [] : AV), H')).bind fun r10 =>
 (ptrAdd (s4.1 5) 0).bind fun v11 =>
 (ldOne v11 r10.2).bind fun v12 =>
 (aBin Tryd.prog .gtr 3 v12 (.int .i64 0)).bind fun v13 =>
 (asB v13).bind fun b14 => if b14 = true then
 (some (.exit 0, (updL s4.1 [(13, v7), (14, (s4.1 12)), (7, (s4.1 12)), (15, (s4.1 4)), (16, (s4.1 12)), (17, r9.1), (18, v11), (19, v12), (20, v13), (21, (s4.1 12)), (6, (s4.1 12))]), r10.2))
 else
 ((aBin Tryd.prog .add 3 (s4.1 12) (.int .i64 1)).bind fun v15 =>
 some (.normal, (updL s4.1 [(13, v7), (14, (s4.1 12)), (7, (s4.1 12)), (15, (s4.1 4)), (16, (s4.1 12)), (17, r9.1), (18, v11), (19, v12), (20, v13), (22, v15), (12, v15)]), r10.2)))
 else
 (some (.exit 0, (updL s4.1 [(13, v7)]), s4.2))
noncomputable def F73 (call : CallF) (it : ItF) (x0 : AV) (H : AH) : Option (AV × AH) :=
 (call 75 [x0] H).bind fun r1 =>
 (nAlloc Tryd.prog 108).bind fun nb2 =>
 (aLen Tryd.prog 22 x0).bind fun v3 =>
 (it (F73_L0 call it) ((updL (T0 [x0]) [(2, (.slice none 0 (.kn 0))), (3, (.bool false)), (8, x0), (9, r1.1), (4, r1.1), (5, (nb2.val r1.2.next)), (6, (.int .i64 0)), (10, x0), (11, v3), (12, (.int .i64 0))]), (r1.2.new nb2.cells nb2.elem))).bind fun r5 => match r5.1 with
 | .normal => none
 | .exit j6 => if j6 = 0 then
 ((ptrAdd (r5.2.1 5) 0).bind fun v16 =>
 (ldOne v16 r5.2.2).bind fun v17 =>
 (aBin Tryd.prog .eql 3 v17 (.int .i64 0)).bind fun v18 =>
 (asB v18).bind fun b19 => if b19 = true then
 (some ((.tuple [(r5.2.1 0), (.bool false)]), r5.2.2))
 else
 ((ldAgg (r5.2.1 5) 3 r5.2.2).bind fun v20 =>
 (call 97 [(r5.2.1 4), (r5.2.1 6), v20] r5.2.2).bind fun r21 =>
 some ((.tuple [r21.1, (.bool true)]), r21.2)))
 else
 (none)
 | .ret => some ((.tuple [(r5.2.1 2), (r5.2.1 3)]), r5.2.2)
theorem F73_eq (call : CallF) (it : ItF) (x0 : AV) (H : AH) : aFun Tryd.prog (drawA Tryd.prog) call it 73 [x0] H = F73 call it x0 H :=
 (aFun_eq Tryd.func73 rfl (by kernel_rfl) _ H (Nat.le_of_ble_eq_true (by kernel_rfl))).trans (by kernel_rfl)

end Go.Proofs.YthiflgncldmkjaaDoor
set_option linter.unusedVariables false
set_option maxRecDepth 100000
namespace Go.Proofs.YthiflgncldmkjaaDoor
open Go.Ri

noncomputable def F75_J0 (call : CallF) (it : ItF) (T44 : Tm) (H45 : AH) : Option (St ⊕ (Ex × St)) :=
 (call 102 [(T44 3), (T44 5)] H45).bind fun r46 =>
 (aAppend Tryd.prog 40 40 (T44 4) r46.1 r46.2).bind fun r47 =>
 some (.inl ((updL T44 [(58, (T44 4)), (59, (T44 3)), (60, (T44 5)), (61, r46.1), (62, r47.1), (4, r47.1)]), r47.2))
noncomputable def F75_J1 (call : CallF) (it : ItF) (T48 : Tm) (H49 : AH) : Option (Ex × St) :=
 some (.normal, T48, H49)
noncomputable def F75_L2 (call : CallF) (it : ItF) (s8 : St) : Option (Ex × St) :=
 (aLen Tryd.prog 40 (s8.1 4)).bind fun v11 =>
 (aBin Tryd.prog .gtr 3 v11 (.int .i64 0)).bind fun v12 =>
 (asB v12).bind fun b13 => if b13 = true then
 (jn (
 (aLen Tryd.prog 40 (s8.1 4)).bind fun v14 =>
 (aBin Tryd.prog .sub 3 v14 (.int .i64 1)).bind fun v15 =>
 (idxSl (s8.1 4) v15 1).bind fun v16 =>
 (ldOne v16 s8.2).bind fun v17 =>
 (aLen Tryd.prog 40 (s8.1 4)).bind fun v18 =>
 (aBin Tryd.prog .sub 3 v18 (.int .i64 1)).bind fun v19 =>
 (slSl (s8.1 4) 1 none (some v19) none).bind fun v20 =>
 (nilC (s8.1 3)).bind fun v21 =>
 (ptrAdd v21 1).bind fun v22 =>
 (ldOne v22 s8.2).bind fun v23 =>
 (idxSl v23 v17 1).bind fun v24 =>
 (ldOne v24 s8.2).bind fun v25 =>
 (asB v25).bind fun b26 => if b26 = true then
 (some (.inl ((updL s8.1 [(16, (s8.1 4)), (17, v11), (18, v12), (19, (s8.1 4)), (20, (s8.1 4)), (21, v14), (22, v15), (23, v16), (24, v17), (5, v17), (25, (s8.1 4)), (26, (s8.1 4)), (27, v18), (28, v19), (29, v20), (4, v20), (30, (s8.1 3)), (31, v21), (32, v22), (33, v23), (34, v17), (35, v24), (36, v25)]), s8.2)))
 else
 ((nilC (s8.1 3)).bind fun v27 =>
 (ptrAdd v27 1).bind fun v28 =>
 (ldOne v28 s8.2).bind fun v29 =>
 (idxSl v29 v17 1).bind fun v30 =>
 ((aStore Tryd.prog 4 v30 (.bool true) s8.2).map fun H' => ((.tuple [] : AV), H')).bind fun r31 =>
 jn (
 (idxSl (s8.1 0) v17 3).bind fun v32 =>
 (ldAgg v32 3 r31.2).bind fun v33 =>
 (call 101 [v33] r31.2).bind fun r34 =>
 (asB r34.1).bind fun b35 => if b35 = true then
 ((nilC (s8.1 3)).bind fun v36 =>
 (ptrAdd v36 2).bind fun v37 =>
 (ldOne v37 r34.2).bind fun v38 =>
 (idxSl (s8.1 0) v17 3).bind fun v39 =>
 (ptrAdd v39 1).bind fun v40 =>
 (ldOne v40 r34.2).bind fun v41 =>
 (idxSl v38 v41 1).bind fun v42 =>
 ((aStore Tryd.prog 4 v42 (.bool true) r34.2).map fun H' => ((.tuple [] : AV), H')).bind fun r43 =>
 some (.inl ((updL s8.1 [(16, (s8.1 4)), (17, v11), (18, v12), (19, (s8.1 4)), (20, (s8.1 4)), (21, v14), (22, v15), (23, v16), (24, v17), (5, v17), (25, (s8.1 4)), (26, (s8.1 4)), (27, v18), (28, v19), (29, v20), (4, v20), (30, (s8.1 3)), (31, v21), (32, v22), (33, v23), (34, v17), (35, v24), (36, v25), (37, (s8.1 3)), (38, v27), (39, v28), (40, v29), (41, v17), (42, v30), (43, (s8.1 0)), (44, v17), (45, v32), (46, v33), (47, r34.1), (48, (s8.1 3)), (49, v36), (50, v37), (51, v38), (52, (s8.1 0)), (53, v17), (54, v39), (55, v40), (56, v41), (57, v42)]), r43.2)))
 else
 (some (.inl ((updL s8.1 [(16, (s8.1 4)), (17, v11), (18, v12), (19, (s8.1 4)), (20, (s8.1 4)), (21, v14), (22, v15), (23, v16), (24, v17), (5, v17), (25, (s8.1 4)), (26, (s8.1 4)), (27, v18), (28, v19), (29, v20), (4, v20), (30, (s8.1 3)), (31, v21), (32, v22), (33, v23), (34, v17), (35, v24), (36, v25), (37, (s8.1 3)), (38, v27), (39, v28), (40, v29), (41, v17), (42, v30), (43, (s8.1 0)), (44, v17), (45, v32), (46, v33), (47, r34.1)]), r34.2))))
 (F75_J0 call it)))
 (F75_J1 call it))
 else
 (some (.exit 0, (updL s8.1 [(16, (s8.1 4)), (17, v11), (18, v12)]), s8.2))
noncomputable def F75 (call : CallF) (it : ItF) (x0 : AV) (H : AH) : Option (AV × AH) :=
 (aLen Tryd.prog 22 x0).bind fun v1 =>
 (nMakeSlice Tryd.prog 139 v1 v1).bind fun nb2 =>
 (aLen Tryd.prog 22 x0).bind fun v3 =>
 (nMakeSlice Tryd.prog 139 v3 v3).bind fun nb4 =>
 (aBuild Tryd.prog 148 [(0, x0), (1, (nb2.val H.next)), (2, (nb4.val (H.next + 1)))]).bind fun v5 =>
 (nBox 148 v5).bind fun nb6 =>
 (nBuildSlice Tryd.prog 40 1 [(0, (.int .i64 0))]).bind fun nb7 =>
 (it (F75_L2 call it) ((updL (T0 [x0]) [(2, (.ptr none)), (6, x0), (7, x0), (8, v1), (9, (nb2.val H.next)), (10, x0), (11, v3), (12, (nb4.val (H.next + 1))), (13, v5), (14, (nb6.val (H.next + 2))), (3, (nb6.val (H.next + 2))), (15, (nb7.val ((((H.res 3).put H.next ⟨nb2.cells, nb2.elem, true⟩).put (H.next + 1) ⟨nb4.cells, nb4.elem, true⟩).put (H.next + 2) ⟨nb6.cells, nb6.elem, true⟩).next)), (4, (nb7.val ((((H.res 3).put H.next ⟨nb2.cells, nb2.elem, true⟩).put (H.next + 1) ⟨nb4.cells, nb4.elem, true⟩).put (H.next + 2) ⟨nb6.cells, nb6.elem, true⟩).next))]), (((((H.res 3).put H.next ⟨nb2.cells, nb2.elem, true⟩).put (H.next + 1) ⟨nb4.cells, nb4.elem, true⟩).put (H.next + 2) ⟨nb6.cells, nb6.elem, true⟩).new nb7.cells nb7.elem))).bind fun r9 => match r9.1 with
 | .normal => none
 | .exit j10 => if j10 = 0 then
 (some ((r9.2.1 3), r9.2.2))
 else
 (none)
 | .ret => some ((r9.2.1 2), r9.2.2)
theorem F75_eq (call : CallF) (it : ItF) (x0 : AV) (H : AH) : aFun Tryd.prog (drawA Tryd.prog) call it 75 [x0] H = F75 call it x0 H :=
 (aFun_eq Tryd.func75 rfl (by kernel_rfl) _ H (Nat.le_of_ble_eq_true (by kernel_rfl))).trans (by kernel_rfl)

noncomputable def F76 (call : CallF) (it : ItF) (x0 : AV) (x1 : AV) (H : AH) : Option (AV × AH) :=
 (nAlloc Tryd.prog 108).bind fun nb1 =>
 (call 103 [x0, x1] (H.new nb1.cells nb1.elem)).bind fun r2 =>
 (nAlloc Tryd.prog 108).bind fun nb3 =>
 ((aStore Tryd.prog 108 (nb3.val r2.2.next) r2.1 (r2.2.new nb3.cells nb3.elem)).map fun H' => ((.tuple [] : AV), H')).bind fun r4 =>
 (ptrAdd (nb3.val r2.2.next) 0).bind fun v5 =>
 (ldOne v5 r4.2).bind fun v6 =>
 (aBin Tryd.prog .gtr 3 v6 (.int .i64 0)).bind fun v7 =>
 (asB v7).bind fun b8 => if b8 = true then
 ((ldAgg (nb3.val r2.2.next) 3 r4.2).bind fun v9 =>
 ((aStore Tryd.prog 108 (nb1.val H.next) v9 r4.2).map fun H' => ((.tuple [] : AV), H')).bind fun r10 =>
 (((ldAgg (nb1.val H.next) 3 r10.2).bind fun v11 => some (v11 :: [])).map oneOf).map fun v => (v, r10.2))
 else
 ((call 104 [x0, x1, (.int .i64 2)] r4.2).bind fun r12 =>
 (aBin Tryd.prog .eql 22 r12.1 (.slice none 0 (.kn 0))).bind fun v13 =>
 (asB v13).bind fun b14 => if b14 = true then
 ((aBuild Tryd.prog 108 []).bind fun v15 =>
 ((aStore Tryd.prog 108 (nb1.val H.next) v15 r12.2).map fun H' => ((.tuple [] : AV), H')).bind fun r16 =>
 (((ldAgg (nb1.val H.next) 3 r16.2).bind fun v17 => some (v17 :: [])).map oneOf).map fun v => (v, r16.2))
 else
 ((idxSl r12.1 (.int .i64 0) 3).bind fun v18 =>
 (ldAgg v18 3 (r12.2.res 1)).bind fun v19 =>
 (idxSl r12.1 (.int .i64 1) 3).bind fun v20 =>
 (ldAgg v20 3 (r12.2.res 1)).bind fun v21 =>
 (call 105 [v19, v21] (r12.2.res 1)).bind fun r22 =>
 (nAlloc Tryd.prog 108).bind fun nb23 =>
 ((aStore Tryd.prog 108 (nb23.val r12.2.next) r22.1 (r22.2.put r12.2.next ⟨nb23.cells, nb23.elem, true⟩)).map fun H' => ((.tuple [] : AV), H')).bind fun r24 =>
 (ptrAdd (nb23.val r12.2.next) 0).bind fun v25 =>
 (ldOne v25 r24.2).bind fun v26 =>
 (aBin Tryd.prog .gtr 3 v26 (.int .i64 0)).bind fun v27 =>
 (asB v27).bind fun b28 => if b28 = true then
 ((ldAgg (nb23.val r12.2.next) 3 r24.2).bind fun v29 =>
 ((aStore Tryd.prog 108 (nb1.val H.next) v29 r24.2).map fun H' => ((.tuple [] : AV), H')).bind fun r30 =>
 (((ldAgg (nb1.val H.next) 3 r30.2).bind fun v31 => some (v31 :: [])).map oneOf).map fun v => (v, r30.2))
 else
 ((call 106 [x0, x1] r24.2).bind fun r32 =>
 (nAlloc Tryd.prog 108).bind fun nb33 =>
 ((aStore Tryd.prog 108 (nb33.val r32.2.next) r32.1 (r32.2.new nb33.cells nb33.elem)).map fun H' => ((.tuple [] : AV), H')).bind fun r34 =>
 (ptrAdd (nb33.val r32.2.next) 0).bind fun v35 =>
 (ldOne v35 r34.2).bind fun v36 =>
 (aBin Tryd.prog .gtr 3 v36 (.int .i64 0)).bind fun v37 =>
 (asB v37).bind fun b38 => if b38 = true then
 ((ldAgg (nb33.val r32.2.next) 3 r34.2).bind fun v39 =>
 ((aStore Tryd.prog 108 (nb1.val H.next) v39 r34.2).map fun H' => ((.tuple [] : AV), H')).bind fun r40 =>
 (((ldAgg (nb1.val H.next) 3 r40.2).bind fun v41 => some (v41 :: [])).map oneOf).map fun v => (v, r40.2))
 else
 ((idxSl r12.1 (.int .i64 0) 3).bind fun v42 =>
 (ldAgg v42 3 r34.2).bind fun v43 =>
 (idxSl r12.1 (.int .i64 1) 3).bind fun v44 =>
 (ldAgg v44 3 r34.2).bind fun v45 =>
 (call 107 [v43, v45] r34.2).bind fun r46 =>
 (aBin Tryd.prog .gtr 3 r46.1 (.int .i64 0)).bind fun v47 =>
 (asB v47).bind fun b48 => if b48 = true then
 ((aBuild Tryd.prog 108 [(0, r46.1), (1, (.int .i64 2)), (2, (.slice none 0 (.kn 0)))]).bind fun v49 =>
 ((aStore Tryd.prog 108 (nb1.val H.next) v49 r46.2).map fun H' => ((.tuple [] : AV), H')).bind fun r50 =>
 (((ldAgg (nb1.val H.next) 3 r50.2).bind fun v51 => some (v51 :: [])).map oneOf).map fun v => (v, r50.2))
 else
 ((idxSl r12.1 (.int .i64 0) 3).bind fun v52 =>
 (ldAgg v52 3 r46.2).bind fun v53 =>
 (idxSl r12.1 (.int .i64 1) 3).bind fun v54 =>
 (ldAgg v54 3 r46.2).bind fun v55 =>
 (call 108 [v53, v55] r46.2).bind fun r56 =>
 ((aStore Tryd.prog 108 (nb1.val H.next) r56.1 r56.2).map fun H' => ((.tuple [] : AV), H')).bind fun r57 =>
 (((ldAgg (nb1.val H.next) 3 r57.2).bind fun v58 => some (v58 :: [])).map oneOf).map fun v => (v, r57.2))))))
theorem F76_eq (call : CallF) (it : ItF) (x0 : AV) (x1 : AV) (H : AH) : aFun Tryd.prog (drawA Tryd.prog) call it 76 [x0, x1] H = F76 call it x0 x1 H :=
 (aFun_eq Tryd.func76 rfl (by kernel_rfl) _ H (Nat.le_of_ble_eq_true (by kernel_rfl))).trans (by kernel_rfl)

end Go.Proofs.YthiflgncldmkjaaDoor
set_option linter.unusedVariables false
set_option maxRecDepth 100000
namespace Go.Proofs.YthiflgncldmkjaaDoor
open Go.Ri

noncomputable def F93 (call : CallF) (it : ItF) (x0 : AV) (H : AH) : Option (AV × AH) :=
 (aBin Tryd.prog .lss 2 x0 (.int .i64 0)).bind fun v1 =>
 (asB v1).bind fun b2 => if b2 = true then
 ((call 115 [x0] H).bind fun r3 =>
 (cvInt .u64 r3.1).bind fun v4 =>
 some (v4, r3.2))
 else
 ((cvInt .u64 x0).bind fun v5 =>
 some (v5, H))
theorem F93_eq (call : CallF) (it : ItF) (x0 : AV) (H : AH) : aFun Tryd.prog (drawA Tryd.prog) call it 93 [x0] H = F93 call it x0 H :=
 (aFun_eq Tryd.func93 rfl (by kernel_rfl) _ H (Nat.le_of_ble_eq_true (by kernel_rfl))).trans (by kernel_rfl)

noncomputable def F94_J0 (call : CallF) (it : ItF) (T47 : Tm) (H48 : AH) : Option (AV × AH) :=
 (asB (T47 38)).bind fun b49 => if b49 = true then
 ((ptrAdd (T47 3) 1).bind fun v50 =>
 (ldOne v50 H48).bind fun v51 =>
 (aBin Tryd.prog .geq 2 v51 (.int .i64 0)).bind fun v52 =>
 ((gdv v52 true).bind fun g53 => if g53 = true then (ptrAdd (T47 3) 1) else some (.tuple [])).bind fun v54 =>
 ((gdv v52 true).bind fun g55 => if g55 = true then (ldOne v54 H48) else some (.tuple [])).bind fun v56 =>
 ((gdv v52 true).bind fun g57 => if g57 = true then (some (T47 0)) else some (.tuple [])).bind fun v58 =>
 ((gdv v52 true).bind fun g59 => if g59 = true then (nilC v58) else some (.tuple [])).bind fun v60 =>
 ((gdv v52 true).bind fun g61 => if g61 = true then (ptrAdd v60 1) else some (.tuple [])).bind fun v62 =>
 ((gdv v52 true).bind fun g63 => if g63 = true then (ptrAdd v62 0) else some (.tuple [])).bind fun v64 =>
 ((gdv v52 true).bind fun g65 => if g65 = true then (ldOne v64 H48) else some (.tuple [])).bind fun v66 =>
 ((gdv v52 true).bind fun g67 => if g67 = true then (aLen Tryd.prog 22 v66) else some (.tuple [])).bind fun v68 =>
 ((gdv v52 true).bind fun g69 => if g69 = true then (aBin Tryd.prog .lss 2 v56 v68) else some (.tuple [])).bind fun v70 =>
 ((asB v52).bind fun b71 => if b71 = true then some v70 else some (.bool false)).bind fun v72 =>
 some (v72, H48))
 else
 ((aBin Tryd.prog .eql 3 (T47 15) (.int .i64 19)).bind fun v73 =>
 (asB v73).bind fun b74 => if b74 = true then
 ((ptrAdd (T47 3) 1).bind fun v75 =>
 (ldOne v75 H48).bind fun v76 =>
 (aBin Tryd.prog .geq 2 v76 (.int .i64 0)).bind fun v77 =>
 ((gdv v77 true).bind fun g78 => if g78 = true then (ptrAdd (T47 3) 1) else some (.tuple [])).bind fun v79 =>
 ((gdv v77 true).bind fun g80 => if g80 = true then (ldOne v79 H48) else some (.tuple [])).bind fun v81 =>
 ((gdv v77 true).bind fun g82 => if g82 = true then (some (T47 0)) else some (.tuple [])).bind fun v83 =>
 ((gdv v77 true).bind fun g84 => if g84 = true then (nilC v83) else some (.tuple [])).bind fun v85 =>
 ((gdv v77 true).bind fun g86 => if g86 = true then (ptrAdd v85 0) else some (.tuple [])).bind fun v87 =>
 ((gdv v77 true).bind fun g88 => if g88 = true then (ldOne v87 H48) else some (.tuple [])).bind fun v89 =>
 ((gdv v77 true).bind fun g90 => if g90 = true then (aLen Tryd.prog 36 v89) else some (.tuple [])).bind fun v91 =>
 ((gdv v77 true).bind fun g92 => if g92 = true then (aBin Tryd.prog .lss 2 v81 v91) else some (.tuple [])).bind fun v93 =>
 ((asB v77).bind fun b94 => if b94 = true then some v93 else some (.bool false)).bind fun v95 =>
 ((gdv v95 true).bind fun g96 => if g96 = true then (ptrAdd (T47 3) 2) else some (.tuple [])).bind fun v97 =>
 ((gdv v95 true).bind fun g98 => if g98 = true then (ldOne v97 H48) else some (.tuple [])).bind fun v99 =>
 ((gdv v95 true).bind fun g100 => if g100 = true then (aBin Tryd.prog .geq 2 v99 (.int .i64 0)) else some (.tuple [])).bind fun v101 =>
 ((asB v95).bind fun b102 => if b102 = true then some v101 else some (.bool false)).bind fun v103 =>
 ((gdv v103 true).bind fun g104 => if g104 = true then (ptrAdd (T47 3) 2) else some (.tuple [])).bind fun v105 =>
 ((gdv v103 true).bind fun g106 => if g106 = true then (ldOne v105 H48) else some (.tuple [])).bind fun v107 =>
 ((gdv v103 true).bind fun g108 => if g108 = true then (aBin Tryd.prog .leq 2 v107 (.int .i64 8)) else some (.tuple [])).bind fun v109 =>
 ((asB v103).bind fun b110 => if b110 = true then some v109 else some (.bool false)).bind fun v111 =>
 ((gdv v111 true).bind fun g112 => if g112 = true then (ptrAdd (T47 3) 2) else some (.tuple [])).bind fun v113 =>
 ((gdv v111 true).bind fun g114 => if g114 = true then (ldOne v113 H48) else some (.tuple [])).bind fun v115 =>
 ((gdv v111 true).bind fun g116 => if g116 = true then (some (T47 0)) else some (.tuple [])).bind fun v117 =>
 ((gdv v111 true).bind fun g118 => if g118 = true then (nilC v117) else some (.tuple [])).bind fun v119 =>
 ((gdv v111 true).bind fun g120 => if g120 = true then (ptrAdd v119 0) else some (.tuple [])).bind fun v121 =>
 ((gdv v111 true).bind fun g122 => if g122 = true then (ldOne v121 H48) else some (.tuple [])).bind fun v123 =>
 ((gdv v111 true).bind fun g124 => if g124 = true then (ptrAdd (T47 3) 1) else some (.tuple [])).bind fun v125 =>
 ((gdv v111 true).bind fun g126 => if g126 = true then (ldOne v125 H48) else some (.tuple [])).bind fun v127 =>
 ((gdv v111 true).bind fun g128 => if g128 = true then (idxSl v123 v127 4) else some (.tuple [])).bind fun v129 =>
 ((gdv v111 true).bind fun g130 => if g130 = true then (ptrAdd v129 2) else some (.tuple [])).bind fun v131 =>
 ((gdv v111 true).bind fun g132 => if g132 = true then (ldOne v131 H48) else some (.tuple [])).bind fun v133 =>
 ((gdv v111 true).bind fun g134 => if g134 = true then (aBin Tryd.prog .eql 2 v115 v133) else some (.tuple [])).bind fun v135 =>
 ((asB v111).bind fun b136 => if b136 = true then some v135 else some (.bool false)).bind fun v137 =>
 some (v137, H48))
 else
 ((aBin Tryd.prog .eql 3 (T47 15) (.int .i64 20)).bind fun v138 =>
 (asB v138).bind fun b139 => if b139 = true then
 ((ptrAdd (T47 3) 1).bind fun v140 =>
 (ldOne v140 H48).bind fun v141 =>
 (aBin Tryd.prog .eql 2 v141 (.int .i64 0)).bind fun v142 =>
 ((gdv v142 true).bind fun g143 => if g143 = true then (some (T47 0)) else some (.tuple [])).bind fun v144 =>
 ((gdv v142 true).bind fun g145 => if g145 = true then (nilC v144) else some (.tuple [])).bind fun v146 =>
 ((gdv v142 true).bind fun g147 => if g147 = true then (ptrAdd v146 1) else some (.tuple [])).bind fun v148 =>
 ((gdv v142 true).bind fun g149 => if g149 = true then (ptrAdd v148 3) else some (.tuple [])).bind fun v150 =>
 ((gdv v142 true).bind fun g151 => if g151 = true then (ldOne v150 H48) else some (.tuple [])).bind fun v152 =>
 ((gdv v142 true).bind fun g153 => if g153 = true then (aUn .not v152) else some (.tuple [])).bind fun v154 =>
 ((asB v142).bind fun b155 => if b155 = true then some v154 else some (.bool false)).bind fun v156 =>
 ((gdv v156 false).bind fun g157 => if g157 = true then (ptrAdd (T47 3) 1) else some (.tuple [])).bind fun v158 =>
 ((gdv v156 false).bind fun g159 => if g159 = true then (ldOne v158 H48) else some (.tuple [])).bind fun v160 =>
 ((gdv v156 false).bind fun g161 => if g161 = true then (aBin Tryd.prog .eql 2 v160 (.int .i64 1)) else some (.tuple [])).bind fun v162 =>
 ((gdv v156 false).bind fun g163 => if g163 = true then (some v162) else some (.tuple [])).bind fun v164 =>
 ((gdv v164 true).bind fun g165 => if g165 = true then (some (T47 0)) else some (.tuple [])).bind fun v166 =>
 ((gdv v164 true).bind fun g167 => if g167 = true then (nilC v166) else some (.tuple [])).bind fun v168 =>
 ((gdv v164 true).bind fun g169 => if g169 = true then (ptrAdd v168 1) else some (.tuple [])).bind fun v170 =>
 ((gdv v164 true).bind fun g171 => if g171 = true then (ptrAdd v170 3) else some (.tuple [])).bind fun v172 =>
 ((gdv v164 true).bind fun g173 => if g173 = true then (ldOne v172 H48) else some (.tuple [])).bind fun v174 =>
 ((gdv v156 false).bind fun g176 => if g176 = true then ((asB v164).bind fun b175 => if b175 = true then some v174 else some (.bool false)) else some (.tuple [])).bind fun v177 =>
 ((asB v156).bind fun b178 => if b178 = true then some (.bool true) else some v177).bind fun v179 =>
 some (v179, H48))
 else
 ((aBin Tryd.prog .eql 3 (T47 15) (.int .i64 24)).bind fun v180 =>
 (asB v180).bind fun b181 => if b181 = true then
 ((ptrAdd (T47 3) 1).bind fun v182 =>
 (ldOne v182 H48).bind fun v183 =>
 (aBin Tryd.prog .geq 2 v183 (.int .i64 0)).bind fun v184 =>
 ((gdv v184 true).bind fun g185 => if g185 = true then (ptrAdd (T47 3) 2) else some (.tuple [])).bind fun v186 =>
 ((gdv v184 true).bind fun g187 => if g187 = true then (ldOne v186 H48) else some (.tuple [])).bind fun v188 =>
 ((gdv v184 true).bind fun g189 => if g189 = true then (aBin Tryd.prog .geq 2 v188 (.int .i64 1)) else some (.tuple [])).bind fun v190 =>
 ((asB v184).bind fun b191 => if b191 = true then some v190 else some (.bool false)).bind fun v192 =>
 ((gdv v192 true).bind fun g193 => if g193 = true then (ptrAdd (T47 3) 2) else some (.tuple [])).bind fun v194 =>
 ((gdv v192 true).bind fun g195 => if g195 = true then (ldOne v194 H48) else some (.tuple [])).bind fun v196 =>
 ((gdv v192 true).bind fun g197 => if g197 = true then (aBin Tryd.prog .leq 2 v196 (.int .i64 3)) else some (.tuple [])).bind fun v198 =>
 ((asB v192).bind fun b199 => if b199 = true then some v198 else some (.bool false)).bind fun v200 =>
 some (v200, H48))
 else
 (some ((.bool true), H48)))))
noncomputable def F94_J1 (call : CallF) (it : ItF) (T24 : Tm) (H25 : AH) : Option (AV × AH) :=
 (asB (T24 23)).bind fun b26 => if b26 = true then
 ((ptrAdd (T24 3) 2).bind fun v27 =>
 (ldOne v27 H25).bind fun v28 =>
 (aBin Tryd.prog .leq 2 v28 (.int .i64 64)).bind fun v29 =>
 ((gdv v29 true).bind fun g30 => if g30 = true then (some (T24 0)) else some (.tuple [])).bind fun v31 =>
 ((gdv v29 true).bind fun g32 => if g32 = true then (ptrAdd (T24 3) 1) else some (.tuple [])).bind fun v33 =>
 ((gdv v29 true).bind fun g34 => if g34 = true then (ldOne v33 H25) else some (.tuple [])).bind fun v35 =>
 ((gdv v29 true).bind fun g36 => if g36 = true then (ptrAdd (T24 3) 2) else some (.tuple [])).bind fun v37 =>
 ((gdv v29 true).bind fun g38 => if g38 = true then (ldOne v37 H25) else some (.tuple [])).bind fun v39 =>
 ((gdv v29 true).bind fun g40 => if g40 = true then (call 116 [v31, v35, v39] H25) else some (.tuple [], H25)).bind fun r41 =>
 ((asB v29).bind fun b42 => if b42 = true then some r41.1 else some (.bool false)).bind fun v43 =>
 some (v43, r41.2))
 else
 (jn (
 (aBin Tryd.prog .eql 3 (T24 15) (.int .i64 17)).bind fun v44 =>
 (asB v44).bind fun b45 => if b45 = true then
 (some (.inl ((updL T24 [(39, v44), (38, v44)]), H25)))
 else
 ((aBin Tryd.prog .eql 3 (T24 15) (.int .i64 18)).bind fun v46 =>
 some (.inl ((updL T24 [(39, v44), (38, v44), (40, v46), (38, v46)]), H25))))
 (F94_J0 call it))
noncomputable def F94_J2 (call : CallF) (it : ItF) (T13 : Tm) (H14 : AH) : Option (AV × AH) :=
 (asB (T13 16)).bind fun b15 => if b15 = true then
 ((ptrAdd (T13 3) 1).bind fun v16 =>
 (ldOne v16 H14).bind fun v17 =>
 (call 116 [(T13 0), v17, (.int .i64 1)] H14).bind fun r18 =>
 some (r18.1, r18.2))
 else
 (jn (
 (aBin Tryd.prog .eql 3 (T13 15) (.int .i64 4)).bind fun v19 =>
 (asB v19).bind fun b20 => if b20 = true then
 (some (.inl ((updL T13 [(24, v19), (23, v19)]), H14)))
 else
 ((aBin Tryd.prog .eql 3 (T13 15) (.int .i64 5)).bind fun v21 =>
 (asB v21).bind fun b22 => if b22 = true then
 (some (.inl ((updL T13 [(24, v19), (23, v19), (25, v21), (23, v21)]), H14)))
 else
 ((aBin Tryd.prog .eql 3 (T13 15) (.int .i64 6)).bind fun v23 =>
 some (.inl ((updL T13 [(24, v19), (23, v19), (25, v21), (23, v21), (26, v23), (23, v23)]), H14)))))
 (F94_J1 call it))
noncomputable def F94 (call : CallF) (it : ItF) (x0 : AV) (x1 : AV) (H : AH) : Option (AV × AH) :=
 (nBox 29 x1).bind fun nb1 =>
 (ldAgg (nb1.val H.next) 3 (H.new nb1.cells nb1.elem)).bind fun v2 =>
 (call 23 [v2] (H.new nb1.cells nb1.elem)).bind fun r3 =>
 (aExtract r3.1 0).bind fun v4 =>
 (aExtract r3.1 1).bind fun v5 =>
 (aBin Tryd.prog .neq 30 v5 (.int .i64 0)).bind fun v6 =>
 (asB v6).bind fun b7 => if b7 = true then
 (some ((.bool false), r3.2))
 else
 ((ptrAdd (nb1.val H.next) 0).bind fun v8 =>
 (ldOne v8 r3.2).bind fun v9 =>
 jn (
 (aBin Tryd.prog .eql 3 v9 (.int .i64 2)).bind fun v10 =>
 (asB v10).bind fun b11 => if b11 = true then
 (some (.inl ((updL (T0 [x0, x1]) [(3, (nb1.val H.next)), (4, (.bool false)), (8, v2), (9, r3.1), (7, r3.1), (10, v4), (11, v5), (5, v4), (6, v5), (12, v5), (13, v6), (14, v8), (15, v9), (17, v10), (16, v10)]), r3.2)))
 else
 ((aBin Tryd.prog .eql 3 v9 (.int .i64 3)).bind fun v12 =>
 some (.inl ((updL (T0 [x0, x1]) [(3, (nb1.val H.next)), (4, (.bool false)), (8, v2), (9, r3.1), (7, r3.1), (10, v4), (11, v5), (5, v4), (6, v5), (12, v5), (13, v6), (14, v8), (15, v9), (17, v10), (16, v10), (18, v12), (16, v12)]), r3.2))))
 (F94_J2 call it))
theorem F94_eq (call : CallF) (it : ItF) (x0 : AV) (x1 : AV) (H : AH) : aFun Tryd.prog (drawA Tryd.prog) call it 94 [x0, x1] H = F94 call it x0 x1 H :=
 (aFun_eq Tryd.func94 rfl (by kernel_rfl) _ H (Nat.le_of_ble_eq_true (by kernel_rfl))).trans (by kernel_rfl)

noncomputable def F95_J0 (call : CallF) (it : ItF) (T141 : Tm) (H142 : AH) : Option (Ex × St) :=
 (aBin Tryd.prog .add 3 (T141 100) (.int .i64 1)).bind fun v143 =>
 some (.normal, (updL T141 [(150, v143), (100, v143)]), H142)
noncomputable def F95_L1 (call : CallF) (it : ItF) (s103 : St) : Option (Ex × St) :=
 (aBin Tryd.prog .lss 3 (s103.1 100) (s103.1 99)).bind fun v106 =>
 (asB v106).bind fun b107 => if b107 = true then
 (jn (
 (idxSl (s103.1 98) (s103.1 100) 1).bind fun v108 =>
 (ldOne v108 s103.2).bind fun v109 =>
 (nilC (s103.1 0)).bind fun v110 =>
 (ptrAdd v110 5).bind fun v111 =>
 (ldOne v111 s103.2).bind fun v112 =>
 (aLen Tryd.prog 40 v112).bind fun v113 =>
 (aBin Tryd.prog .geq 3 v109 v113).bind fun v114 =>
 (asB v114).bind fun b115 => if b115 = true then
 ((some (.ret, (updL s103.1 [(101, v106), (102, v108), (103, v109), (10, v109), (105, v109), (106, (s103.1 0)), (107, v110), (108, v111), (109, v112), (110, v113), (111, v114), (104, v114), (2, (.bool false))]), s103.2)).map .inr)
 else
 ((nilC (s103.1 0)).bind fun v116 =>
 (ptrAdd v116 5).bind fun v117 =>
 (ldOne v117 s103.2).bind fun v118 =>
 (idxSl v118 v109 1).bind fun v119 =>
 (ldOne v119 s103.2).bind fun v120 =>
 (aBin Tryd.prog .lss 3 v120 (.int .i64 0)).bind fun v121 =>
 (asB v121).bind fun b122 => if b122 = true then
 ((nilC (s103.1 0)).bind fun v123 =>
 (ptrAdd v123 5).bind fun v124 =>
 (ldOne v124 s103.2).bind fun v125 =>
 (aBin Tryd.prog .sub 3 (s103.1 6) (s103.1 7)).bind fun v126 =>
 (aBin Tryd.prog .add 3 v126 (s103.1 8)).bind fun v127 =>
 (idxSl v125 v109 1).bind fun v128 =>
 ((aStore Tryd.prog 3 v128 v127 s103.2).map fun H' => ((.tuple [] : AV), H')).bind fun r129 =>
 (nBuildSlice Tryd.prog 40 1 [(0, v109)]).bind fun nb130 =>
 (aAppend Tryd.prog 40 40 (s103.1 3) (nb130.val r129.2.next) (r129.2.new nb130.cells nb130.elem)).bind fun r131 =>
 some (.inl ((updL s103.1 [(101, v106), (102, v108), (103, v109), (10, v109), (105, v109), (106, (s103.1 0)), (107, v110), (108, v111), (109, v112), (110, v113), (111, v114), (104, v114), (113, (s103.1 0)), (114, v116), (115, v117), (116, v118), (117, v109), (118, v119), (119, v120), (120, v121), (112, v121), (121, (s103.1 0)), (122, v123), (123, v124), (124, v125), (125, v109), (126, (s103.1 6)), (127, (s103.1 7)), (128, v126), (129, (s103.1 8)), (130, v127), (131, v128), (132, (s103.1 3)), (133, v109), (134, (nb130.val r129.2.next)), (135, r131.1), (3, r131.1)]), r131.2)))
 else
 ((nilC (s103.1 0)).bind fun v132 =>
 (ptrAdd v132 5).bind fun v133 =>
 (ldOne v133 s103.2).bind fun v134 =>
 (idxSl v134 v109 1).bind fun v135 =>
 (ldOne v135 s103.2).bind fun v136 =>
 (aBin Tryd.prog .sub 3 (s103.1 6) (s103.1 7)).bind fun v137 =>
 (aBin Tryd.prog .add 3 v137 (s103.1 8)).bind fun v138 =>
 (aBin Tryd.prog .neq 3 v136 v138).bind fun v139 =>
 (asB v139).bind fun b140 => if b140 = true then
 ((some (.ret, (updL s103.1 [(101, v106), (102, v108), (103, v109), (10, v109), (105, v109), (106, (s103.1 0)), (107, v110), (108, v111), (109, v112), (110, v113), (111, v114), (104, v114), (113, (s103.1 0)), (114, v116), (115, v117), (116, v118), (117, v109), (118, v119), (119, v120), (120, v121), (112, v121), (137, (s103.1 0)), (138, v132), (139, v133), (140, v134), (141, v109), (142, v135), (143, v136), (144, (s103.1 6)), (145, (s103.1 7)), (146, v137), (147, (s103.1 8)), (148, v138), (149, v139), (136, v139), (2, (.bool false))]), s103.2)).map .inr)
 else
 (some (.inl ((updL s103.1 [(101, v106), (102, v108), (103, v109), (10, v109), (105, v109), (106, (s103.1 0)), (107, v110), (108, v111), (109, v112), (110, v113), (111, v114), (104, v114), (113, (s103.1 0)), (114, v116), (115, v117), (116, v118), (117, v109), (118, v119), (119, v120), (120, v121), (112, v121), (137, (s103.1 0)), (138, v132), (139, v133), (140, v134), (141, v109), (142, v135), (143, v136), (144, (s103.1 6)), (145, (s103.1 7)), (146, v137), (147, (s103.1 8)), (148, v138), (149, v139), (136, v139)]), s103.2))))))
 (F95_J0 call it))
 else
 (some (.exit 4, (updL s103.1 [(101, v106)]), s103.2))
noncomputable def F95_L2 (call : CallF) (it : ItF) (s26 : St) : Option (Ex × St) :=
 (aLen Tryd.prog 40 (s26.1 3)).bind fun v29 =>
 (aBin Tryd.prog .gtr 3 v29 (.int .i64 0)).bind fun v30 =>
 (asB v30).bind fun b31 => if b31 = true then
 ((aLen Tryd.prog 40 (s26.1 3)).bind fun v32 =>
 (aBin Tryd.prog .sub 3 v32 (.int .i64 1)).bind fun v33 =>
 (idxSl (s26.1 3) v33 1).bind fun v34 =>
 (ldOne v34 s26.2).bind fun v35 =>
 (aLen Tryd.prog 40 (s26.1 3)).bind fun v36 =>
 (aBin Tryd.prog .sub 3 v36 (.int .i64 1)).bind fun v37 =>
 (slSl (s26.1 3) 1 none (some v37) none).bind fun v38 =>
 (nilC (s26.1 0)).bind fun v39 =>
 (ptrAdd v39 1).bind fun v40 =>
 (ptrAdd v40 0).bind fun v41 =>
 (ldOne v41 (s26.2.res 1)).bind fun v42 =>
 (idxSl v42 v35 3).bind fun v43 =>
 (ldAgg v43 3 (s26.2.res 1)).bind fun v44 =>
 (nilC (s26.1 0)).bind fun v45 =>
 (ptrAdd v45 5).bind fun v46 =>
 (ldOne v46 (s26.2.res 1)).bind fun v47 =>
 (idxSl v47 v35 1).bind fun v48 =>
 (ldOne v48 (s26.2.res 1)).bind fun v49 =>
 (nAlloc Tryd.prog 29).bind fun nb50 =>
 ((aStore Tryd.prog 29 (nb50.val s26.2.next) v44 ((s26.2.res 1).put s26.2.next ⟨nb50.cells, nb50.elem, true⟩)).map fun H' => ((.tuple [] : AV), H')).bind fun r51 =>
 chkL [((ldOne v48 r51.2), some v49), ((ldOne v46 r51.2), some v47)] ((ldAgg (nb50.val s26.2.next) 3 r51.2).bind fun v52 =>
 (call 117 [(s26.1 0), v52] r51.2).bind fun r53 =>
 (aExtract r53.1 0).bind fun v54 =>
 (aExtract r53.1 1).bind fun v55 =>
 (aBin Tryd.prog .lss 3 v49 v54).bind fun v56 =>
 ((gdv v56 false).bind fun g57 => if g57 = true then (some v49) else some (.tuple [])).bind fun v58 =>
 ((gdv v56 false).bind fun g59 => if g59 = true then (aBin Tryd.prog .gtr 3 v58 (.int .i64 4096)) else some (.tuple [])).bind fun v60 =>
 ((asB v56).bind fun b61 => if b61 = true then some (.bool true) else some v60).bind fun v62 =>
 ((gdv v62 false).bind fun g63 => if g63 = true then (ptrAdd (nb50.val s26.2.next) 0) else some (.tuple [])).bind fun v64 =>
 ((gdv v62 false).bind fun g65 => if g65 = true then (ldOne v64 r53.2) else some (.tuple [])).bind fun v66 =>
 ((gdv v62 false).bind fun g67 => if g67 = true then (aBin Tryd.prog .eql 3 v66 (.int .i64 20)) else some (.tuple [])).bind fun v68 =>
 ((gdv v62 false).bind fun g69 => if g69 = true then (some v68) else some (.tuple [])).bind fun v70 =>
 ((gdv v70 true).bind fun g71 => if g71 = true then (some v49) else some (.tuple [])).bind fun v72 =>
 ((gdv v70 true).bind fun g73 => if g73 = true then (some v54) else some (.tuple [])).bind fun v74 =>
 ((gdv v70 true).bind fun g75 => if g75 = true then (aBin Tryd.prog .neq 3 v72 v74) else some (.tuple [])).bind fun v76 =>
 ((gdv v62 false).bind fun g78 => if g78 = true then ((asB v70).bind fun b77 => if b77 = true then some v76 else some (.bool false)) else some (.tuple [])).bind fun v79 =>
 ((asB v62).bind fun b80 => if b80 = true then some (.bool true) else some v79).bind fun v81 =>
 ((gdv v81 false).bind fun g82 => if g82 = true then (ptrAdd (nb50.val s26.2.next) 0) else some (.tuple [])).bind fun v83 =>
 ((gdv v81 false).bind fun g84 => if g84 = true then (ldOne v83 r53.2) else some (.tuple [])).bind fun v85 =>
 ((gdv v81 false).bind fun g86 => if g86 = true then (aBin Tryd.prog .eql 3 v85 (.int .i64 24)) else some (.tuple [])).bind fun v87 =>
 ((gdv v81 false).bind fun g88 => if g88 = true then (some v87) else some (.tuple [])).bind fun v89 =>
 ((gdv v89 true).bind fun g90 => if g90 = true then (some v49) else some (.tuple [])).bind fun v91 =>
 ((gdv v89 true).bind fun g92 => if g92 = true then (aBin Tryd.prog .neq 3 v91 (.int .i64 0)) else some (.tuple [])).bind fun v93 =>
 ((gdv v81 false).bind fun g95 => if g95 = true then ((asB v89).bind fun b94 => if b94 = true then some v93 else some (.bool false)) else some (.tuple [])).bind fun v96 =>
 ((asB v81).bind fun b97 => if b97 = true then some (.bool true) else some v96).bind fun v98 =>
 (asB v98).bind fun b99 => if b99 = true then
 (some (.ret, (updL s26.1 [(35, (s26.1 3)), (36, v29), (37, v30), (38, (s26.1 3)), (39, (s26.1 3)), (40, v32), (41, v33), (42, v34), (43, v35), (4, v35), (44, (s26.1 3)), (45, (s26.1 3)), (46, v36), (47, v37), (48, v38), (3, v38), (49, (s26.1 0)), (50, v39), (51, v40), (52, v41), (53, v42), (54, v35), (55, v43), (56, v44), (57, (s26.1 0)), (58, v45), (59, v46), (60, v47), (61, v35), (62, v48), (63, v49), (5, (nb50.val s26.2.next)), (6, v49), (65, (s26.1 0)), (66, v52), (67, r53.1), (64, r53.1), (68, v54), (69, v55), (7, v54), (8, v55), (70, v49), (71, v54), (72, v56), (73, v56), (74, v58), (75, v60), (76, v62), (77, v62), (78, v64), (79, v66), (80, v68), (81, v70), (82, v72), (83, v74), (84, v76), (85, v79), (86, v81), (87, v81), (88, v83), (89, v85), (90, v87), (91, v89), (92, v91), (93, v93), (94, v96), (95, v98), (2, (.bool false))]), r53.2))
 else
 ((ldAgg (nb50.val s26.2.next) 3 r53.2).bind fun v100 =>
 (call 118 [v100, v35] r53.2).bind fun r101 =>
 (aLen Tryd.prog 40 r101.1).bind fun v102 =>
 (it (F95_L1 call it) ((updL s26.1 [(35, (s26.1 3)), (36, v29), (37, v30), (38, (s26.1 3)), (39, (s26.1 3)), (40, v32), (41, v33), (42, v34), (43, v35), (4, v35), (44, (s26.1 3)), (45, (s26.1 3)), (46, v36), (47, v37), (48, v38), (3, v38), (49, (s26.1 0)), (50, v39), (51, v40), (52, v41), (53, v42), (54, v35), (55, v43), (56, v44), (57, (s26.1 0)), (58, v45), (59, v46), (60, v47), (61, v35), (62, v48), (63, v49), (5, (nb50.val s26.2.next)), (6, v49), (65, (s26.1 0)), (66, v52), (67, r53.1), (64, r53.1), (68, v54), (69, v55), (7, v54), (8, v55), (70, v49), (71, v54), (72, v56), (73, v56), (74, v58), (75, v60), (76, v62), (77, v62), (78, v64), (79, v66), (80, v68), (81, v70), (82, v72), (83, v74), (84, v76), (85, v79), (86, v81), (87, v81), (88, v83), (89, v85), (90, v87), (91, v89), (92, v91), (93, v93), (94, v96), (95, v98), (96, v100), (97, v35), (98, r101.1), (99, v102), (100, (.int .i64 0))]), r101.2)).bind fun r104 => match r104.1 with
 | .normal => none
 | .exit j105 => if j105 = 4 then
 (some (.normal, r104.2.1, r104.2.2))
 else
 (if j105 = 3 then
 (some (.normal, r104.2.1, r104.2.2))
 else
 (some (.exit j105, r104.2.1, r104.2.2)))
 | .ret => some (.ret, r104.2.1, r104.2.2))))
 else
 (some (.exit 2, (updL s26.1 [(35, (s26.1 3)), (36, v29), (37, v30)]), s26.2))
noncomputable def F95_L3 (call : CallF) (it : ItF) (s6 : St) : Option (Ex × St) :=
 (aBin Tryd.prog .lss 3 (s6.1 17) (s6.1 16)).bind fun v9 =>
 (asB v9).bind fun b10 => if b10 = true then
 ((nilC (s6.1 0)).bind fun v11 =>
 (ptrAdd v11 5).bind fun v12 =>
 (ldOne v12 s6.2).bind fun v13 =>
 (nBuildSlice Tryd.prog 40 1 [(0, (.int .i64 (-1)))]).bind fun nb14 =>
 (aAppend Tryd.prog 40 40 v13 (nb14.val s6.2.next) (s6.2.new nb14.cells nb14.elem)).bind fun r15 =>
 (nilC (s6.1 0)).bind fun v16 =>
 (ptrAdd v16 5).bind fun v17 =>
 ((aStore Tryd.prog 40 v17 r15.1 r15.2).map fun H' => ((.tuple [] : AV), H')).bind fun r18 =>
 (aBin Tryd.prog .add 3 (s6.1 17) (.int .i64 1)).bind fun v19 =>
 some (.normal, (updL s6.1 [(18, v9), (19, (s6.1 0)), (20, (s6.1 0)), (21, v11), (22, v12), (23, v13), (24, (nb14.val s6.2.next)), (25, r15.1), (26, v16), (27, v17), (28, v19), (17, v19)]), r18.2))
 else
 (some (.exit 0, (updL s6.1 [(18, v9)]), s6.2))
noncomputable def F95 (call : CallF) (it : ItF) (x0 : AV) (H : AH) : Option (AV × AH) :=
 (nilC x0).bind fun v1 =>
 (ptrAdd v1 1).bind fun v2 =>
 (ptrAdd v2 0).bind fun v3 =>
 (ldOne v3 H).bind fun v4 =>
 (aLen Tryd.prog 22 v4).bind fun v5 =>
 (it (F95_L3 call it) ((updL (T0 [x0]) [(2, (.bool false)), (11, x0), (12, v1), (13, v2), (14, v3), (15, v4), (16, v5), (17, (.int .i64 0))]), H)).bind fun r7 => match r7.1 with
 | .normal => none
 | .exit j8 => if j8 = 0 then
 ((nilC (r7.2.1 0)).bind fun v20 =>
 (ptrAdd v20 5).bind fun v21 =>
 (ldOne v21 r7.2.2).bind fun v22 =>
 (idxSl v22 (.int .i64 0) 1).bind fun v23 =>
 ((aStore Tryd.prog 3 v23 (.int .i64 0) r7.2.2).map fun H' => ((.tuple [] : AV), H')).bind fun r24 =>
 (nBuildSlice Tryd.prog 40 1 [(0, (.int .i64 0))]).bind fun nb25 =>
 (it (F95_L2 call it) ((updL r7.2.1 [(29, (r7.2.1 0)), (30, v20), (31, v21), (32, v22), (33, v23), (34, (nb25.val r24.2.next)), (3, (nb25.val r24.2.next))]), (r24.2.new nb25.cells nb25.elem))).bind fun r27 => match r27.1 with
 | .normal => none
 | .exit j28 => if j28 = 2 then
 (some ((.bool true), r27.2.2))
 else
 (none)
 | .ret => some ((r27.2.1 2), r27.2.2))
 else
 (none)
 | .ret => some ((r7.2.1 2), r7.2.2)
theorem F95_eq (call : CallF) (it : ItF) (x0 : AV) (H : AH) : aFun Tryd.prog (drawA Tryd.prog) call it 95 [x0] H = F95 call it x0 H :=
 (aFun_eq Tryd.func95 rfl (by kernel_rfl) _ H (Nat.le_of_ble_eq_true (by kernel_rfl))).trans (by kernel_rfl)

end Go.Proofs.YthiflgncldmkjaaDoor
set_option linter.unusedVariables false
set_option maxRecDepth 100000
namespace Go.Proofs.YthiflgncldmkjaaDoor
open Go.Ri

noncomputable def F97_J0 (call : CallF) (it : ItF) (T58 : Tm) (H59 : AH) : Option (St ⊕ (Ex × St)) :=
 some (.inl (T58, H59))
noncomputable def F97_J1 (call : CallF) (it : ItF) (T60 : Tm) (H61 : AH) : Option (Ex × St) :=
 (aBin Tryd.prog .add 3 (T60 39) (.int .i64 1)).bind fun v62 =>
 some (.normal, (updL T60 [(74, v62), (39, v62)]), H61)
noncomputable def F97_L2 (call : CallF) (it : ItF) (s24 : St) : Option (Ex × St) :=
 (aBin Tryd.prog .lss 3 (s24.1 39) (s24.1 38)).bind fun v27 =>
 (asB v27).bind fun b28 => if b28 = true then
 (jn (
 (idxSl (s24.1 37) (s24.1 39) 3).bind fun v29 =>
 (ldAgg v29 3 s24.2).bind fun v30 =>
 (nAlloc Tryd.prog 29).bind fun nb31 =>
 ((aStore Tryd.prog 29 (nb31.val s24.2.next) v30 (s24.2.new nb31.cells nb31.elem)).map fun H' => ((.tuple [] : AV), H')).bind fun r32 =>
 (ldAgg (nb31.val s24.2.next) 3 r32.2).bind fun v33 =>
 (call 101 [v33] r32.2).bind fun r34 =>
 (aUn .not r34.1).bind fun v35 =>
 (asB v35).bind fun b36 => if b36 = true then
 (some (.inl ((updL s24.1 [(40, v27), (41, (s24.1 39)), (42, v29), (43, v30), (10, (nb31.val s24.2.next)), (9, (s24.1 39)), (44, v33), (45, r34.1), (46, v35)]), r34.2)))
 else
 (jn (
 (ptrAdd (nb31.val s24.2.next) 1).bind fun v37 =>
 (ldOne v37 r34.2).bind fun v38 =>
 (ptrAdd (s24.1 5) 1).bind fun v39 =>
 (ldOne v39 r34.2).bind fun v40 =>
 (aBin Tryd.prog .add 3 (s24.1 1) v40).bind fun v41 =>
 (aBin Tryd.prog .geq 2 v38 v41).bind fun v42 =>
 (asB v42).bind fun b43 => if b43 = true then
 ((idxSl (s24.1 7) (s24.1 39) 3).bind fun v44 =>
 (ptrAdd v44 1).bind fun v45 =>
 (ldOne v45 r34.2).bind fun v46 =>
 (aBin Tryd.prog .sub 2 v46 (s24.1 8)).bind fun v47 =>
 (idxSl (s24.1 7) (s24.1 39) 3).bind fun v48 =>
 (ptrAdd v48 1).bind fun v49 =>
 ((aStore Tryd.prog 2 v49 v47 r34.2).map fun H' => ((.tuple [] : AV), H')).bind fun r50 =>
 some (.inl ((updL s24.1 [(40, v27), (41, (s24.1 39)), (42, v29), (43, v30), (10, (nb31.val s24.2.next)), (9, (s24.1 39)), (44, v33), (45, r34.1), (46, v35), (48, v37), (49, v38), (50, (s24.1 1)), (51, v39), (52, v40), (53, v41), (54, v42), (47, v42), (55, (s24.1 7)), (56, (s24.1 39)), (57, v44), (58, v45), (59, v46), (60, (s24.1 8)), (61, v47), (62, v48), (63, v49)]), r50.2)))
 else
 ((ptrAdd (nb31.val s24.2.next) 1).bind fun v51 =>
 (ldOne v51 r34.2).bind fun v52 =>
 (aBin Tryd.prog .gtr 2 v52 (s24.1 1)).bind fun v53 =>
 (asB v53).bind fun b54 => if b54 = true then
 ((idxSl (s24.1 7) (s24.1 39) 3).bind fun v55 =>
 (ptrAdd v55 1).bind fun v56 =>
 ((aStore Tryd.prog 2 v56 (s24.1 1) r34.2).map fun H' => ((.tuple [] : AV), H')).bind fun r57 =>
 some (.inl ((updL s24.1 [(40, v27), (41, (s24.1 39)), (42, v29), (43, v30), (10, (nb31.val s24.2.next)), (9, (s24.1 39)), (44, v33), (45, r34.1), (46, v35), (48, v37), (49, v38), (50, (s24.1 1)), (51, v39), (52, v40), (53, v41), (54, v42), (47, v42), (65, v51), (66, v52), (67, (s24.1 1)), (68, v53), (64, v53), (69, (s24.1 7)), (70, (s24.1 39)), (71, (s24.1 1)), (72, v55), (73, v56)]), r57.2)))
 else
 (some (.inl ((updL s24.1 [(40, v27), (41, (s24.1 39)), (42, v29), (43, v30), (10, (nb31.val s24.2.next)), (9, (s24.1 39)), (44, v33), (45, r34.1), (46, v35), (48, v37), (49, v38), (50, (s24.1 1)), (51, v39), (52, v40), (53, v41), (54, v42), (47, v42), (65, v51), (66, v52), (67, (s24.1 1)), (68, v53), (64, v53)]), r34.2)))))
 (F97_J0 call it)))
 (F97_J1 call it))
 else
 (some (.exit 0, (updL s24.1 [(40, v27)]), s24.2))
noncomputable def F97 (call : CallF) (it : ItF) (x0 : AV) (x1 : AV) (x2 : AV) (H : AH) : Option (AV × AH) :=
 (nBox 108 x2).bind fun nb1 =>
 (nilC x0).bind fun v2 =>
 (ptrAdd v2 0).bind fun v3 =>
 (ldOne v3 (H.new nb1.cells nb1.elem)).bind fun v4 =>
 (slSl v4 3 none (some x1) (some x1)).bind fun v5 =>
 (ptrAdd (nb1.val H.next) 2).bind fun v6 =>
 (ldOne v6 (H.new nb1.cells nb1.elem)).bind fun v7 =>
 (aAppend Tryd.prog 22 22 v5 v7 (H.new nb1.cells nb1.elem)).bind fun r8 =>
 (nilC x0).bind fun v9 =>
 (ptrAdd v9 0).bind fun v10 =>
 (ldOne v10 r8.2).bind fun v11 =>
 (ptrAdd (nb1.val H.next) 1).bind fun v12 =>
 (ldOne v12 r8.2).bind fun v13 =>
 (aBin Tryd.prog .add 3 x1 v13).bind fun v14 =>
 (slSl v11 3 (some v14) none none).bind fun v15 =>
 (aAppend Tryd.prog 22 22 r8.1 v15 r8.2).bind fun r16 =>
 chkL [((ldOne v12 (H.new nb1.cells nb1.elem)), some v13), ((ldOne v10 (H.new nb1.cells nb1.elem)), some v11)] ((ptrAdd (nb1.val H.next) 1).bind fun v17 =>
 (ldOne v17 r16.2).bind fun v18 =>
 (ptrAdd (nb1.val H.next) 2).bind fun v19 =>
 (ldOne v19 r16.2).bind fun v20 =>
 (aLen Tryd.prog 22 v20).bind fun v21 =>
 (aBin Tryd.prog .sub 3 v18 v21).bind fun v22 =>
 (aLen Tryd.prog 22 r16.1).bind fun v23 =>
 (it (F97_L2 call it) ((updL (T0 [x0, x1, x2]) [(5, (nb1.val H.next)), (6, (.slice none 0 (.kn 0))), (11, x0), (12, v2), (13, v3), (14, v4), (15, x1), (16, x1), (17, v5), (18, v6), (19, v7), (20, r8.1), (21, x0), (22, v9), (23, v10), (24, v11), (25, x1), (26, v12), (27, v13), (28, v14), (29, v15), (30, r16.1), (7, r16.1), (31, v17), (32, v18), (33, v19), (34, v20), (35, v21), (36, v22), (8, v22), (37, r16.1), (38, v23), (39, (.int .i64 0))]), r16.2)).bind fun r25 => match r25.1 with
 | .normal => none
 | .exit j26 => if j26 = 0 then
 (some ((r25.2.1 7), r25.2.2))
 else
 (none)
 | .ret => some ((r25.2.1 6), r25.2.2))
theorem F97_eq (call : CallF) (it : ItF) (x0 : AV) (x1 : AV) (x2 : AV) (H : AH) : aFun Tryd.prog (drawA Tryd.prog) call it 97 [x0, x1, x2] H = F97 call it x0 x1 x2 H :=
 (aFun_eq Tryd.func97 rfl (by kernel_rfl) _ H (Nat.le_of_ble_eq_true (by kernel_rfl))).trans (by kernel_rfl)

noncomputable def F101 (call : CallF) (it : ItF) (x0 : AV) (H : AH) : Option (AV × AH) :=
 (nBox 29 x0).bind fun nb1 =>
 (ptrAdd (nb1.val H.next) 0).bind fun v2 =>
 (ldOne v2 (H.new nb1.cells nb1.elem)).bind fun v3 =>
 (aBin Tryd.prog .eql 3 v3 (.int .i64 17)).bind fun v4 =>
 ((gdv v4 false).bind fun g5 => if g5 = true then (ptrAdd (nb1.val H.next) 0) else some (.tuple [])).bind fun v6 =>
 ((gdv v4 false).bind fun g7 => if g7 = true then (ldOne v6 (H.new nb1.cells nb1.elem)) else some (.tuple [])).bind fun v8 =>
 ((gdv v4 false).bind fun g9 => if g9 = true then (aBin Tryd.prog .eql 3 v8 (.int .i64 18)) else some (.tuple [])).bind fun v10 =>
 ((asB v4).bind fun b11 => if b11 = true then some (.bool true) else some v10).bind fun v12 =>
 some (v12, (H.new nb1.cells nb1.elem))
theorem F101_eq (call : CallF) (it : ItF) (x0 : AV) (H : AH) : aFun Tryd.prog (drawA Tryd.prog) call it 101 [x0] H = F101 call it x0 H :=
 (aFun_eq Tryd.func101 rfl (by kernel_rfl) _ H (Nat.le_of_ble_eq_true (by kernel_rfl))).trans (by kernel_rfl)

noncomputable def F102 (call : CallF) (it : ItF) (x0 : AV) (x1 : AV) (H : AH) : Option (AV × AH) :=
 (nilC x0).bind fun v1 =>
 (ptrAdd v1 0).bind fun v2 =>
 (ldOne v2 H).bind fun v3 =>
 (idxSl v3 x1 3).bind fun v4 =>
 (ldAgg v4 3 H).bind fun v5 =>
 (nAlloc Tryd.prog 29).bind fun nb6 =>
 ((aStore Tryd.prog 29 (nb6.val H.next) v5 (H.new nb6.cells nb6.elem)).map fun H' => ((.tuple [] : AV), H')).bind fun r7 =>
 (ptrAdd (nb6.val H.next) 0).bind fun v8 =>
 (ldOne v8 r7.2).bind fun v9 =>
 (aBin Tryd.prog .eql 3 v9 (.int .i64 20)).bind fun v10 =>
 (asB v10).bind fun b11 => if b11 = true then
 (some ((.slice none 0 (.kn 0)), r7.2))
 else
 ((aBin Tryd.prog .eql 3 v9 (.int .i64 17)).bind fun v12 =>
 (asB v12).bind fun b13 => if b13 = true then
 ((ptrAdd (nb6.val H.next) 1).bind fun v14 =>
 (ldOne v14 r7.2).bind fun v15 =>
 (nBuildSlice Tryd.prog 40 1 [(0, v15)]).bind fun nb16 =>
 some ((nb16.val r7.2.next), (r7.2.new nb16.cells nb16.elem)))
 else
 ((aBin Tryd.prog .eql 3 v9 (.int .i64 18)).bind fun v17 =>
 (asB v17).bind fun b18 => if b18 = true then
 ((aBin Tryd.prog .add 3 x1 (.int .i64 1)).bind fun v19 =>
 (ptrAdd (nb6.val H.next) 1).bind fun v20 =>
 (ldOne v20 r7.2).bind fun v21 =>
 (nBuildSlice Tryd.prog 40 2 [(0, v19), (1, v21)]).bind fun nb22 =>
 some ((nb22.val r7.2.next), (r7.2.new nb22.cells nb22.elem)))
 else
 ((aBin Tryd.prog .add 3 x1 (.int .i64 1)).bind fun v23 =>
 (nBuildSlice Tryd.prog 40 1 [(0, v23)]).bind fun nb24 =>
 some ((nb24.val r7.2.next), (r7.2.new nb24.cells nb24.elem)))))
theorem F102_eq (call : CallF) (it : ItF) (x0 : AV) (x1 : AV) (H : AH) : aFun Tryd.prog (drawA Tryd.prog) call it 102 [x0, x1] H = F102 call it x0 x1 H :=
 (aFun_eq Tryd.func102 rfl (by kernel_rfl) _ H (Nat.le_of_ble_eq_true (by kernel_rfl))).trans (by kernel_rfl)

noncomputable def F103_J0 (call : CallF) (it : ItF) (T96 : Tm) (H97 : AH) : Option (AV × AH) :=
 (aBuild Tryd.prog 108 []).bind fun v98 =>
 ((aStore Tryd.prog 108 (T96 4) v98 H97).map fun H' => ((.tuple [] : AV), H')).bind fun r99 =>
 (((ldAgg (T96 4) 3 r99.2).bind fun v100 => some (v100 :: [])).map oneOf).map fun v => (v, r99.2)
noncomputable def F103 (call : CallF) (it : ItF) (x0 : AV) (x1 : AV) (H : AH) : Option (AV × AH) :=
 (nAlloc Tryd.prog 108).bind fun nb1 =>
 (nilC x0).bind fun v2 =>
 (ptrAdd v2 0).bind fun v3 =>
 (ldOne v3 (H.new nb1.cells nb1.elem)).bind fun v4 =>
 (idxSl v4 x1 3).bind fun v5 =>
 (ldAgg v5 3 (H.new nb1.cells nb1.elem)).bind fun v6 =>
 (nAlloc Tryd.prog 29).bind fun nb7 =>
 ((aStore Tryd.prog 29 (nb7.val (H.new nb1.cells nb1.elem).next) v6 ((H.new nb1.cells nb1.elem).new nb7.cells nb7.elem)).map fun H' => ((.tuple [] : AV), H')).bind fun r8 =>
 jn (
 (nilC x0).bind fun v9 =>
 (ptrAdd v9 1).bind fun v10 =>
 (ldOne v10 r8.2).bind fun v11 =>
 (idxSl v11 x1 1).bind fun v12 =>
 (ldOne v12 r8.2).bind fun v13 =>
 (aUn .not v13).bind fun v14 =>
 (asB v14).bind fun b15 => if b15 = true then
 ((aBuild Tryd.prog 108 [(0, (.int .i64 1)), (1, (.int .i64 1)), (2, (.slice none 0 (.kn 0)))]).bind fun v16 =>
 ((aStore Tryd.prog 108 (nb1.val H.next) v16 r8.2).map fun H' => ((.tuple [] : AV), H')).bind fun r17 =>
 ((((ldAgg (nb1.val H.next) 3 r17.2).bind fun v18 => some (v18 :: [])).map oneOf).map fun v => (v, r17.2)).map .inr)
 else
 ((ptrAdd (nb7.val (H.new nb1.cells nb1.elem).next) 0).bind fun v19 =>
 (ldOne v19 r8.2).bind fun v20 =>
 (aBin Tryd.prog .eql 3 v20 (.int .i64 17)).bind fun v21 =>
 ((gdv v21 true).bind fun g22 => if g22 = true then (ptrAdd (nb7.val (H.new nb1.cells nb1.elem).next) 1) else some (.tuple [])).bind fun v23 =>
 ((gdv v21 true).bind fun g24 => if g24 = true then (ldOne v23 r8.2) else some (.tuple [])).bind fun v25 =>
 ((gdv v21 true).bind fun g26 => if g26 = true then (some x1) else some (.tuple [])).bind fun v27 =>
 ((gdv v21 true).bind fun g28 => if g28 = true then (aBin Tryd.prog .add 3 v27 (.int .i64 1)) else some (.tuple [])).bind fun v29 =>
 ((gdv v21 true).bind fun g30 => if g30 = true then (aBin Tryd.prog .eql 2 v25 v29) else some (.tuple [])).bind fun v31 =>
 ((asB v21).bind fun b32 => if b32 = true then some v31 else some (.bool false)).bind fun v33 =>
 (asB v33).bind fun b34 => if b34 = true then
 ((aBuild Tryd.prog 108 [(0, (.int .i64 2)), (1, (.int .i64 1)), (2, (.slice none 0 (.kn 0)))]).bind fun v35 =>
 ((aStore Tryd.prog 108 (nb1.val H.next) v35 r8.2).map fun H' => ((.tuple [] : AV), H')).bind fun r36 =>
 ((((ldAgg (nb1.val H.next) 3 r36.2).bind fun v37 => some (v37 :: [])).map oneOf).map fun v => (v, r36.2)).map .inr)
 else
 ((ptrAdd (nb7.val (H.new nb1.cells nb1.elem).next) 0).bind fun v38 =>
 (ldOne v38 r8.2).bind fun v39 =>
 (aBin Tryd.prog .eql 3 v39 (.int .i64 18)).bind fun v40 =>
 ((gdv v40 true).bind fun g41 => if g41 = true then (ptrAdd (nb7.val (H.new nb1.cells nb1.elem).next) 1) else some (.tuple [])).bind fun v42 =>
 ((gdv v40 true).bind fun g43 => if g43 = true then (ldOne v42 r8.2) else some (.tuple [])).bind fun v44 =>
 ((gdv v40 true).bind fun g45 => if g45 = true then (some x1) else some (.tuple [])).bind fun v46 =>
 ((gdv v40 true).bind fun g47 => if g47 = true then (aBin Tryd.prog .add 3 v46 (.int .i64 1)) else some (.tuple [])).bind fun v48 =>
 ((gdv v40 true).bind fun g49 => if g49 = true then (aBin Tryd.prog .eql 2 v44 v48) else some (.tuple [])).bind fun v50 =>
 ((asB v40).bind fun b51 => if b51 = true then some v50 else some (.bool false)).bind fun v52 =>
 (asB v52).bind fun b53 => if b53 = true then
 ((aBuild Tryd.prog 29 [(0, (.int .i64 25))]).bind fun v54 =>
 (nBuildSlice Tryd.prog 22 1 [(0, v54)]).bind fun nb55 =>
 (aBuild Tryd.prog 108 [(0, (.int .i64 3)), (1, (.int .i64 1)), (2, (nb55.val r8.2.next))]).bind fun v56 =>
 ((aStore Tryd.prog 108 (nb1.val H.next) v56 (r8.2.new nb55.cells nb55.elem)).map fun H' => ((.tuple [] : AV), H')).bind fun r57 =>
 ((((ldAgg (nb1.val H.next) 3 r57.2).bind fun v58 => some (v58 :: [])).map oneOf).map fun v => (v, r57.2)).map .inr)
 else
 ((ldAgg (nb7.val (H.new nb1.cells nb1.elem).next) 3 r8.2).bind fun v59 =>
 (call 101 [v59] r8.2).bind fun r60 =>
 (asB r60.1).bind fun b61 => if b61 = true then
 ((nilC x0).bind fun v62 =>
 (ptrAdd v62 0).bind fun v63 =>
 (ldOne v63 (r60.2.res 1)).bind fun v64 =>
 (ptrAdd (nb7.val (H.new nb1.cells nb1.elem).next) 1).bind fun v65 =>
 (ldOne v65 (r60.2.res 1)).bind fun v66 =>
 (idxSl v64 v66 3).bind fun v67 =>
 (ldAgg v67 3 (r60.2.res 1)).bind fun v68 =>
 (nAlloc Tryd.prog 29).bind fun nb69 =>
 ((aStore Tryd.prog 29 (nb69.val r60.2.next) v68 ((r60.2.res 1).put r60.2.next ⟨nb69.cells, nb69.elem, true⟩)).map fun H' => ((.tuple [] : AV), H')).bind fun r70 =>
 (ptrAdd (nb69.val r60.2.next) 0).bind fun v71 =>
 (ldOne v71 r70.2).bind fun v72 =>
 (aBin Tryd.prog .eql 3 v72 (.int .i64 17)).bind fun v73 =>
 ((gdv v73 true).bind fun g74 => if g74 = true then (ptrAdd (nb69.val r60.2.next) 1) else some (.tuple [])).bind fun v75 =>
 ((gdv v73 true).bind fun g76 => if g76 = true then (ldOne v75 r70.2) else some (.tuple [])).bind fun v77 =>
 ((gdv v73 true).bind fun g78 => if g78 = true then (ptrAdd (nb7.val (H.new nb1.cells nb1.elem).next) 1) else some (.tuple [])).bind fun v79 =>
 ((gdv v73 true).bind fun g80 => if g80 = true then (ldOne v79 r70.2) else some (.tuple [])).bind fun v81 =>
 ((gdv v73 true).bind fun g82 => if g82 = true then (aBin Tryd.prog .gtr 2 v77 v81) else some (.tuple [])).bind fun v83 =>
 ((asB v73).bind fun b84 => if b84 = true then some v83 else some (.bool false)).bind fun v85 =>
 (asB v85).bind fun b86 => if b86 = true then
 ((ptrAdd (nb69.val r60.2.next) 1).bind fun v87 =>
 (ldOne v87 r70.2).bind fun v88 =>
 (ptrAdd (nb7.val (H.new nb1.cells nb1.elem).next) 1).bind fun v89 =>
 ((aStore Tryd.prog 2 v89 v88 r70.2).map fun H' => ((.tuple [] : AV), H')).bind fun r90 =>
 (ldAgg (nb7.val (H.new nb1.cells nb1.elem).next) 3 r90.2).bind fun v91 =>
 (nBuildSlice Tryd.prog 22 1 [(0, v91)]).bind fun nb92 =>
 (aBuild Tryd.prog 108 [(0, (.int .i64 4)), (1, (.int .i64 1)), (2, (nb92.val r90.2.next))]).bind fun v93 =>
 ((aStore Tryd.prog 108 (nb1.val H.next) v93 (r90.2.new nb92.cells nb92.elem)).map fun H' => ((.tuple [] : AV), H')).bind fun r94 =>
 ((((ldAgg (nb1.val H.next) 3 r94.2).bind fun v95 => some (v95 :: [])).map oneOf).map fun v => (v, r94.2)).map .inr)
 else
 (some (.inl ((updL (T0 [x0, x1]) [(4, (nb1.val H.next)), (7, x0), (8, v2), (9, v3), (10, v4), (11, x1), (12, v5), (13, v6), (5, (nb7.val (H.new nb1.cells nb1.elem).next)), (15, x0), (16, v9), (17, v10), (18, v11), (19, x1), (20, v12), (21, v13), (22, v14), (14, v14), (25, v19), (26, v20), (27, v21), (28, v21), (29, v23), (30, v25), (31, v27), (32, v29), (33, v31), (34, v33), (24, v33), (37, v38), (38, v39), (39, v40), (40, v40), (41, v42), (42, v44), (43, v46), (44, v48), (45, v50), (46, v52), (36, v52), (51, v59), (52, r60.1), (50, r60.1), (53, x0), (54, v62), (55, v63), (56, v64), (57, v65), (58, v66), (59, v67), (60, v68), (6, (nb69.val r60.2.next)), (61, v71), (62, v72), (63, v73), (64, v73), (65, v75), (66, v77), (67, v79), (68, v81), (69, v83), (70, v85)]), r70.2))))
 else
 (some (.inl ((updL (T0 [x0, x1]) [(4, (nb1.val H.next)), (7, x0), (8, v2), (9, v3), (10, v4), (11, x1), (12, v5), (13, v6), (5, (nb7.val (H.new nb1.cells nb1.elem).next)), (15, x0), (16, v9), (17, v10), (18, v11), (19, x1), (20, v12), (21, v13), (22, v14), (14, v14), (25, v19), (26, v20), (27, v21), (28, v21), (29, v23), (30, v25), (31, v27), (32, v29), (33, v31), (34, v33), (24, v33), (37, v38), (38, v39), (39, v40), (40, v40), (41, v42), (42, v44), (43, v46), (44, v48), (45, v50), (46, v52), (36, v52), (51, v59), (52, r60.1), (50, r60.1)]), r60.2)))))))
 (F103_J0 call it)
theorem F103_eq (call : CallF) (it : ItF) (x0 : AV) (x1 : AV) (H : AH) : aFun Tryd.prog (drawA Tryd.prog) call it 103 [x0, x1] H = F103 call it x0 x1 H :=
 (aFun_eq Tryd.func103 rfl (by kernel_rfl) _ H (Nat.le_of_ble_eq_true (by kernel_rfl))).trans (by kernel_rfl)

noncomputable def F104_L0 (call : CallF) (it : ItF) (s8 : St) : Option (Ex × St) :=
 (aBin Tryd.prog .lss 3 (s8.1 7) (s8.1 2)).bind fun v11 =>
 (asB v11).bind fun b12 => if b12 = true then
 ((nilC (s8.1 0)).bind fun v13 =>
 (ptrAdd v13 2).bind fun v14 =>
 (ldOne v14 s8.2).bind fun v15 =>
 (aBin Tryd.prog .add 3 (s8.1 1) (s8.1 7)).bind fun v16 =>
 (idxSl v15 v16 1).bind fun v17 =>
 (ldOne v17 s8.2).bind fun v18 =>
 (asB v18).bind fun b19 => if b19 = true then
 (some (.ret, (updL s8.1 [(17, (s8.1 7)), (18, (s8.1 2)), (19, v11), (22, (s8.1 0)), (23, v13), (24, v14), (25, v15), (26, (s8.1 1)), (27, (s8.1 7)), (28, v16), (29, v17), (30, v18), (6, (.slice none 0 (.kn 0)))]), s8.2))
 else
 ((aBin Tryd.prog .add 3 (s8.1 7) (.int .i64 1)).bind fun v20 =>
 some (.normal, (updL s8.1 [(17, (s8.1 7)), (18, (s8.1 2)), (19, v11), (22, (s8.1 0)), (23, v13), (24, v14), (25, v15), (26, (s8.1 1)), (27, (s8.1 7)), (28, v16), (29, v17), (30, v18), (20, (s8.1 7)), (21, v20), (7, v20)]), s8.2)))
 else
 (some (.exit 0, (updL s8.1 [(17, (s8.1 7)), (18, (s8.1 2)), (19, v11)]), s8.2))
noncomputable def F104 (call : CallF) (it : ItF) (x0 : AV) (x1 : AV) (x2 : AV) (H : AH) : Option (AV × AH) :=
 (nilC x0).bind fun v1 =>
 (ptrAdd v1 0).bind fun v2 =>
 (ldOne v2 H).bind fun v3 =>
 (aLen Tryd.prog 22 v3).bind fun v4 =>
 (aBin Tryd.prog .sub 3 v4 x1).bind fun v5 =>
 (aBin Tryd.prog .gtr 3 x2 v5).bind fun v6 =>
 (asB v6).bind fun b7 => if b7 = true then
 (some ((.slice none 0 (.kn 0)), H))
 else
 ((it (F104_L0 call it) ((updL (T0 [x0, x1, x2]) [(6, (.slice none 0 (.kn 0))), (8, x2), (9, x0), (10, v1), (11, v2), (12, v3), (13, v4), (14, x1), (15, v5), (16, v6), (7, (.int .i64 1))]), H)).bind fun r9 => match r9.1 with
 | .normal => none
 | .exit j10 => if j10 = 0 then
 ((nilC (r9.2.1 0)).bind fun v21 =>
 (ptrAdd v21 0).bind fun v22 =>
 (ldOne v22 r9.2.2).bind fun v23 =>
 (aBin Tryd.prog .add 3 (r9.2.1 1) (r9.2.1 2)).bind fun v24 =>
 (aBin Tryd.prog .add 3 (r9.2.1 1) (r9.2.1 2)).bind fun v25 =>
 (slSl v23 3 (some (r9.2.1 1)) (some v24) (some v25)).bind fun v26 =>
 some (v26, r9.2.2))
 else
 (none)
 | .ret => some ((r9.2.1 6), r9.2.2))
theorem F104_eq (call : CallF) (it : ItF) (x0 : AV) (x1 : AV) (x2 : AV) (H : AH) : aFun Tryd.prog (drawA Tryd.prog) call it 104 [x0, x1, x2] H = F104 call it x0 x1 x2 H :=
 (aFun_eq Tryd.func104 rfl (by kernel_rfl) _ H (Nat.le_of_ble_eq_true (by kernel_rfl))).trans (by kernel_rfl)

noncomputable def F105_J0 (call : CallF) (it : ItF) (T46 : Tm) (H47 : AH) : Option (AV × AH) :=
 (aBuild Tryd.prog 108 []).bind fun v48 =>
 ((aStore Tryd.prog 108 (T46 4) v48 H47).map fun H' => ((.tuple [] : AV), H')).bind fun r49 =>
 (((ldAgg (T46 4) 3 r49.2).bind fun v50 => some (v50 :: [])).map oneOf).map fun v => (v, r49.2)
noncomputable def F105 (call : CallF) (it : ItF) (x0 : AV) (x1 : AV) (H : AH) : Option (AV × AH) :=
 (nBox 29 x0).bind fun nb1 =>
 (nBox 29 x1).bind fun nb2 =>
 (nAlloc Tryd.prog 108).bind fun nb3 =>
 jn (
 (ptrAdd (nb1.val H.next) 0).bind fun v4 =>
 (ldOne v4 (((H.new nb1.cells nb1.elem).new nb2.cells nb2.elem).new nb3.cells nb3.elem)).bind fun v5 =>
 (aBin Tryd.prog .neq 3 v5 (.int .i64 1)).bind fun v6 =>
 (asB v6).bind fun b7 => if b7 = true then
 (some (.inl ((updL (T0 [x0, x1]) [(2, (nb1.val H.next)), (3, (nb2.val (H.new nb1.cells nb1.elem).next)), (4, (nb3.val ((H.new nb1.cells nb1.elem).new nb2.cells nb2.elem).next)), (6, v4), (7, v5), (8, v6), (5, v6)]), (((H.new nb1.cells nb1.elem).new nb2.cells nb2.elem).new nb3.cells nb3.elem))))
 else
 ((ptrAdd (nb2.val (H.new nb1.cells nb1.elem).next) 0).bind fun v8 =>
 (ldOne v8 (((H.new nb1.cells nb1.elem).new nb2.cells nb2.elem).new nb3.cells nb3.elem)).bind fun v9 =>
 (aBin Tryd.prog .eql 3 v9 (.int .i64 16)).bind fun v10 =>
 (asB v10).bind fun b11 => if b11 = true then
 ((ptrAdd (nb1.val H.next) 1).bind fun v12 =>
 (ldOne v12 (((H.new nb1.cells nb1.elem).new nb2.cells nb2.elem).new nb3.cells nb3.elem)).bind fun v13 =>
 (call 111 [v13] (((H.new nb1.cells nb1.elem).new nb2.cells nb2.elem).new nb3.cells nb3.elem)).bind fun r14 =>
 (aBuild Tryd.prog 29 [(0, (.int .i64 1)), (1, r14.1)]).bind fun v15 =>
 (nBuildSlice Tryd.prog 22 1 [(0, v15)]).bind fun nb16 =>
 (aBuild Tryd.prog 108 [(0, (.int .i64 5)), (1, (.int .i64 2)), (2, (nb16.val r14.2.next))]).bind fun v17 =>
 ((aStore Tryd.prog 108 (nb3.val ((H.new nb1.cells nb1.elem).new nb2.cells nb2.elem).next) v17 (r14.2.new nb16.cells nb16.elem)).map fun H' => ((.tuple [] : AV), H')).bind fun r18 =>
 ((((ldAgg (nb3.val ((H.new nb1.cells nb1.elem).new nb2.cells nb2.elem).next) 3 r18.2).bind fun v19 => some (v19 :: [])).map oneOf).map fun v => (v, r18.2)).map .inr)
 else
 ((ptrAdd (nb2.val (H.new nb1.cells nb1.elem).next) 0).bind fun v20 =>
 (ldOne v20 (((H.new nb1.cells nb1.elem).new nb2.cells nb2.elem).new nb3.cells nb3.elem)).bind fun v21 =>
 (aBin Tryd.prog .eql 3 v21 (.int .i64 15)).bind fun v22 =>
 ((gdv v22 true).bind fun g23 => if g23 = true then (ptrAdd (nb1.val H.next) 1) else some (.tuple [])).bind fun v24 =>
 ((gdv v22 true).bind fun g25 => if g25 = true then (ldOne v24 (((H.new nb1.cells nb1.elem).new nb2.cells nb2.elem).new nb3.cells nb3.elem)) else some (.tuple [])).bind fun v26 =>
 ((gdv v22 true).bind fun g27 => if g27 = true then (aBin Tryd.prog .eql 2 v26 (.int .i64 0)) else some (.tuple [])).bind fun v28 =>
 ((asB v22).bind fun b29 => if b29 = true then some v28 else some (.bool false)).bind fun v30 =>
 (asB v30).bind fun b31 => if b31 = true then
 ((aBuild Tryd.prog 29 [(0, (.int .i64 1)), (1, (.int .i64 1))]).bind fun v32 =>
 (nBuildSlice Tryd.prog 22 1 [(0, v32)]).bind fun nb33 =>
 (aBuild Tryd.prog 108 [(0, (.int .i64 5)), (1, (.int .i64 2)), (2, (nb33.val (((H.new nb1.cells nb1.elem).new nb2.cells nb2.elem).new nb3.cells nb3.elem).next))]).bind fun v34 =>
 ((aStore Tryd.prog 108 (nb3.val ((H.new nb1.cells nb1.elem).new nb2.cells nb2.elem).next) v34 ((((H.new nb1.cells nb1.elem).new nb2.cells nb2.elem).new nb3.cells nb3.elem).new nb33.cells nb33.elem)).map fun H' => ((.tuple [] : AV), H')).bind fun r35 =>
 ((((ldAgg (nb3.val ((H.new nb1.cells nb1.elem).new nb2.cells nb2.elem).next) 3 r35.2).bind fun v36 => some (v36 :: [])).map oneOf).map fun v => (v, r35.2)).map .inr)
 else
 ((ptrAdd (nb2.val (H.new nb1.cells nb1.elem).next) 0).bind fun v37 =>
 (ldOne v37 (((H.new nb1.cells nb1.elem).new nb2.cells nb2.elem).new nb3.cells nb3.elem)).bind fun v38 =>
 (aBin Tryd.prog .eql 3 v38 (.int .i64 15)).bind fun v39 =>
 (asB v39).bind fun b40 => if b40 = true then
 ((aBuild Tryd.prog 29 [(0, (.int .i64 1))]).bind fun v41 =>
 (nBuildSlice Tryd.prog 22 1 [(0, v41)]).bind fun nb42 =>
 (aBuild Tryd.prog 108 [(0, (.int .i64 5)), (1, (.int .i64 2)), (2, (nb42.val (((H.new nb1.cells nb1.elem).new nb2.cells nb2.elem).new nb3.cells nb3.elem).next))]).bind fun v43 =>
 ((aStore Tryd.prog 108 (nb3.val ((H.new nb1.cells nb1.elem).new nb2.cells nb2.elem).next) v43 ((((H.new nb1.cells nb1.elem).new nb2.cells nb2.elem).new nb3.cells nb3.elem).new nb42.cells nb42.elem)).map fun H' => ((.tuple [] : AV), H')).bind fun r44 =>
 ((((ldAgg (nb3.val ((H.new nb1.cells nb1.elem).new nb2.cells nb2.elem).next) 3 r44.2).bind fun v45 => some (v45 :: [])).map oneOf).map fun v => (v, r44.2)).map .inr)
 else
 (some (.inl ((updL (T0 [x0, x1]) [(2, (nb1.val H.next)), (3, (nb2.val (H.new nb1.cells nb1.elem).next)), (4, (nb3.val ((H.new nb1.cells nb1.elem).new nb2.cells nb2.elem).next)), (6, v4), (7, v5), (8, v6), (5, v6), (10, v8), (11, v9), (12, v10), (9, v10), (20, v20), (21, v21), (22, v22), (23, v22), (24, v24), (25, v26), (26, v28), (27, v30), (19, v30), (32, v37), (33, v38), (34, v39), (31, v39)]), (((H.new nb1.cells nb1.elem).new nb2.cells nb2.elem).new nb3.cells nb3.elem))))))))
 (F105_J0 call it)
theorem F105_eq (call : CallF) (it : ItF) (x0 : AV) (x1 : AV) (H : AH) : aFun Tryd.prog (drawA Tryd.prog) call it 105 [x0, x1] H = F105 call it x0 x1 H :=
 (aFun_eq Tryd.func105 rfl (by kernel_rfl) _ H (Nat.le_of_ble_eq_true (by kernel_rfl))).trans (by kernel_rfl)

noncomputable def F106 (call : CallF) (it : ItF) (x0 : AV) (x1 : AV) (H : AH) : Option (AV × AH) :=
 (nAlloc Tryd.prog 108).bind fun nb1 =>
 (call 104 [x0, x1, (.int .i64 3)] (H.new nb1.cells nb1.elem)).bind fun r2 =>
 (aBin Tryd.prog .eql 22 r2.1 (.slice none 0 (.kn 0))).bind fun v3 =>
 ((gdv v3 false).bind fun g4 => if g4 = true then (some r2.1) else some (.tuple [])).bind fun v5 =>
 ((gdv v3 false).bind fun g6 => if g6 = true then (idxSl v5 (.int .i64 0) 3) else some (.tuple [])).bind fun v7 =>
 ((gdv v3 false).bind fun g8 => if g8 = true then (ptrAdd v7 0) else some (.tuple [])).bind fun v9 =>
 ((gdv v3 false).bind fun g10 => if g10 = true then (ldOne v9 r2.2) else some (.tuple [])).bind fun v11 =>
 ((gdv v3 false).bind fun g12 => if g12 = true then (aBin Tryd.prog .neq 3 v11 (.int .i64 1)) else some (.tuple [])).bind fun v13 =>
 ((asB v3).bind fun b14 => if b14 = true then some (.bool true) else some v13).bind fun v15 =>
 ((gdv v15 false).bind fun g16 => if g16 = true then (some r2.1) else some (.tuple [])).bind fun v17 =>
 ((gdv v15 false).bind fun g18 => if g18 = true then (idxSl v17 (.int .i64 1) 3) else some (.tuple [])).bind fun v19 =>
 ((gdv v15 false).bind fun g20 => if g20 = true then (ptrAdd v19 0) else some (.tuple [])).bind fun v21 =>
 ((gdv v15 false).bind fun g22 => if g22 = true then (ldOne v21 r2.2) else some (.tuple [])).bind fun v23 =>
 ((gdv v15 false).bind fun g24 => if g24 = true then (aBin Tryd.prog .neq 3 v23 (.int .i64 1)) else some (.tuple [])).bind fun v25 =>
 ((asB v15).bind fun b26 => if b26 = true then some (.bool true) else some v25).bind fun v27 =>
 (asB v27).bind fun b28 => if b28 = true then
 ((aBuild Tryd.prog 108 []).bind fun v29 =>
 ((aStore Tryd.prog 108 (nb1.val H.next) v29 r2.2).map fun H' => ((.tuple [] : AV), H')).bind fun r30 =>
 (((ldAgg (nb1.val H.next) 3 r30.2).bind fun v31 => some (v31 :: [])).map oneOf).map fun v => (v, r30.2))
 else
 ((idxSl r2.1 (.int .i64 2) 3).bind fun v32 =>
 (ptrAdd v32 0).bind fun v33 =>
 (ldOne v33 r2.2).bind fun v34 =>
 (idxSl r2.1 (.int .i64 0) 3).bind fun v35 =>
 (ptrAdd v35 1).bind fun v36 =>
 (ldOne v36 r2.2).bind fun v37 =>
 (idxSl r2.1 (.int .i64 1) 3).bind fun v38 =>
 (ptrAdd v38 1).bind fun v39 =>
 (ldOne v39 r2.2).bind fun v40 =>
 (call 124 [v34, v37, v40] r2.2).bind fun r41 =>
 (aExtract r41.1 0).bind fun v42 =>
 (aExtract r41.1 1).bind fun v43 =>
 (asB v43).bind fun b44 => if b44 = true then
 ((aBuild Tryd.prog 29 [(0, (.int .i64 1)), (1, v42)]).bind fun v45 =>
 (nBuildSlice Tryd.prog 22 1 [(0, v45)]).bind fun nb46 =>
 (aBuild Tryd.prog 108 [(0, (.int .i64 6)), (1, (.int .i64 3)), (2, (nb46.val r41.2.next))]).bind fun v47 =>
 ((aStore Tryd.prog 108 (nb1.val H.next) v47 (r41.2.new nb46.cells nb46.elem)).map fun H' => ((.tuple [] : AV), H')).bind fun r48 =>
 (((ldAgg (nb1.val H.next) 3 r48.2).bind fun v49 => some (v49 :: [])).map oneOf).map fun v => (v, r48.2))
 else
 ((aBuild Tryd.prog 108 []).bind fun v50 =>
 ((aStore Tryd.prog 108 (nb1.val H.next) v50 r41.2).map fun H' => ((.tuple [] : AV), H')).bind fun r51 =>
 (((ldAgg (nb1.val H.next) 3 r51.2).bind fun v52 => some (v52 :: [])).map oneOf).map fun v => (v, r51.2)))
theorem F106_eq (call : CallF) (it : ItF) (x0 : AV) (x1 : AV) (H : AH) : aFun Tryd.prog (drawA Tryd.prog) call it 106 [x0, x1] H = F106 call it x0 x1 H :=
 (aFun_eq Tryd.func106 rfl (by kernel_rfl) _ H (Nat.le_of_ble_eq_true (by kernel_rfl))).trans (by kernel_rfl)

end Go.Proofs.YthiflgncldmkjaaDoor
set_option linter.unusedVariables false
set_option maxRecDepth 100000
namespace Go.Proofs.YthiflgncldmkjaaDoor
open Go.Ri

noncomputable def F107 (call : CallF) (it : ItF) (x0 : AV) (x1 : AV) (H : AH) : Option (AV × AH) :=
 (nBox 29 x0).bind fun nb1 =>
 (nBox 29 x1).bind fun nb2 =>
 (ptrAdd (nb1.val H.next) 0).bind fun v3 =>
 (ldOne v3 ((H.new nb1.cells nb1.elem).new nb2.cells nb2.elem)).bind fun v4 =>
 (aBin Tryd.prog .eql 3 v4 (.int .i64 1)).bind fun v5 =>
 ((gdv v5 false).bind fun g6 => if g6 = true then (ptrAdd (nb1.val H.next) 0) else some (.tuple [])).bind fun v7 =>
 ((gdv v5 false).bind fun g8 => if g8 = true then (ldOne v7 ((H.new nb1.cells nb1.elem).new nb2.cells nb2.elem)) else some (.tuple [])).bind fun v9 =>
 ((gdv v5 false).bind fun g10 => if g10 = true then (aBin Tryd.prog .eql 3 v9 (.int .i64 2)) else some (.tuple [])).bind fun v11 =>
 ((asB v5).bind fun b12 => if b12 = true then some (.bool true) else some v11).bind fun v13 =>
 ((gdv v13 true).bind fun g14 => if g14 = true then (ptrAdd (nb2.val (H.new nb1.cells nb1.elem).next) 0) else some (.tuple [])).bind fun v15 =>
 ((gdv v13 true).bind fun g16 => if g16 = true then (ldOne v15 ((H.new nb1.cells nb1.elem).new nb2.cells nb2.elem)) else some (.tuple [])).bind fun v17 =>
 ((gdv v13 true).bind fun g18 => if g18 = true then (aBin Tryd.prog .eql 3 v17 (.int .i64 25)) else some (.tuple [])).bind fun v19 =>
 ((asB v13).bind fun b20 => if b20 = true then some v19 else some (.bool false)).bind fun v21 =>
 (asB v21).bind fun b22 => if b22 = true then
 (some ((.int .i64 7), ((H.new nb1.cells nb1.elem).new nb2.cells nb2.elem)))
 else
 ((ptrAdd (nb1.val H.next) 0).bind fun v23 =>
 (ldOne v23 ((H.new nb1.cells nb1.elem).new nb2.cells nb2.elem)).bind fun v24 =>
 (aBin Tryd.prog .eql 3 v24 (.int .i64 1)).bind fun v25 =>
 ((gdv v25 true).bind fun g26 => if g26 = true then (ptrAdd (nb1.val H.next) 1) else some (.tuple [])).bind fun v27 =>
 ((gdv v25 true).bind fun g28 => if g28 = true then (ldOne v27 ((H.new nb1.cells nb1.elem).new nb2.cells nb2.elem)) else some (.tuple [])).bind fun v29 =>
 ((gdv v25 true).bind fun g30 => if g30 = true then (aBin Tryd.prog .eql 2 v29 (.int .i64 0)) else some (.tuple [])).bind fun v31 =>
 ((asB v25).bind fun b32 => if b32 = true then some v31 else some (.bool false)).bind fun v33 =>
 ((gdv v33 true).bind fun g34 => if g34 = true then (ptrAdd (nb2.val (H.new nb1.cells nb1.elem).next) 0) else some (.tuple [])).bind fun v35 =>
 ((gdv v33 true).bind fun g36 => if g36 = true then (ldOne v35 ((H.new nb1.cells nb1.elem).new nb2.cells nb2.elem)) else some (.tuple [])).bind fun v37 =>
 ((gdv v33 true).bind fun g38 => if g38 = true then (aBin Tryd.prog .eql 3 v37 (.int .i64 7)) else some (.tuple [])).bind fun v39 =>
 ((gdv v33 true).bind fun g40 => if g40 = true then (some v39) else some (.tuple [])).bind fun v41 =>
 ((gdv v41 false).bind fun g42 => if g42 = true then (ptrAdd (nb2.val (H.new nb1.cells nb1.elem).next) 0) else some (.tuple [])).bind fun v43 =>
 ((gdv v41 false).bind fun g44 => if g44 = true then (ldOne v43 ((H.new nb1.cells nb1.elem).new nb2.cells nb2.elem)) else some (.tuple [])).bind fun v45 =>
 ((gdv v41 false).bind fun g46 => if g46 = true then (aBin Tryd.prog .eql 3 v45 (.int .i64 8)) else some (.tuple [])).bind fun v47 =>
 ((gdv v33 true).bind fun g49 => if g49 = true then ((asB v41).bind fun b48 => if b48 = true then some (.bool true) else some v47) else some (.tuple [])).bind fun v50 =>
 ((asB v33).bind fun b51 => if b51 = true then some v50 else some (.bool false)).bind fun v52 =>
 (asB v52).bind fun b53 => if b53 = true then
 (some ((.int .i64 8), ((H.new nb1.cells nb1.elem).new nb2.cells nb2.elem)))
 else
 ((ptrAdd (nb1.val H.next) 0).bind fun v54 =>
 (ldOne v54 ((H.new nb1.cells nb1.elem).new nb2.cells nb2.elem)).bind fun v55 =>
 (aBin Tryd.prog .eql 3 v55 (.int .i64 1)).bind fun v56 =>
 ((gdv v56 true).bind fun g57 => if g57 = true then (ptrAdd (nb1.val H.next) 1) else some (.tuple [])).bind fun v58 =>
 ((gdv v56 true).bind fun g59 => if g59 = true then (ldOne v58 ((H.new nb1.cells nb1.elem).new nb2.cells nb2.elem)) else some (.tuple [])).bind fun v60 =>
 ((gdv v56 true).bind fun g61 => if g61 = true then (aBin Tryd.prog .eql 2 v60 (.int .i64 1)) else some (.tuple [])).bind fun v62 =>
 ((asB v56).bind fun b63 => if b63 = true then some v62 else some (.bool false)).bind fun v64 =>
 ((gdv v64 true).bind fun g65 => if g65 = true then (ptrAdd (nb2.val (H.new nb1.cells nb1.elem).next) 0) else some (.tuple [])).bind fun v66 =>
 ((gdv v64 true).bind fun g67 => if g67 = true then (ldOne v66 ((H.new nb1.cells nb1.elem).new nb2.cells nb2.elem)) else some (.tuple [])).bind fun v68 =>
 ((gdv v64 true).bind fun g69 => if g69 = true then (aBin Tryd.prog .eql 3 v68 (.int .i64 9)) else some (.tuple [])).bind fun v70 =>
 ((gdv v64 true).bind fun g71 => if g71 = true then (some v70) else some (.tuple [])).bind fun v72 =>
 ((gdv v72 false).bind fun g73 => if g73 = true then (ptrAdd (nb2.val (H.new nb1.cells nb1.elem).next) 0) else some (.tuple [])).bind fun v74 =>
 ((gdv v72 false).bind fun g75 => if g75 = true then (ldOne v74 ((H.new nb1.cells nb1.elem).new nb2.cells nb2.elem)) else some (.tuple [])).bind fun v76 =>
 ((gdv v72 false).bind fun g77 => if g77 = true then (aBin Tryd.prog .eql 3 v76 (.int .i64 10)) else some (.tuple [])).bind fun v78 =>
 ((gdv v64 true).bind fun g80 => if g80 = true then ((asB v72).bind fun b79 => if b79 = true then some (.bool true) else some v78) else some (.tuple [])).bind fun v81 =>
 ((asB v64).bind fun b82 => if b82 = true then some v81 else some (.bool false)).bind fun v83 =>
 (asB v83).bind fun b84 => if b84 = true then
 (some ((.int .i64 8), ((H.new nb1.cells nb1.elem).new nb2.cells nb2.elem)))
 else
 ((ptrAdd (nb1.val H.next) 0).bind fun v85 =>
 (ldOne v85 ((H.new nb1.cells nb1.elem).new nb2.cells nb2.elem)).bind fun v86 =>
 (aBin Tryd.prog .eql 3 v86 (.int .i64 2)).bind fun v87 =>
 ((gdv v87 true).bind fun g88 => if g88 = true then (ptrAdd (nb2.val (H.new nb1.cells nb1.elem).next) 0) else some (.tuple [])).bind fun v89 =>
 ((gdv v87 true).bind fun g90 => if g90 = true then (ldOne v89 ((H.new nb1.cells nb1.elem).new nb2.cells nb2.elem)) else some (.tuple [])).bind fun v91 =>
 ((gdv v87 true).bind fun g92 => if g92 = true then (aBin Tryd.prog .eql 3 v91 (.int .i64 3)) else some (.tuple [])).bind fun v93 =>
 ((asB v87).bind fun b94 => if b94 = true then some v93 else some (.bool false)).bind fun v95 =>
 ((gdv v95 true).bind fun g96 => if g96 = true then (ptrAdd (nb1.val H.next) 1) else some (.tuple [])).bind fun v97 =>
 ((gdv v95 true).bind fun g98 => if g98 = true then (ldOne v97 ((H.new nb1.cells nb1.elem).new nb2.cells nb2.elem)) else some (.tuple [])).bind fun v99 =>
 ((gdv v95 true).bind fun g100 => if g100 = true then (ptrAdd (nb2.val (H.new nb1.cells nb1.elem).next) 1) else some (.tuple [])).bind fun v101 =>
 ((gdv v95 true).bind fun g102 => if g102 = true then (ldOne v101 ((H.new nb1.cells nb1.elem).new nb2.cells nb2.elem)) else some (.tuple [])).bind fun v103 =>
 ((gdv v95 true).bind fun g104 => if g104 = true then (aBin Tryd.prog .eql 2 v99 v103) else some (.tuple [])).bind fun v105 =>
 ((asB v95).bind fun b106 => if b106 = true then some v105 else some (.bool false)).bind fun v107 =>
 (asB v107).bind fun b108 => if b108 = true then
 (some ((.int .i64 9), ((H.new nb1.cells nb1.elem).new nb2.cells nb2.elem)))
 else
 (some ((.int .i64 0), ((H.new nb1.cells nb1.elem).new nb2.cells nb2.elem))))))
theorem F107_eq (call : CallF) (it : ItF) (x0 : AV) (x1 : AV) (H : AH) : aFun Tryd.prog (drawA Tryd.prog) call it 107 [x0, x1] H = F107 call it x0 x1 H :=
 (aFun_eq Tryd.func107 rfl (by kernel_rfl) _ H (Nat.le_of_ble_eq_true (by kernel_rfl))).trans (by kernel_rfl)

noncomputable def F108 (call : CallF) (it : ItF) (x0 : AV) (x1 : AV) (H : AH) : Option (AV × AH) :=
 (nBox 29 x0).bind fun nb1 =>
 (nBox 29 x1).bind fun nb2 =>
 (nAlloc Tryd.prog 108).bind fun nb3 =>
 (ptrAdd (nb1.val H.next) 0).bind fun v4 =>
 (ldOne v4 (((H.new nb1.cells nb1.elem).new nb2.cells nb2.elem).new nb3.cells nb3.elem)).bind fun v5 =>
 (aBin Tryd.prog .eql 3 v5 (.int .i64 1)).bind fun v6 =>
 ((gdv v6 true).bind fun g7 => if g7 = true then (ptrAdd (nb2.val (H.new nb1.cells nb1.elem).next) 0) else some (.tuple [])).bind fun v8 =>
 ((gdv v6 true).bind fun g9 => if g9 = true then (ldOne v8 (((H.new nb1.cells nb1.elem).new nb2.cells nb2.elem).new nb3.cells nb3.elem)) else some (.tuple [])).bind fun v10 =>
 ((gdv v6 true).bind fun g11 => if g11 = true then (aBin Tryd.prog .eql 3 v10 (.int .i64 18)) else some (.tuple [])).bind fun v12 =>
 ((asB v6).bind fun b13 => if b13 = true then some v12 else some (.bool false)).bind fun v14 =>
 ((gdv v14 true).bind fun g15 => if g15 = true then (ptrAdd (nb1.val H.next) 1) else some (.tuple [])).bind fun v16 =>
 ((gdv v14 true).bind fun g17 => if g17 = true then (ldOne v16 (((H.new nb1.cells nb1.elem).new nb2.cells nb2.elem).new nb3.cells nb3.elem)) else some (.tuple [])).bind fun v18 =>
 ((gdv v14 true).bind fun g19 => if g19 = true then (aBin Tryd.prog .eql 2 v18 (.int .i64 0)) else some (.tuple [])).bind fun v20 =>
 ((asB v14).bind fun b21 => if b21 = true then some v20 else some (.bool false)).bind fun v22 =>
 (asB v22).bind fun b23 => if b23 = true then
 ((ptrAdd (nb2.val (H.new nb1.cells nb1.elem).next) 1).bind fun v24 =>
 (ldOne v24 (((H.new nb1.cells nb1.elem).new nb2.cells nb2.elem).new nb3.cells nb3.elem)).bind fun v25 =>
 (aBuild Tryd.prog 29 [(0, (.int .i64 17)), (1, v25)]).bind fun v26 =>
 (nBuildSlice Tryd.prog 22 1 [(0, v26)]).bind fun nb27 =>
 (aBuild Tryd.prog 108 [(0, (.int .i64 10)), (1, (.int .i64 2)), (2, (nb27.val (((H.new nb1.cells nb1.elem).new nb2.cells nb2.elem).new nb3.cells nb3.elem).next))]).bind fun v28 =>
 ((aStore Tryd.prog 108 (nb3.val ((H.new nb1.cells nb1.elem).new nb2.cells nb2.elem).next) v28 ((((H.new nb1.cells nb1.elem).new nb2.cells nb2.elem).new nb3.cells nb3.elem).new nb27.cells nb27.elem)).map fun H' => ((.tuple [] : AV), H')).bind fun r29 =>
 (((ldAgg (nb3.val ((H.new nb1.cells nb1.elem).new nb2.cells nb2.elem).next) 3 r29.2).bind fun v30 => some (v30 :: [])).map oneOf).map fun v => (v, r29.2))
 else
 ((ptrAdd (nb1.val H.next) 0).bind fun v31 =>
 (ldOne v31 (((H.new nb1.cells nb1.elem).new nb2.cells nb2.elem).new nb3.cells nb3.elem)).bind fun v32 =>
 (aBin Tryd.prog .eql 3 v32 (.int .i64 1)).bind fun v33 =>
 ((gdv v33 true).bind fun g34 => if g34 = true then (ptrAdd (nb2.val (H.new nb1.cells nb1.elem).next) 0) else some (.tuple [])).bind fun v35 =>
 ((gdv v33 true).bind fun g36 => if g36 = true then (ldOne v35 (((H.new nb1.cells nb1.elem).new nb2.cells nb2.elem).new nb3.cells nb3.elem)) else some (.tuple [])).bind fun v37 =>
 ((gdv v33 true).bind fun g38 => if g38 = true then (aBin Tryd.prog .eql 3 v37 (.int .i64 18)) else some (.tuple [])).bind fun v39 =>
 ((asB v33).bind fun b40 => if b40 = true then some v39 else some (.bool false)).bind fun v41 =>
 (asB v41).bind fun b42 => if b42 = true then
 ((aBuild Tryd.prog 108 [(0, (.int .i64 10)), (1, (.int .i64 2)), (2, (.slice none 0 (.kn 0)))]).bind fun v43 =>
 ((aStore Tryd.prog 108 (nb3.val ((H.new nb1.cells nb1.elem).new nb2.cells nb2.elem).next) v43 (((H.new nb1.cells nb1.elem).new nb2.cells nb2.elem).new nb3.cells nb3.elem)).map fun H' => ((.tuple [] : AV), H')).bind fun r44 =>
 (((ldAgg (nb3.val ((H.new nb1.cells nb1.elem).new nb2.cells nb2.elem).next) 3 r44.2).bind fun v45 => some (v45 :: [])).map oneOf).map fun v => (v, r44.2))
 else
 ((ptrAdd (nb1.val H.next) 0).bind fun v46 =>
 (ldOne v46 (((H.new nb1.cells nb1.elem).new nb2.cells nb2.elem).new nb3.cells nb3.elem)).bind fun v47 =>
 (aBin Tryd.prog .eql 3 v47 (.int .i64 1)).bind fun v48 =>
 ((gdv v48 true).bind fun g49 => if g49 = true then (ptrAdd (nb1.val H.next) 1) else some (.tuple [])).bind fun v50 =>
 ((gdv v48 true).bind fun g51 => if g51 = true then (ldOne v50 (((H.new nb1.cells nb1.elem).new nb2.cells nb2.elem).new nb3.cells nb3.elem)) else some (.tuple [])).bind fun v52 =>
 ((gdv v48 true).bind fun g53 => if g53 = true then (aBin Tryd.prog .neq 2 v52 (.int .i64 0)) else some (.tuple [])).bind fun v54 =>
 ((asB v48).bind fun b55 => if b55 = true then some v54 else some (.bool false)).bind fun v56 =>
 ((gdv v56 true).bind fun g57 => if g57 = true then (ptrAdd (nb2.val (H.new nb1.cells nb1.elem).next) 0) else some (.tuple [])).bind fun v58 =>
 ((gdv v56 true).bind fun g59 => if g59 = true then (ldOne v58 (((H.new nb1.cells nb1.elem).new nb2.cells nb2.elem).new nb3.cells nb3.elem)) else some (.tuple [])).bind fun v60 =>
 ((gdv v56 true).bind fun g61 => if g61 = true then (aBin Tryd.prog .eql 3 v60 (.int .i64 23)) else some (.tuple [])).bind fun v62 =>
 ((asB v56).bind fun b63 => if b63 = true then some v62 else some (.bool false)).bind fun v64 =>
 (asB v64).bind fun b65 => if b65 = true then
 ((aBuild Tryd.prog 108 [(0, (.int .i64 11)), (1, (.int .i64 2)), (2, (.slice none 0 (.kn 0)))]).bind fun v66 =>
 ((aStore Tryd.prog 108 (nb3.val ((H.new nb1.cells nb1.elem).new nb2.cells nb2.elem).next) v66 (((H.new nb1.cells nb1.elem).new nb2.cells nb2.elem).new nb3.cells nb3.elem)).map fun H' => ((.tuple [] : AV), H')).bind fun r67 =>
 (((ldAgg (nb3.val ((H.new nb1.cells nb1.elem).new nb2.cells nb2.elem).next) 3 r67.2).bind fun v68 => some (v68 :: [])).map oneOf).map fun v => (v, r67.2))
 else
 ((ptrAdd (nb1.val H.next) 0).bind fun v69 =>
 (ldOne v69 (((H.new nb1.cells nb1.elem).new nb2.cells nb2.elem).new nb3.cells nb3.elem)).bind fun v70 =>
 (aBin Tryd.prog .eql 3 v70 (.int .i64 6)).bind fun v71 =>
 ((gdv v71 true).bind fun g72 => if g72 = true then (ptrAdd (nb2.val (H.new nb1.cells nb1.elem).next) 0) else some (.tuple [])).bind fun v73 =>
 ((gdv v71 true).bind fun g74 => if g74 = true then (ldOne v73 (((H.new nb1.cells nb1.elem).new nb2.cells nb2.elem).new nb3.cells nb3.elem)) else some (.tuple [])).bind fun v75 =>
 ((gdv v71 true).bind fun g76 => if g76 = true then (aBin Tryd.prog .eql 3 v75 (.int .i64 6)) else some (.tuple [])).bind fun v77 =>
 ((asB v71).bind fun b78 => if b78 = true then some v77 else some (.bool false)).bind fun v79 =>
 ((gdv v79 true).bind fun g80 => if g80 = true then (ptrAdd (nb2.val (H.new nb1.cells nb1.elem).next) 1) else some (.tuple [])).bind fun v81 =>
 ((gdv v79 true).bind fun g82 => if g82 = true then (ldOne v81 (((H.new nb1.cells nb1.elem).new nb2.cells nb2.elem).new nb3.cells nb3.elem)) else some (.tuple [])).bind fun v83 =>
 ((gdv v79 true).bind fun g84 => if g84 = true then (ptrAdd (nb1.val H.next) 1) else some (.tuple [])).bind fun v85 =>
 ((gdv v79 true).bind fun g86 => if g86 = true then (ldOne v85 (((H.new nb1.cells nb1.elem).new nb2.cells nb2.elem).new nb3.cells nb3.elem)) else some (.tuple [])).bind fun v87 =>
 ((gdv v79 true).bind fun g88 => if g88 = true then (ptrAdd (nb1.val H.next) 2) else some (.tuple [])).bind fun v89 =>
 ((gdv v79 true).bind fun g90 => if g90 = true then (ldOne v89 (((H.new nb1.cells nb1.elem).new nb2.cells nb2.elem).new nb3.cells nb3.elem)) else some (.tuple [])).bind fun v91 =>
 ((gdv v79 true).bind fun g92 => if g92 = true then (aBin Tryd.prog .add 2 v87 v91) else some (.tuple [])).bind fun v93 =>
 ((gdv v79 true).bind fun g94 => if g94 = true then (aBin Tryd.prog .eql 2 v83 v93) else some (.tuple [])).bind fun v95 =>
 ((asB v79).bind fun b96 => if b96 = true then some v95 else some (.bool false)).bind fun v97 =>
 ((gdv v97 true).bind fun g98 => if g98 = true then (ptrAdd (nb1.val H.next) 2) else some (.tuple [])).bind fun v99 =>
 ((gdv v97 true).bind fun g100 => if g100 = true then (ldOne v99 (((H.new nb1.cells nb1.elem).new nb2.cells nb2.elem).new nb3.cells nb3.elem)) else some (.tuple [])).bind fun v101 =>
 ((gdv v97 true).bind fun g102 => if g102 = true then (ptrAdd (nb2.val (H.new nb1.cells nb1.elem).next) 2) else some (.tuple [])).bind fun v103 =>
 ((gdv v97 true).bind fun g104 => if g104 = true then (ldOne v103 (((H.new nb1.cells nb1.elem).new nb2.cells nb2.elem).new nb3.cells nb3.elem)) else some (.tuple [])).bind fun v105 =>
 ((gdv v97 true).bind fun g106 => if g106 = true then (aBin Tryd.prog .add 2 v101 v105) else some (.tuple [])).bind fun v107 =>
 ((gdv v97 true).bind fun g108 => if g108 = true then (aBin Tryd.prog .leq 2 v107 (.int .i64 64)) else some (.tuple [])).bind fun v109 =>
 ((asB v97).bind fun b110 => if b110 = true then some v109 else some (.bool false)).bind fun v111 =>
 (asB v111).bind fun b112 => if b112 = true then
 ((ptrAdd (nb1.val H.next) 1).bind fun v113 =>
 (ldOne v113 (((H.new nb1.cells nb1.elem).new nb2.cells nb2.elem).new nb3.cells nb3.elem)).bind fun v114 =>
 (ptrAdd (nb1.val H.next) 2).bind fun v115 =>
 (ldOne v115 (((H.new nb1.cells nb1.elem).new nb2.cells nb2.elem).new nb3.cells nb3.elem)).bind fun v116 =>
 (ptrAdd (nb2.val (H.new nb1.cells nb1.elem).next) 2).bind fun v117 =>
 (ldOne v117 (((H.new nb1.cells nb1.elem).new nb2.cells nb2.elem).new nb3.cells nb3.elem)).bind fun v118 =>
 (aBin Tryd.prog .add 2 v116 v118).bind fun v119 =>
 (aBuild Tryd.prog 29 [(0, (.int .i64 6)), (1, v114), (2, v119)]).bind fun v120 =>
 (nBuildSlice Tryd.prog 22 1 [(0, v120)]).bind fun nb121 =>
 (aBuild Tryd.prog 108 [(0, (.int .i64 12)), (1, (.int .i64 2)), (2, (nb121.val (((H.new nb1.cells nb1.elem).new nb2.cells nb2.elem).new nb3.cells nb3.elem).next))]).bind fun v122 =>
 ((aStore Tryd.prog 108 (nb3.val ((H.new nb1.cells nb1.elem).new nb2.cells nb2.elem).next) v122 ((((H.new nb1.cells nb1.elem).new nb2.cells nb2.elem).new nb3.cells nb3.elem).new nb121.cells nb121.elem)).map fun H' => ((.tuple [] : AV), H')).bind fun r123 =>
 (((ldAgg (nb3.val ((H.new nb1.cells nb1.elem).new nb2.cells nb2.elem).next) 3 r123.2).bind fun v124 => some (v124 :: [])).map oneOf).map fun v => (v, r123.2))
 else
 ((aBuild Tryd.prog 108 []).bind fun v125 =>
 ((aStore Tryd.prog 108 (nb3.val ((H.new nb1.cells nb1.elem).new nb2.cells nb2.elem).next) v125 (((H.new nb1.cells nb1.elem).new nb2.cells nb2.elem).new nb3.cells nb3.elem)).map fun H' => ((.tuple [] : AV), H')).bind fun r126 =>
 (((ldAgg (nb3.val ((H.new nb1.cells nb1.elem).new nb2.cells nb2.elem).next) 3 r126.2).bind fun v127 => some (v127 :: [])).map oneOf).map fun v => (v, r126.2)))))
theorem F108_eq (call : CallF) (it : ItF) (x0 : AV) (x1 : AV) (H : AH) : aFun Tryd.prog (drawA Tryd.prog) call it 108 [x0, x1] H = F108 call it x0 x1 H :=
 (aFun_eq Tryd.func108 rfl (by kernel_rfl) _ H (Nat.le_of_ble_eq_true (by kernel_rfl))).trans (by kernel_rfl)

noncomputable def F111 (call : CallF) (it : ItF) (x0 : AV) (H : AH) : Option (AV × AH) :=
 (aUn .neg x0).bind fun v1 =>
 some (v1, H)
theorem F111_eq (call : CallF) (it : ItF) (x0 : AV) (H : AH) : aFun Tryd.prog (drawA Tryd.prog) call it 111 [x0] H = F111 call it x0 H :=
 (aFun_eq Tryd.func111 rfl (by kernel_rfl) _ H (Nat.le_of_ble_eq_true (by kernel_rfl))).trans (by kernel_rfl)

noncomputable def F115 (call : CallF) (it : ItF) (x0 : AV) (H : AH) : Option (AV × AH) :=
 (call 131 [(.int .i64 0), x0] H).bind fun r1 =>
 some (r1.1, r1.2)
theorem F115_eq (call : CallF) (it : ItF) (x0 : AV) (H : AH) : aFun Tryd.prog (drawA Tryd.prog) call it 115 [x0] H = F115 call it x0 H :=
 (aFun_eq Tryd.func115 rfl (by kernel_rfl) _ H (Nat.le_of_ble_eq_true (by kernel_rfl))).trans (by kernel_rfl)

noncomputable def F116 (call : CallF) (it : ItF) (x0 : AV) (x1 : AV) (x2 : AV) (H : AH) : Option (AV × AH) :=
 (aBin Tryd.prog .geq 2 x1 (.int .i64 0)).bind fun v1 =>
 ((gdv v1 true).bind fun g2 => if g2 = true then (some x2) else some (.tuple [])).bind fun v3 =>
 ((gdv v1 true).bind fun g4 => if g4 = true then (aBin Tryd.prog .geq 2 v3 (.int .i64 1)) else some (.tuple [])).bind fun v5 =>
 ((asB v1).bind fun b6 => if b6 = true then some v5 else some (.bool false)).bind fun v7 =>
 ((gdv v7 true).bind fun g8 => if g8 = true then (some x1) else some (.tuple [])).bind fun v9 =>
 ((gdv v7 true).bind fun g10 => if g10 = true then (some x0) else some (.tuple [])).bind fun v11 =>
 ((gdv v7 true).bind fun g12 => if g12 = true then (nilC v11) else some (.tuple [])).bind fun v13 =>
 ((gdv v7 true).bind fun g14 => if g14 = true then (ptrAdd v13 1) else some (.tuple [])).bind fun v15 =>
 ((gdv v7 true).bind fun g16 => if g16 = true then (ptrAdd v15 1) else some (.tuple [])).bind fun v17 =>
 ((gdv v7 true).bind fun g18 => if g18 = true then (ldOne v17 H) else some (.tuple [])).bind fun v19 =>
 ((gdv v7 true).bind fun g20 => if g20 = true then (aBin Tryd.prog .leq 2 v9 v19) else some (.tuple [])).bind fun v21 =>
 ((asB v7).bind fun b22 => if b22 = true then some v21 else some (.bool false)).bind fun v23 =>
 ((gdv v23 true).bind fun g24 => if g24 = true then (some x2) else some (.tuple [])).bind fun v25 =>
 ((gdv v23 true).bind fun g26 => if g26 = true then (some x0) else some (.tuple [])).bind fun v27 =>
 ((gdv v23 true).bind fun g28 => if g28 = true then (nilC v27) else some (.tuple [])).bind fun v29 =>
 ((gdv v23 true).bind fun g30 => if g30 = true then (ptrAdd v29 1) else some (.tuple [])).bind fun v31 =>
 ((gdv v23 true).bind fun g32 => if g32 = true then (ptrAdd v31 1) else some (.tuple [])).bind fun v33 =>
 ((gdv v23 true).bind fun g34 => if g34 = true then (ldOne v33 H) else some (.tuple [])).bind fun v35 =>
 ((gdv v23 true).bind fun g36 => if g36 = true then (some x1) else some (.tuple [])).bind fun v37 =>
 ((gdv v23 true).bind fun g38 => if g38 = true then (aBin Tryd.prog .sub 2 v35 v37) else some (.tuple [])).bind fun v39 =>
 ((gdv v23 true).bind fun g40 => if g40 = true then (aBin Tryd.prog .leq 2 v25 v39) else some (.tuple [])).bind fun v41 =>
 ((asB v23).bind fun b42 => if b42 = true then some v41 else some (.bool false)).bind fun v43 =>
 some (v43, H)
theorem F116_eq (call : CallF) (it : ItF) (x0 : AV) (x1 : AV) (x2 : AV) (H : AH) : aFun Tryd.prog (drawA Tryd.prog) call it 116 [x0, x1, x2] H = F116 call it x0 x1 x2 H :=
 (aFun_eq Tryd.func116 rfl (by kernel_rfl) _ H (Nat.le_of_ble_eq_true (by kernel_rfl))).trans (by kernel_rfl)

noncomputable def F117 (call : CallF) (it : ItF) (x0 : AV) (x1 : AV) (H : AH) : Option (AV × AH) :=
 (nBox 29 x1).bind fun nb1 =>
 (ptrAdd (nb1.val H.next) 0).bind fun v2 =>
 (ldOne v2 (H.new nb1.cells nb1.elem)).bind fun v3 =>
 (aBin Tryd.prog .eql 3 v3 (.int .i64 19)).bind fun v4 =>
 (asB v4).bind fun b5 => if b5 = true then
 ((nilC x0).bind fun v6 =>
 (ptrAdd v6 0).bind fun v7 =>
 (ldOne v7 (H.new nb1.cells nb1.elem)).bind fun v8 =>
 (ptrAdd (nb1.val H.next) 1).bind fun v9 =>
 (ldOne v9 (H.new nb1.cells nb1.elem)).bind fun v10 =>
 (idxSl v8 v10 4).bind fun v11 =>
 (ptrAdd v11 3).bind fun v12 =>
 (ldOne v12 (H.new nb1.cells nb1.elem)).bind fun v13 =>
 (asB v13).bind fun b14 => if b14 = true then
 ((ptrAdd (nb1.val H.next) 2).bind fun v15 =>
 (ldOne v15 (H.new nb1.cells nb1.elem)).bind fun v16 =>
 some ((.tuple [v16, (.int .i64 1)]), (H.new nb1.cells nb1.elem)))
 else
 ((ptrAdd (nb1.val H.next) 2).bind fun v17 =>
 (ldOne v17 (H.new nb1.cells nb1.elem)).bind fun v18 =>
 some ((.tuple [v18, (.int .i64 0)]), (H.new nb1.cells nb1.elem))))
 else
 ((aBin Tryd.prog .eql 3 v3 (.int .i64 20)).bind fun v19 =>
 (asB v19).bind fun b20 => if b20 = true then
 ((ptrAdd (nb1.val H.next) 1).bind fun v21 =>
 (ldOne v21 (H.new nb1.cells nb1.elem)).bind fun v22 =>
 some ((.tuple [v22, (.int .i64 0)]), (H.new nb1.cells nb1.elem)))
 else
 ((ptrAdd (nb1.val H.next) 0).bind fun v23 =>
 (ldOne v23 (H.new nb1.cells nb1.elem)).bind fun v24 =>
 (aBin Tryd.prog .lss 3 v24 (.int .i64 26)).bind fun v25 =>
 (asB v25).bind fun b26 => if b26 = true then
 ((ptrAdd (nb1.val H.next) 0).bind fun v27 =>
 (ldOne v27 (H.new nb1.cells nb1.elem)).bind fun v28 =>
 (idxPtr (.ptr (some (1, 0))) v28 26 2).bind fun v29 =>
 (idxPtr v29 (.int .i64 0) 2 1).bind fun v30 =>
 (ldOne v30 (H.new nb1.cells nb1.elem)).bind fun v31 =>
 (ptrAdd (nb1.val H.next) 0).bind fun v32 =>
 (ldOne v32 (H.new nb1.cells nb1.elem)).bind fun v33 =>
 (idxPtr (.ptr (some (1, 0))) v33 26 2).bind fun v34 =>
 (idxPtr v34 (.int .i64 1) 2 1).bind fun v35 =>
 (ldOne v35 (H.new nb1.cells nb1.elem)).bind fun v36 =>
 some ((.tuple [v31, v36]), (H.new nb1.cells nb1.elem)))
 else
 (some ((.tuple [(.int .i64 0), (.int .i64 0)]), (H.new nb1.cells nb1.elem)))))
theorem F117_eq (call : CallF) (it : ItF) (x0 : AV) (x1 : AV) (H : AH) : aFun Tryd.prog (drawA Tryd.prog) call it 117 [x0, x1] H = F117 call it x0 x1 H :=
 (aFun_eq Tryd.func117 rfl (by kernel_rfl) _ H (Nat.le_of_ble_eq_true (by kernel_rfl))).trans (by kernel_rfl)

noncomputable def F118 (call : CallF) (it : ItF) (x0 : AV) (x1 : AV) (H : AH) : Option (AV × AH) :=
 (nBox 29 x0).bind fun nb1 =>
 (ptrAdd (nb1.val H.next) 0).bind fun v2 =>
 (ldOne v2 (H.new nb1.cells nb1.elem)).bind fun v3 =>
 (aBin Tryd.prog .eql 3 v3 (.int .i64 17)).bind fun v4 =>
 (asB v4).bind fun b5 => if b5 = true then
 ((ptrAdd (nb1.val H.next) 1).bind fun v6 =>
 (ldOne v6 (H.new nb1.cells nb1.elem)).bind fun v7 =>
 (nBuildSlice Tryd.prog 40 1 [(0, v7)]).bind fun nb8 =>
 some ((nb8.val (H.new nb1.cells nb1.elem).next), ((H.new nb1.cells nb1.elem).new nb8.cells nb8.elem)))
 else
 ((aBin Tryd.prog .eql 3 v3 (.int .i64 18)).bind fun v9 =>
 (asB v9).bind fun b10 => if b10 = true then
 ((aBin Tryd.prog .add 3 x1 (.int .i64 1)).bind fun v11 =>
 (ptrAdd (nb1.val H.next) 1).bind fun v12 =>
 (ldOne v12 (H.new nb1.cells nb1.elem)).bind fun v13 =>
 (nBuildSlice Tryd.prog 40 2 [(0, v11), (1, v13)]).bind fun nb14 =>
 some ((nb14.val (H.new nb1.cells nb1.elem).next), ((H.new nb1.cells nb1.elem).new nb14.cells nb14.elem)))
 else
 ((aBin Tryd.prog .eql 3 v3 (.int .i64 20)).bind fun v15 =>
 (asB v15).bind fun b16 => if b16 = true then
 (some ((.slice none 0 (.kn 0)), (H.new nb1.cells nb1.elem)))
 else
 ((aBin Tryd.prog .add 3 x1 (.int .i64 1)).bind fun v17 =>
 (nBuildSlice Tryd.prog 40 1 [(0, v17)]).bind fun nb18 =>
 some ((nb18.val (H.new nb1.cells nb1.elem).next), ((H.new nb1.cells nb1.elem).new nb18.cells nb18.elem)))))
theorem F118_eq (call : CallF) (it : ItF) (x0 : AV) (x1 : AV) (H : AH) : aFun Tryd.prog (drawA Tryd.prog) call it 118 [x0, x1] H = F118 call it x0 x1 H :=
 (aFun_eq Tryd.func118 rfl (by kernel_rfl) _ H (Nat.le_of_ble_eq_true (by kernel_rfl))).trans (by kernel_rfl)

noncomputable def F124 (call : CallF) (it : ItF) (x0 : AV) (x1 : AV) (x2 : AV) (H : AH) : Option (AV × AH) :=
 (aBin Tryd.prog .eql 3 x0 (.int .i64 7)).bind fun v1 =>
 (asB v1).bind fun b2 => if b2 = true then
 ((call 125 [x1, x2] H).bind fun r3 =>
 some ((.tuple [r3.1, (.bool true)]), r3.2))
 else
 ((aBin Tryd.prog .eql 3 x0 (.int .i64 8)).bind fun v4 =>
 (asB v4).bind fun b5 => if b5 = true then
 ((call 126 [x1, x2] H).bind fun r6 =>
 some ((.tuple [r6.1, (.bool true)]), r6.2))
 else
 ((aBin Tryd.prog .eql 3 x0 (.int .i64 9)).bind fun v7 =>
 (asB v7).bind fun b8 => if b8 = true then
 ((call 127 [x1, x2] H).bind fun r9 =>
 some ((.tuple [r9.1, (.bool true)]), r9.2))
 else
 ((aBin Tryd.prog .eql 3 x0 (.int .i64 10)).bind fun v10 =>
 (asB v10).bind fun b11 => if b11 = true then
 ((call 128 [x1, x2] H).bind fun r12 =>
 (aExtract r12.1 0).bind fun v13 =>
 (aExtract r12.1 1).bind fun v14 =>
 (aBin Tryd.prog .eql 30 v14 (.int .i64 0)).bind fun v15 =>
 some ((.tuple [v13, v15]), r12.2))
 else
 ((aBin Tryd.prog .eql 3 x0 (.int .i64 11)).bind fun v16 =>
 (asB v16).bind fun b17 => if b17 = true then
 ((call 129 [x1, x2] H).bind fun r18 =>
 (aExtract r18.1 0).bind fun v19 =>
 (aExtract r18.1 1).bind fun v20 =>
 (aBin Tryd.prog .eql 30 v20 (.int .i64 0)).bind fun v21 =>
 some ((.tuple [v19, v21]), r18.2))
 else
 ((aBin Tryd.prog .eql 3 x0 (.int .i64 12)).bind fun v22 =>
 (asB v22).bind fun b23 => if b23 = true then
 ((aBin Tryd.prog .lss 2 x1 x2).bind fun v24 =>
 (callV call (.func 136 []) [v24] H).bind fun r25 =>
 (aExtract r25.1 0).bind fun v26 =>
 (aExtract r25.1 1).bind fun v27 =>
 some ((.tuple [v26, v27]), r25.2))
 else
 ((aBin Tryd.prog .eql 3 x0 (.int .i64 13)).bind fun v28 =>
 (asB v28).bind fun b29 => if b29 = true then
 ((aBin Tryd.prog .leq 2 x1 x2).bind fun v30 =>
 (callV call (.func 136 []) [v30] H).bind fun r31 =>
 (aExtract r31.1 0).bind fun v32 =>
 (aExtract r31.1 1).bind fun v33 =>
 some ((.tuple [v32, v33]), r31.2))
 else
 ((aBin Tryd.prog .eql 3 x0 (.int .i64 14)).bind fun v34 =>
 (asB v34).bind fun b35 => if b35 = true then
 ((aBin Tryd.prog .eql 2 x1 x2).bind fun v36 =>
 (callV call (.func 136 []) [v36] H).bind fun r37 =>
 (aExtract r37.1 0).bind fun v38 =>
 (aExtract r37.1 1).bind fun v39 =>
 some ((.tuple [v38, v39]), r37.2))
 else
 (some ((.tuple [(.int .i64 0), (.bool false)]), H)))))))))
theorem F124_eq (call : CallF) (it : ItF) (x0 : AV) (x1 : AV) (x2 : AV) (H : AH) : aFun Tryd.prog (drawA Tryd.prog) call it 124 [x0, x1, x2] H = F124 call it x0 x1 x2 H :=
 (aFun_eq Tryd.func124 rfl (by kernel_rfl) _ H (Nat.le_of_ble_eq_true (by kernel_rfl))).trans (by kernel_rfl)

noncomputable def F125 (call : CallF) (it : ItF) (x0 : AV) (x1 : AV) (H : AH) : Option (AV × AH) :=
 (aBin Tryd.prog .add 2 x0 x1).bind fun v1 =>
 some (v1, H)
theorem F125_eq (call : CallF) (it : ItF) (x0 : AV) (x1 : AV) (H : AH) : aFun Tryd.prog (drawA Tryd.prog) call it 125 [x0, x1] H = F125 call it x0 x1 H :=
 (aFun_eq Tryd.func125 rfl (by kernel_rfl) _ H (Nat.le_of_ble_eq_true (by kernel_rfl))).trans (by kernel_rfl)

noncomputable def F126 (call : CallF) (it : ItF) (x0 : AV) (x1 : AV) (H : AH) : Option (AV × AH) :=
 (aBin Tryd.prog .sub 2 x0 x1).bind fun v1 =>
 some (v1, H)
theorem F126_eq (call : CallF) (it : ItF) (x0 : AV) (x1 : AV) (H : AH) : aFun Tryd.prog (drawA Tryd.prog) call it 126 [x0, x1] H = F126 call it x0 x1 H :=
 (aFun_eq Tryd.func126 rfl (by kernel_rfl) _ H (Nat.le_of_ble_eq_true (by kernel_rfl))).trans (by kernel_rfl)

noncomputable def F127 (call : CallF) (it : ItF) (x0 : AV) (x1 : AV) (H : AH) : Option (AV × AH) :=
 (aBin Tryd.prog .mul 2 x0 x1).bind fun v1 =>
 some (v1, H)
theorem F127_eq (call : CallF) (it : ItF) (x0 : AV) (x1 : AV) (H : AH) : aFun Tryd.prog (drawA Tryd.prog) call it 127 [x0, x1] H = F127 call it x0 x1 H :=
 (aFun_eq Tryd.func127 rfl (by kernel_rfl) _ H (Nat.le_of_ble_eq_true (by kernel_rfl))).trans (by kernel_rfl)

noncomputable def F128 (call : CallF) (it : ItF) (x0 : AV) (x1 : AV) (H : AH) : Option (AV × AH) :=
 (aBin Tryd.prog .eql 2 x1 (.int .i64 0)).bind fun v1 =>
 (asB v1).bind fun b2 => if b2 = true then
 (some ((.tuple [(.int .i64 0), (.int .i64 11)]), H))
 else
 ((aBin Tryd.prog .quo 2 x0 x1).bind fun v3 =>
 some ((.tuple [v3, (.int .i64 0)]), H))
theorem F128_eq (call : CallF) (it : ItF) (x0 : AV) (x1 : AV) (H : AH) : aFun Tryd.prog (drawA Tryd.prog) call it 128 [x0, x1] H = F128 call it x0 x1 H :=
 (aFun_eq Tryd.func128 rfl (by kernel_rfl) _ H (Nat.le_of_ble_eq_true (by kernel_rfl))).trans (by kernel_rfl)

noncomputable def F129 (call : CallF) (it : ItF) (x0 : AV) (x1 : AV) (H : AH) : Option (AV × AH) :=
 (aBin Tryd.prog .eql 2 x1 (.int .i64 0)).bind fun v1 =>
 (asB v1).bind fun b2 => if b2 = true then
 (some ((.tuple [(.int .i64 0), (.int .i64 11)]), H))
 else
 ((aBin Tryd.prog .rem 2 x0 x1).bind fun v3 =>
 some ((.tuple [v3, (.int .i64 0)]), H))
theorem F129_eq (call : CallF) (it : ItF) (x0 : AV) (x1 : AV) (H : AH) : aFun Tryd.prog (drawA Tryd.prog) call it 129 [x0, x1] H = F129 call it x0 x1 H :=
 (aFun_eq Tryd.func129 rfl (by kernel_rfl) _ H (Nat.le_of_ble_eq_true (by kernel_rfl))).trans (by kernel_rfl)

noncomputable def F131 (call : CallF) (it : ItF) (x0 : AV) (x1 : AV) (H : AH) : Option (AV × AH) :=
 (call 139 [x0] H).bind fun r1 =>
 (call 139 [x1] r1.2).bind fun r2 =>
 (call 140 [r2.1] r2.2).bind fun r3 =>
 (call 138 [r1.1, r3.1, (.int .i64 1)] r3.2).bind fun r4 =>
 (call 137 [r4.1] r4.2).bind fun r5 =>
 some (r5.1, r5.2)
theorem F131_eq (call : CallF) (it : ItF) (x0 : AV) (x1 : AV) (H : AH) : aFun Tryd.prog (drawA Tryd.prog) call it 131 [x0, x1] H = F131 call it x0 x1 H :=
 (aFun_eq Tryd.func131 rfl (by kernel_rfl) _ H (Nat.le_of_ble_eq_true (by kernel_rfl))).trans (by kernel_rfl)

noncomputable def F136 (call : CallF) (it : ItF) (x0 : AV) (H : AH) : Option (AV × AH) :=
 (asB x0).bind fun b1 => if b1 = true then
 (some ((.tuple [(.int .i64 1), (.bool true)]), H))
 else
 (some ((.tuple [(.int .i64 0), (.bool true)]), H))
theorem F136_eq (call : CallF) (it : ItF) (x0 : AV) (H : AH) : aFun Tryd.prog (drawA Tryd.prog) call it 136 [x0] H = F136 call it x0 H :=
 (aFun_eq Tryd.func136 rfl (by kernel_rfl) _ H (Nat.le_of_ble_eq_true (by kernel_rfl))).trans (by kernel_rfl)

end Go.Proofs.YthiflgncldmkjaaDoor
set_option linter.unusedVariables false
set_option maxRecDepth 100000
namespace Go.Proofs.YthiflgncldmkjaaDoor
open Go.Ri

noncomputable def F137 (call : CallF) (it : ItF) (x0 : AV) (H : AH) : Option (AV × AH) :=
 (it (fun s1 =>
 (aBin Tryd.prog .geq 3 (s1.1 4) (.int .i64 0)).bind fun v4 =>
 (asB v4).bind fun b5 => if b5 = true then
 ((aBin Tryd.prog .mul 131 (s1.1 3) (.int .u64 2)).bind fun v6 =>
 (idxSl (s1.1 0) (s1.1 4) 1).bind fun v7 =>
 (ldOne v7 s1.2).bind fun v8 =>
 (cvInt .u64 v8).bind fun v9 =>
 (aBin Tryd.prog .add 131 v6 v9).bind fun v10 =>
 (aBin Tryd.prog .sub 3 (s1.1 4) (.int .i64 1)).bind fun v11 =>
 some (.normal, (updL s1.1 [(5, (s1.1 4)), (6, v4), (9, (s1.1 3)), (10, v6), (11, (s1.1 0)), (12, (s1.1 4)), (13, v7), (14, v8), (15, v9), (16, v10), (3, v10), (7, (s1.1 4)), (8, v11), (4, v11)]), s1.2))
 else
 (some (.exit 0, (updL s1.1 [(5, (s1.1 4)), (6, v4)]), s1.2))) ((updL (T0 [x0]) [(2, (.int .i64 0)), (3, (.int .u64 0)), (4, (.int .i64 63))]), H)).bind fun r2 => match r2.1 with
 | .normal => none
 | .exit j3 => if j3 = 0 then
 ((cvInt .i64 (r2.2.1 3)).bind fun v12 =>
 some (v12, r2.2.2))
 else
 (none)
 | .ret => some ((r2.2.1 2), r2.2.2)
theorem F137_eq (call : CallF) (it : ItF) (x0 : AV) (H : AH) : aFun Tryd.prog (drawA Tryd.prog) call it 137 [x0] H = F137 call it x0 H :=
 (aFun_eq Tryd.func137 rfl (by kernel_rfl) _ H (Nat.le_of_ble_eq_true (by kernel_rfl))).trans (by kernel_rfl)

noncomputable def F138 (call : CallF) (it : ItF) (x0 : AV) (x1 : AV) (x2 : AV) (H : AH) : Option (AV × AH) :=
 (it (fun s1 =>
 (aBin Tryd.prog .lss 3 (s1.1 8) (.int .i64 64)).bind fun v4 =>
 (asB v4).bind fun b5 => if b5 = true then
 ((idxSl (s1.1 0) (s1.1 8) 1).bind fun v6 =>
 (ldOne v6 s1.2).bind fun v7 =>
 (idxSl (s1.1 1) (s1.1 8) 1).bind fun v8 =>
 (ldOne v8 s1.2).bind fun v9 =>
 (aBin Tryd.prog .add 3 v7 v9).bind fun v10 =>
 (aBin Tryd.prog .add 3 v10 (s1.1 2)).bind fun v11 =>
 (aBin Tryd.prog .rem 3 v11 (.int .i64 2)).bind fun v12 =>
 (nBuildSlice Tryd.prog 40 1 [(0, v12)]).bind fun nb13 =>
 (aAppend Tryd.prog 40 40 (s1.1 7) (nb13.val s1.2.next) (s1.2.new nb13.cells nb13.elem)).bind fun r14 =>
 (aBin Tryd.prog .quo 3 v11 (.int .i64 2)).bind fun v15 =>
 (aBin Tryd.prog .add 3 (s1.1 8) (.int .i64 1)).bind fun v16 =>
 some (.normal, (updL s1.1 [(10, (s1.1 8)), (11, v4), (14, (s1.1 0)), (15, (s1.1 8)), (16, v6), (17, v7), (18, (s1.1 1)), (19, (s1.1 8)), (20, v8), (21, v9), (22, v10), (23, (s1.1 2)), (24, v11), (9, v11), (25, (s1.1 7)), (26, v11), (27, v12), (28, (nb13.val s1.2.next)), (29, r14.1), (7, r14.1), (30, v11), (31, v15), (2, v15), (12, (s1.1 8)), (13, v16), (8, v16)]), r14.2))
 else
 (some (.exit 0, (updL s1.1 [(10, (s1.1 8)), (11, v4)]), s1.2))) ((updL (T0 [x0, x1, x2]) [(6, (.slice none 0 (.kn 0))), (7, (.slice none 0 (.kn 0))), (8, (.int .i64 0))]), H)).bind fun r2 => match r2.1 with
 | .normal => none
 | .exit j3 => if j3 = 0 then
 (some ((r2.2.1 7), r2.2.2))
 else
 (none)
 | .ret => some ((r2.2.1 6), r2.2.2)
theorem F138_eq (call : CallF) (it : ItF) (x0 : AV) (x1 : AV) (x2 : AV) (H : AH) : aFun Tryd.prog (drawA Tryd.prog) call it 138 [x0, x1, x2] H = F138 call it x0 x1 x2 H :=
 (aFun_eq Tryd.func138 rfl (by kernel_rfl) _ H (Nat.le_of_ble_eq_true (by kernel_rfl))).trans (by kernel_rfl)

noncomputable def F139 (call : CallF) (it : ItF) (x0 : AV) (H : AH) : Option (AV × AH) :=
 (it (fun s1 =>
 (aBin Tryd.prog .lss 3 (s1.1 4) (.int .i64 64)).bind fun v4 =>
 (asB v4).bind fun b5 => if b5 = true then
 ((cvInt .u64 (s1.1 0)).bind fun v6 =>
 (cvInt .u64 (s1.1 4)).bind fun v7 =>
 (aBin Tryd.prog .shr 131 v6 v7).bind fun v8 =>
 (aBin Tryd.prog .rem 131 v8 (.int .u64 2)).bind fun v9 =>
 (cvInt .i64 v9).bind fun v10 =>
 (nBuildSlice Tryd.prog 40 1 [(0, v10)]).bind fun nb11 =>
 (aAppend Tryd.prog 40 40 (s1.1 3) (nb11.val s1.2.next) (s1.2.new nb11.cells nb11.elem)).bind fun r12 =>
 (aBin Tryd.prog .add 3 (s1.1 4) (.int .i64 1)).bind fun v13 =>
 some (.normal, (updL s1.1 [(5, (s1.1 4)), (6, v4), (9, (s1.1 3)), (10, (s1.1 0)), (11, v6), (12, (s1.1 4)), (13, v7), (14, v8), (15, v9), (16, v10), (17, (nb11.val s1.2.next)), (18, r12.1), (3, r12.1), (7, (s1.1 4)), (8, v13), (4, v13)]), r12.2))
 else
 (some (.exit 0, (updL s1.1 [(5, (s1.1 4)), (6, v4)]), s1.2))) ((updL (T0 [x0]) [(2, (.slice none 0 (.kn 0))), (3, (.slice none 0 (.kn 0))), (4, (.int .i64 0))]), H)).bind fun r2 => match r2.1 with
 | .normal => none
 | .exit j3 => if j3 = 0 then
 (some ((r2.2.1 3), r2.2.2))
 else
 (none)
 | .ret => some ((r2.2.1 2), r2.2.2)
theorem F139_eq (call : CallF) (it : ItF) (x0 : AV) (H : AH) : aFun Tryd.prog (drawA Tryd.prog) call it 139 [x0] H = F139 call it x0 H :=
 (aFun_eq Tryd.func139 rfl (by kernel_rfl) _ H (Nat.le_of_ble_eq_true (by kernel_rfl))).trans (by kernel_rfl)

noncomputable def F140 (call : CallF) (it : ItF) (x0 : AV) (H : AH) : Option (AV × AH) :=
 (it (fun s1 =>
 (aLen Tryd.prog 40 (s1.1 0)).bind fun v4 =>
 (aBin Tryd.prog .lss 3 (s1.1 4) v4).bind fun v5 =>
 (asB v5).bind fun b6 => if b6 = true then
 ((idxSl (s1.1 0) (s1.1 4) 1).bind fun v7 =>
 (ldOne v7 s1.2).bind fun v8 =>
 (aBin Tryd.prog .sub 3 (.int .i64 1) v8).bind fun v9 =>
 (nBuildSlice Tryd.prog 40 1 [(0, v9)]).bind fun nb10 =>
 (aAppend Tryd.prog 40 40 (s1.1 3) (nb10.val s1.2.next) (s1.2.new nb10.cells nb10.elem)).bind fun r11 =>
 (aBin Tryd.prog .add 3 (s1.1 4) (.int .i64 1)).bind fun v12 =>
 some (.normal, (updL s1.1 [(5, (s1.1 4)), (6, (s1.1 0)), (7, v4), (8, v5), (11, (s1.1 3)), (12, (s1.1 0)), (13, (s1.1 4)), (14, v7), (15, v8), (16, v9), (17, (nb10.val s1.2.next)), (18, r11.1), (3, r11.1), (9, (s1.1 4)), (10, v12), (4, v12)]), r11.2))
 else
 (some (.exit 0, (updL s1.1 [(5, (s1.1 4)), (6, (s1.1 0)), (7, v4), (8, v5)]), s1.2))) ((updL (T0 [x0]) [(2, (.slice none 0 (.kn 0))), (3, (.slice none 0 (.kn 0))), (4, (.int .i64 0))]), H)).bind fun r2 => match r2.1 with
 | .normal => none
 | .exit j3 => if j3 = 0 then
 (some ((r2.2.1 3), r2.2.2))
 else
 (none)
 | .ret => some ((r2.2.1 2), r2.2.2)
theorem F140_eq (call : CallF) (it : ItF) (x0 : AV) (H : AH) : aFun Tryd.prog (drawA Tryd.prog) call it 140 [x0] H = F140 call it x0 H :=
 (aFun_eq Tryd.func140 rfl (by kernel_rfl) _ H (Nat.le_of_ble_eq_true (by kernel_rfl))).trans (by kernel_rfl)

end Go.Proofs.YthiflgncldmkjaaDoor

set_option linter.unusedVariables false
set_option maxRecDepth 100000
namespace Go.Proofs.YthiflgncldmkjaaDoor
open Go.Ri
def rows92 : List AV := [.str ⟨#[]⟩, .int .i64 0, .int .i64 0, .int .i64 0, .str ⟨#[112, 117, 115, 104]⟩, .int .i64 1, .int .i64 0, .int .i64 1, .str ⟨#[108, 111, 97, 100]⟩, .int .i64 1, .int .i64 0, .int .i64 1, .str ⟨#[115, 116, 111, 114, 101]⟩, .int .i64 1, .int .i64 1, .int .i64 0, .str ⟨#[105, 110, 100, 101, 120]⟩, .int .i64 2, .int .i64 1, .int .i64 1, .str ⟨#[112, 117, 116]⟩, .int .i64 2, .int .i64 2, .int .i64 0, .str ⟨#[99, 108, 101, 97, 114]⟩, .int .i64 2, .int .i64 0, .int .i64 0, .str ⟨#[97, 100, 100]⟩, .int .i64 0, .int .i64 2, .int .i64 1, .str ⟨#[115, 117, 98]⟩, .int .i64 0, .int .i64 2, .int .i64 1, .str ⟨#[109, 117, 108]⟩, .int .i64 0, .int .i64 2, .int .i64 1, .str ⟨#[100, 105, 118]⟩, .int .i64 0, .int .i64 2, .int .i64 1, .str ⟨#[109, 111, 100]⟩, .int .i64 0, .int .i64 2, .int .i64 1, .str ⟨#[108, 101, 115, 115]⟩, .int .i64 0, .int .i64 2, .int .i64 1, .str ⟨#[109, 111, 115, 116]⟩, .int .i64 0, .int .i64 2, .int .i64 1, .str ⟨#[115, 97, 109, 101]⟩, .int .i64 0, .int .i64 2, .int .i64 1, .str ⟨#[110, 111, 116]⟩, .int .i64 0, .int .i64 1, .int .i64 1, .str ⟨#[110, 101, 103]⟩, .int .i64 0, .int .i64 1, .int .i64 1, .str ⟨#[106, 117, 109, 112]⟩, .int .i64 1, .int .i64 0, .int .i64 0, .str ⟨#[122, 101, 114, 111]⟩, .int .i64 1, .int .i64 1, .int .i64 0, .str ⟨#[99, 97, 108, 108]⟩, .int .i64 2, .int .i64 0, .int .i64 0, .str ⟨#[108, 101, 97, 118, 101]⟩, .int .i64 1, .int .i64 0, .int .i64 0, .str ⟨#[112, 114, 105, 110, 116]⟩, .int .i64 0, .int .i64 1, .int .i64 0, .str ⟨#[114, 101, 97, 100]⟩, .int .i64 0, .int .i64 0, .int .i64 1, .str ⟨#[116, 101, 115, 116]⟩, .int .i64 0, .int .i64 1, .int .i64 0, .str ⟨#[109, 97, 114, 107]⟩, .int .i64 2, .int .i64 0, .int .i64 0, .str ⟨#[100, 114, 111, 112]⟩, .int .i64 0, .int .i64 1, .int .i64 0]
noncomputable def F92t (nb1 nb28 : NB) (call : CallF) (it : ItF) (x0 : AV) (H : AH) : Option (AV × AH) :=
 (aBin Tryd.prog .lss 3 x0 (.int .i64 1)).bind fun v29 =>
 ((gdv v29 false).bind fun g30 => if g30 = true then (some x0) else some (.tuple [])).bind fun v31 =>
 ((gdv v29 false).bind fun g32 => if g32 = true then (some (nb28.val (H.new nb1.cells nb1.elem).next)) else some (.tuple [])).bind fun v33 =>
 ((gdv v29 false).bind fun g34 => if g34 = true then (aLen Tryd.prog 162 v33) else some (.tuple [])).bind fun v35 =>
 ((gdv v29 false).bind fun g36 => if g36 = true then (aBin Tryd.prog .geq 3 v31 v35) else some (.tuple [])).bind fun v37 =>
 ((asB v29).bind fun b38 => if b38 = true then some (.bool true) else some v37).bind fun v39 =>
 (asB v39).bind fun b40 => if b40 = true then
  ((aBuild Tryd.prog 133 []).bind fun v41 =>
  ((aStore Tryd.prog 133 (nb1.val H.next) v41 ((H.new nb1.cells nb1.elem).new nb28.cells nb28.elem)).map fun H' => ((.tuple [] : AV), H')).bind fun r42 =>
  (((ldAgg (nb1.val H.next) 4 r42.2).bind fun v43 => some (v43 :: [])).map oneOf).map fun v => (v, r42.2))
 else
  ((idxSl (nb28.val (H.new nb1.cells nb1.elem).next) x0 4).bind fun v44 =>
  (ldAgg v44 4 ((H.new nb1.cells nb1.elem).new nb28.cells nb28.elem)).bind fun v45 =>
  ((aStore Tryd.prog 133 (nb1.val H.next) v45 ((H.new nb1.cells nb1.elem).new nb28.cells nb28.elem)).map fun H' => ((.tuple [] : AV), H')).bind fun r46 =>
  (((ldAgg (nb1.val H.next) 4 r46.2).bind fun v47 => some (v47 :: [])).map oneOf).map fun v => (v, r46.2))
noncomputable def F92 (call : CallF) (it : ItF) (x0 : AV) (H : AH) : Option (AV × AH) := F92t ⟨[.str ⟨#[]⟩, .int .i64 0, .int .i64 0, .int .i64 0], 133, ptrTo⟩ ⟨rows92, 133, slTo 26 26⟩ call it x0 H
theorem F92_eq (call : CallF) (it : ItF) (x0 : AV) (H : AH) : aFun Tryd.prog (drawA Tryd.prog) call it 92 [x0] H = F92 call it x0 H :=
  (aFun_eq Tryd.func92 rfl (by kernel_rfl) _ H (Nat.le_of_ble_eq_true (by kernel_rfl))).trans (by kernel_rfl)
end Go.Proofs.YthiflgncldmkjaaDoor
set_option linter.unusedVariables false
set_option linter.unusedSimpArgs false
namespace Go.Ri

def Ret {R : Type} (x : Option R) (Q : R → Prop) : Prop := ∃ r, x = some r ∧ Q r
theorem Ret.mk {R : Type} {r : R} {Q : R → Prop} (h : Q r) : Ret (some r) Q := ⟨r, rfl, h⟩
theorem Ret.bind {A R : Type} {x : Option A} {a : A} {f : A → Option R} {Q : R → Prop} (h : x = some a) (k : Ret (f a) Q) : Ret (x.bind f) Q := by
  subst h; exact k
theorem Ret.then {A R : Type} {x : Option A} {f : A → Option R} {Q : R → Prop} {Q' : A → Prop} (h : Ret x Q') (k : ∀ a, Q' a → Ret (f a) Q) : Ret (x.bind f) Q := by
  obtain ⟨a, rfl, h⟩ := h
  exact k a h
theorem Ret.mono {R : Type} {x : Option R} {Q Q' : R → Prop} (h : Ret x Q) (k : ∀ r, Q r → Q' r) : Ret x Q' := by
  obtain ⟨a, rfl, h⟩ := h
  exact ⟨a, rfl, k a h⟩

theorem Ret.iter {g : St → Option (Ex × St)} (I : Nat → St → Prop) (Q : Ex × St → Prop)
    (hs : ∀ j s, I (j + 1) s → Ret (g s) fun r => (r.1 = .normal ∧ I j r.2) ∨ (r.1 ≠ .normal ∧ Q r)) (h0 : ∀ s, ¬ I 0 s) :
    ∀ (f : Nat) (n : Nat) (s : St), f ≤ n → I f s → Ret (iter n g s) Q
  | 0, n, s, _, h => absurd h (h0 s)
  | f + 1, 0, s, hn, h => by omega
  | f + 1, n + 1, s, hn, h => by
    obtain ⟨⟨e, s'⟩, hg, hr⟩ := hs f s h
    simp only [Ri.iter, hg, Option.bind_some]
    rcases hr with ⟨rfl, hI⟩ | ⟨hne, hQ⟩
    · exact Ret.iter I Q hs h0 f n s' (by omega) hI
    · cases e with
      | normal => exact absurd rfl hne
      | exit id => exact .mk hQ
      | ret => exact .mk hQ

theorem jn_inl {R : Type} (s : St) (f : Tm → AH → Option R) : jn (some (.inl s)) f = f s.1 s.2 := (rfl)
theorem jn_inr {R : Type} (r : R) (f : Tm → AH → Option R) : jn (some (.inr r)) f = some r := (rfl)

theorem aBin_int (P : Program) (t : TypeId) (op : BinOp) (k : IntKind) (x y : Int) (h1 : op ≠ .shl) (h2 : op ≠ .shr) : aBin P op t (.int k x) (.int k y) = aBinI op k x y := by
  cases op <;> first
    | exact absurd rfl h1
    | exact absurd rfl h2
    | simp [aBin]
theorem aBin_add (P : Program) (t k x y) : aBin P .add t (.int k x) (.int k y) = some (.int k (k.wrap (x + y))) := by rw [aBin_int _ _ _ _ _ _ (by simp) (by simp)]; rfl
theorem aBin_sub (P : Program) (t k x y) : aBin P .sub t (.int k x) (.int k y) = some (.int k (k.wrap (x - y))) := by rw [aBin_int _ _ _ _ _ _ (by simp) (by simp)]; rfl
theorem aBin_mul (P : Program) (t k x y) : aBin P .mul t (.int k x) (.int k y) = some (.int k (k.wrap (x * y))) := by rw [aBin_int _ _ _ _ _ _ (by simp) (by simp)]; rfl
theorem aBin_lss (P : Program) (t k x y) : aBin P .lss t (.int k x) (.int k y) = some (.bool (decide (x < y))) := by rw [aBin_int _ _ _ _ _ _ (by simp) (by simp)]; rfl
theorem aBin_leq (P : Program) (t k x y) : aBin P .leq t (.int k x) (.int k y) = some (.bool (decide (x ≤ y))) := by rw [aBin_int _ _ _ _ _ _ (by simp) (by simp)]; rfl
theorem aBin_gtr (P : Program) (t k x y) : aBin P .gtr t (.int k x) (.int k y) = some (.bool (decide (x > y))) := by rw [aBin_int _ _ _ _ _ _ (by simp) (by simp)]; rfl
theorem aBin_geq (P : Program) (t k x y) : aBin P .geq t (.int k x) (.int k y) = some (.bool (decide (x ≥ y))) := by rw [aBin_int _ _ _ _ _ _ (by simp) (by simp)]; rfl
theorem aBin_eql (P : Program) (t k x y) : aBin P .eql t (.int k x) (.int k y) = some (.bool (decide (x = y))) := by
  rw [aBin_int _ _ _ _ _ _ (by simp) (by simp)]
  simp only [aBinI]
  congr 2
theorem aBin_neq (P : Program) (t k x y) : aBin P .neq t (.int k x) (.int k y) = some (.bool (!decide (x = y))) := by
  rw [aBin_int _ _ _ _ _ _ (by simp) (by simp)]
  simp only [aBinI]
  congr 2
theorem aBin_rem (P : Program) (t k x y) (h : y ≠ 0) : aBin P .rem t (.int k x) (.int k y) = some (.int k (x.tmod y)) := by rw [aBin_int _ _ _ _ _ _ (by simp) (by simp)]; simp [aBinI, h]
theorem aBin_quo (P : Program) (t k x y) (h : y ≠ 0) : aBin P .quo t (.int k x) (.int k y) = some (.int k (k.wrap (x.tdiv y))) := by rw [aBin_int _ _ _ _ _ _ (by simp) (by simp)]; simp [aBinI, h]
theorem aBin_cat (P : Program) (t) (x y : ByteArray) (h : ((x.size + y.size : Nat) : Int) ≤ 9223372036854775807) : aBin P .add t (.str x) (.str y) = some (.str (x ++ y)) := by
  show aBinS .add x y = _
  unfold aBinS
  rw [if_pos h]
theorem aBin_same (P : Program) (t) (x y : ByteArray) : aBin P .eql t (.str x) (.str y) = some (.bool (x.toList == y.toList)) := (rfl)
theorem cvInt_int (k k' : IntKind) (n : Int) : cvInt k (.int k' n) = some (.int k (k.wrap n)) := (rfl)
theorem asB_bool (b : Bool) : asB (.bool b) = some b := (rfl)
theorem gdv_bool (b w : Bool) : gdv (.bool b) w = some (b == w) := (rfl)

theorem toList_loop (a : ByteArray) : ∀ (n i : Nat) (r : List UInt8), a.size - i = n → ByteArray.toList.loop a i r = r.reverse ++ a.data.toList.drop i
  | 0, i, r, h => by
    rw [ByteArray.toList.loop, if_neg (by omega)]
    rw [List.drop_eq_nil_of_le (by have : a.data.toList.length = a.size := rfl; omega)]
    simp
  | n + 1, i, r, h => by
    rw [ByteArray.toList.loop, if_pos (by omega), toList_loop a n (i + 1) _ (by omega)]
    have hlt : i < a.data.toList.length := by have : a.data.toList.length = a.size := rfl; omega
    rw [List.drop_eq_getElem_cons hlt, List.reverse_cons, List.append_assoc]
    congr 2
    simp only [List.cons_append, List.nil_append, List.cons.injEq, and_true]
    have hs : i < a.data.size := hlt
    simp only [ByteArray.get!]
    rw [getElem!_pos a.data i hs]
    rfl
theorem toList_data (a : ByteArray) : a.toList = a.data.toList := by
  unfold ByteArray.toList
  rw [toList_loop a _ 0 [] rfl]
  simp
theorem toList_inj {a b : ByteArray} (h : a.toList = b.toList) : a = b := by
  rw [toList_data, toList_data] at h
  cases a
  cases b
  congr
  exact Array.toList_inj.1 h
theorem str_append (a b : List Int) : strOfNums a ++ strOfNums b = strOfNums (a ++ b) := by
  apply toList_inj
  rw [toList_data, toList_data, ByteArray.data_append, Array.toList_append]
  simp [strOfNums]
theorem str_nil : (⟨#[]⟩ : ByteArray) = strOfNums [] := (rfl)

def dg : Nat → Nat → List Int → List Int
  | 0, _, acc => acc
  | f + 1, u, acc => if u / 10 = 0 then (48 + u % 10 : Nat) :: acc else dg f (u / 10) ((48 + u % 10 : Nat) :: acc)
def txt (n : Int) : List Int := if n < 0 then 45 :: dg 19 n.natAbs [] else dg 19 n.natAbs []
theorem dg_length : ∀ (f u : Nat) (acc : List Int), (dg f u acc).length ≤ f + acc.length
  | 0, u, acc => by simp [dg]
  | f + 1, u, acc => by
    rw [dg]
    split
    · simp; omega
    · have := dg_length f (u / 10) ((48 + u % 10 : Nat) :: acc)
      simp at this ⊢
      omega
theorem txt_length (n : Int) : (txt n).length ≤ 20 := by
  have := dg_length 19 n.natAbs []
  unfold txt
  split <;> simp at this ⊢ <;> omega
def InI (n : Int) : Prop := -9223372036854775808 ≤ n ∧ n < 9223372036854775808
theorem wrap_id {n : Int} (h : InI n) : IntKind.i64.wrap n = n := by
  unfold InI at h
  simp [IntKind.wrap, IntKind.bits, IntKind.signed]
  omega
theorem wrap_u {n : Int} (h : 0 ≤ n) (h' : n < 18446744073709551616) : IntKind.u64.wrap n = n := by
  simp [IntKind.wrap, IntKind.bits, IntKind.signed]
  omega
theorem wrap_u8 {n : Int} (h : 0 ≤ n) (h' : n < 256) : IntKind.u8.wrap n = n := by
  simp [IntKind.wrap, IntKind.bits, IntKind.signed]
  omega
end Go.Ri
set_option linter.unusedVariables false
set_option linter.unusedSimpArgs false
set_option maxRecDepth 100000
namespace Go.Proofs.YthiflgncldmkjaaDoor
open Go.Ri

theorem alloc130 : nAlloc Tryd.prog 130 = some ⟨List.replicate 20 (.int .u8 0), 130, ptrTo⟩ := by kernel_rfl
theorem info5 : (Tryd.prog.info? 5).isSome = true := by kernel_rfl
theorem cells5 : Tryd.prog.cellsOf 5 = 1 := by kernel_rfl
theorem store5 (b k : Nat) (x : Int) (H : AH) (B : Blk) (hB : H.m b = some B) (hrw : B.rw_ = true) (hk : k < B.cells.length) :
    aStore Tryd.prog 5 (.ptr (some (b, k))) (.int .u8 x) H = some { H with m := setM H.m b (some { B with cells := B.cells.take k ++ [.int .u8 x] ++ B.cells.drop (k + 1) }) } := by
  unfold aStore
  rw [if_pos info5, cells5]
  simp only [AV.cells, Option.bind_some, List.length_cons, List.length_nil, if_true, stV, AH.st, hB, hrw, true_and]
  rw [if_pos (by omega)]

structure Fill (H0 : AH) (b : Nat) (n : Int) (k : Nat) (acc : List Int) (T : Tm) (H : AH) : Prop where
  t0 : T 0 = .int .i64 n
  t3 : T 3 = .ptr (some (b, 0))
  t4 : T 4 = .int .i64 (k : Nat)
  blk : ∃ B, H.m b = some B ∧ B.rw_ = true ∧ B.cells.length = 20 ∧ B.cells.drop k = acc.map (.int .u8)
  len : k + acc.length = 20
  other : ∀ i, i ≠ b → H.m i = H0.m i

theorem wrapk {k : Nat} (h : 0 < k) (h' : k < 100) : IntKind.i64.wrap ((k : Nat) - 1) = ((k - 1 : Nat) : Int) := by
  rw [wrap_id (by unfold InI; omega)]
  omega

theorem text_spec (call : CallF) {n : Int} (hn : InI n) {H : AH} (hw : H.wf) (m : Nat) (hm : 20 ≤ m) :
    Ret (F62 call (iter m) (.int .i64 n) H) fun r => r.1 = .str (strOfNums (txt n)) ∧ H.sub r.2 := by
  have hHn : H.m H.next = none := by
    cases hh : H.m H.next with
    | none => rfl
    | some B => exact absurd (hw _ _ hh) (Nat.lt_irrefl _)
  unfold F62
  simp only [alloc130, Option.bind_some, cvInt, aBin_lss, asB_bool]
  -- the number's size
  have hstart : ∀ (f : Tm → AH → Option (AV × AH)) (Q : AV × AH → Prop), (∀ T, T 0 = .int .i64 n → T 3 = .ptr (some (H.next, 0)) → T 4 = .int .i64 (20 : Nat) → T 5 = .int .u64 (n.natAbs : Nat) → Ret (f T (H.new (List.replicate 20 (.int .u8 0)) 130)) Q) →
      Ret (jn (if decide (n < 0) = true then
        ((aUn .neg (.int .u64 (IntKind.u64.wrap n))).bind fun v5 => some (.inl ((updL (T0 [.int .i64 n]) [(2, (.str ⟨#[]⟩)), (3, ptrTo H.next), (4, (.int .i64 20)), (6, .int .i64 n), (7, .int .u64 (IntKind.u64.wrap n)), (5, .int .u64 (IntKind.u64.wrap n)), (8, .int .i64 n), (9, .bool (decide (n < 0))), (10, .int .u64 (IntKind.u64.wrap n)), (11, v5), (5, v5)]), (H.new (List.replicate 20 (.int .u8 0)) 130))))
        else (some (.inl ((updL (T0 [.int .i64 n]) [(2, (.str ⟨#[]⟩)), (3, ptrTo H.next), (4, (.int .i64 20)), (6, .int .i64 n), (7, .int .u64 (IntKind.u64.wrap n)), (5, .int .u64 (IntKind.u64.wrap n)), (8, .int .i64 n), (9, .bool (decide (n < 0)))]), (H.new (List.replicate 20 (.int .u8 0)) 130))))) f) Q := by
    intro f Q h
    unfold InI at hn
    by_cases hneg : n < 0
    · rw [if_pos (by simp [hneg])]
      simp only [aUn, Option.bind_some, jn_inl]
      refine h _ ?_ ?_ ?_ ?_
      · simp [updL, upd, T0]
      · simp [updL, upd, ptrTo]
      · simp [updL, upd]
      · simp only [updL, List.foldl, upd, if_true]
        congr 1
        simp only [IntKind.wrap, IntKind.bits, IntKind.signed]
        simp
        omega
    · rw [if_neg (by simp [hneg])]
      simp only [jn_inl]
      refine h _ ?_ ?_ ?_ ?_
      · simp [updL, upd, T0]
      · simp [updL, upd, ptrTo]
      · simp [updL, upd]
      · have : (updL (T0 [.int .i64 n]) [(2, (.str ⟨#[]⟩)), (3, ptrTo H.next), (4, (.int .i64 20)), (6, .int .i64 n), (7, .int .u64 (IntKind.u64.wrap n)), (5, .int .u64 (IntKind.u64.wrap n)), (8, .int .i64 n), (9, .bool (decide (n < 0)))]) 5 = .int .u64 (IntKind.u64.wrap n) := by simp [updL, upd]
        rw [this]
        congr 1
        rw [wrap_u (by omega) (by omega)]
        omega
  refine hstart _ _ fun T h0 h3 h4 h5 => ?_
  unfold InI at hn
  refine Ret.then (Q' := fun r => r.1 = .exit 0 ∧ ∃ k, Fill H H.next n k (dg 19 n.natAbs []) r.2.1 r.2.2 ∧ 1 ≤ k) ?_ ?_
  · refine Ret.iter (fun f s => ∃ u acc k, u < 10 ^ f ∧ u < 18446744073709551616 ∧ 1 ≤ f ∧ f < k ∧ Fill H H.next n k acc s.1 s.2 ∧ s.1 5 = .int .u64 (u : Nat) ∧ dg f u acc = dg 19 n.natAbs []) _ ?_ (fun s ⟨u, acc, k, _, _, h, _⟩ => by omega) 19 m _ (by omega) ?_
    · rintro j ⟨T1, H1⟩ ⟨u, acc, k, hu, hu2, hj, hk, hF, hu5, hd⟩
      obtain ⟨B, hB, hrw, hlen, hcells⟩ := hF.blk
      have hfl := hF.len
      have t3 : T1 3 = _ := hF.t3
      have t4 : T1 4 = _ := hF.t4
      have t5 : T1 5 = _ := hu5
      simp only [t3, t4, t5, aBin_sub, Option.bind_some, wrapk (k := k) (by omega) (by omega), aBin_rem _ _ _ _ _ (show (10 : Int) ≠ 0 by decide), aBin_add, aBin_quo _ _ _ _ _ (show (10 : Int) ≠ 0 by decide), aBin_eql, asB_bool, cvInt_int]
      have e1 : ((u : Nat) : Int).tmod 10 = ((u % 10 : Nat) : Int) := by
        rw [Int.tmod_eq_emod_of_nonneg (by omega)]
        omega
      have e2 : ((u : Nat) : Int).tdiv 10 = ((u / 10 : Nat) : Int) := by
        rw [Int.tdiv_eq_ediv_of_nonneg (by omega)]
        omega
      have e3 : IntKind.u8.wrap (IntKind.u64.wrap (48 + ((u % 10 : Nat) : Int))) = ((48 + u % 10 : Nat) : Int) := by
        rw [wrap_u (by omega) (by omega), wrap_u8 (by omega) (by omega)]
        omega
      have e4 : IntKind.u64.wrap ((u / 10 : Nat) : Int) = ((u / 10 : Nat) : Int) := wrap_u (by omega) (by omega)
      have e5 : idxPtr (.ptr (some (H.next, 0))) (.int .i64 ((k - 1 : Nat) : Int)) 20 1 = some (.ptr (some (H.next, k - 1))) := by
        simp only [idxPtr, ptrAdd]
        rw [if_pos (by omega)]
        simp
      simp only [e1, e2, e3, e4, e5, Option.bind_some, store5 H.next (k - 1) _ H1 B hB hrw (by omega), Option.map_some]
      -- what is filled now
      have hF' : ∀ T', T' 0 = .int .i64 n → T' 3 = .ptr (some (H.next, 0)) → T' 4 = .int .i64 ((k - 1 : Nat) : Int) → Fill H H.next n (k - 1) (((48 + u % 10 : Nat) : Int) :: acc) T' { H1 with m := setM H1.m H.next (some { B with cells := B.cells.take (k - 1) ++ [.int .u8 ((48 + u % 10 : Nat) : Int)] ++ B.cells.drop (k - 1 + 1) }) } := by
        intro T' a0 a3 a4
        refine ⟨a0, a3, a4, ⟨_, setM_same _ _ _, hrw, by simp; omega, ?_⟩, by simp; omega, fun i hi => by simp only [setM_other _ _ hi]; exact hF.other i hi⟩
        simp only [show k - 1 + 1 = k by omega]
        rw [List.append_assoc, List.drop_append_of_le_length (by simp; omega), List.drop_eq_nil_of_le (by simp; omega), hcells]
        simp
      by_cases hz : u / 10 = 0
      · rw [if_pos (by simp [hz])]
        refine .mk (.inr ⟨by simp, rfl, k - 1, ?_, by omega⟩)
        have : dg 19 n.natAbs [] = ((48 + u % 10 : Nat) : Int) :: acc := by rw [← hd, dg, if_pos hz]
        rw [this]
        exact hF' _ (by simpa [updL, upd] using hF.t0) (by simpa [updL, upd] using hF.t3) (by simp [updL, upd])
      · rw [if_neg (by simp; omega)]
        refine .mk (.inl ⟨rfl, u / 10, _, k - 1, ?_, by omega, ?_, by omega, hF' _ (by simpa [updL, upd] using hF.t0) (by simpa [updL, upd] using hF.t3) (by simp [updL, upd]), by simp [updL, upd], by rw [← hd, dg, if_neg hz]⟩)
        · rw [Nat.pow_succ] at hu
          omega
        · cases j with
          | zero => simp at hu; omega
          | succ j => omega
    · refine ⟨n.natAbs, [], 20, ?_, by omega, by omega, by omega, ⟨h0, h3, h4, ⟨_, setM_same _ _ _, rfl, by simp, by simp⟩, by simp, fun i hi => by simp [AH.new, setM_other _ _ hi]⟩, h5, rfl⟩
      have : (10 : Nat) ^ 19 = 10000000000000000000 := by decide
      omega
  · rintro ⟨e, T1, H1⟩ ⟨he, k, hF, hk⟩
    simp only at he
    subst he
    simp only [if_true]
    have hfl := hF.len
    have key : ∀ (T2 : Tm) (H2 : AH) (k2 : Nat) (acc : List Int), Fill H H.next n k2 acc T2 H2 → acc = txt n → k2 < 20 →
        Ret ((slArr (T2 3) 20 1 (some (T2 4)) none none).bind fun v27 => (cvBytes v27 H2).bind fun v28 => some (v28, H2)) fun r => r.1 = .str (strOfNums (txt n)) ∧ H.sub r.2 := by
      intro T2 H2 k2 acc hF2 ha hk2
      obtain ⟨B, hB, hrw, hlen, hcells⟩ := hF2.blk
      have hfl2 := hF2.len
      simp only [hF2.t3, hF2.t4, slArr, bnds, bnd]
      rw [if_pos (by omega)]
      simp only [Int.toNat_natCast, Option.map_some, Option.bind_some]
      have hld : cvBytes (cutAt (H.next, 0) 1 k2 20 (some 20)) H2 = some (.str (strOfNums (txt n))) := by
        have hbi : ∀ l : List Int, byteInts (l.map (.int .u8)) = some l := fun l => by
          induction l with
          | nil => rfl
          | cons x l ih => simp [byteInts, ih]
        have hl : H2.ldN (H.next, k2) (20 - k2) = some (acc.map (.int .u8)) := by
          simp only [AH.ldN, hB, Option.bind_some]
          rw [if_pos (by omega), hcells, List.take_of_length_le (by simp; omega)]
        unfold cutAt
        by_cases hz : k2 = 0
        · subst hz
          rw [if_pos rfl]
          simp only [cvBytes]
          rw [show (20 : Nat) = 20 - 0 from rfl, hl]
          simp only [Option.bind_some, hbi, Option.map_some, ha]
        · rw [if_neg hz, if_pos hk2]
          simp only [cvBytes, Nat.zero_add, Nat.mul_one, hl, Option.bind_some, hbi, Option.map_some, ha]
      rw [hld]
      refine .mk ⟨rfl, fun b B' hb => ?_⟩
      have hbn : b ≠ H.next := fun e => by rw [e, hHn] at hb; cases hb
      rw [hF2.other b hbn]
      exact hb
    have t0 : T1 0 = _ := hF.t0
    have t3 : T1 3 = _ := hF.t3
    have t4 : T1 4 = _ := hF.t4
    simp only [t0, aBin_lss, Option.bind_some, asB_bool]
    by_cases hneg : n < 0
    · rw [if_pos (by simp [hneg])]
      have hdl : k + (dg 19 n.natAbs []).length = 20 := hfl
      have hk20 : k ≤ 20 := by omega
      obtain ⟨B, hB, hrw, hlen, hcells⟩ := hF.blk
      have e5 : idxPtr (.ptr (some (H.next, 0))) (.int .i64 ((k - 1 : Nat) : Int)) 20 1 = some (.ptr (some (H.next, k - 1))) := by
        simp only [idxPtr, ptrAdd]
        rw [if_pos (by omega)]
        simp
      simp only [t3, t4, aBin_sub, Option.bind_some, wrapk (k := k) (by omega) (by omega), e5, store5 H.next (k - 1) _ H1 B hB hrw (by omega), Option.map_some, jn_inl]
      refine key _ _ (k - 1) (45 :: dg 19 n.natAbs []) ⟨by simpa [updL, upd] using hF.t0, by simpa [updL, upd] using hF.t3, by simp [updL, upd], ⟨_, setM_same _ _ _, hrw, by simp; omega, ?_⟩, by simp; omega, fun i hi => by simp only [setM_other _ _ hi]; exact hF.other i hi⟩ (by rw [txt, if_pos hneg]) (by omega)
      simp only [show k - 1 + 1 = k by omega]
      rw [List.append_assoc, List.drop_append_of_le_length (by simp; omega), List.drop_eq_nil_of_le (by simp; omega), hcells]
      simp
    · rw [if_neg (by simp [hneg])]
      have hlen0 : 1 ≤ (dg 19 n.natAbs []).length := by
        have : ∀ f u acc, 1 ≤ f → 1 ≤ (dg f u acc).length := by
          intro f
          induction f with
          | zero => intro u acc h; omega
          | succ f ih =>
            intro u acc _
            rw [dg]
            split
            · simp
            · cases f with
              | zero => simp [dg]
              | succ f => exact ih _ _ (by omega)
        exact this 19 _ _ (by omega)
      simp only [jn_inl]
      exact key _ _ k (dg 19 n.natAbs []) ⟨by simpa [updL, upd] using hF.t0, by simpa [updL, upd] using hF.t3, by simpa [updL, upd] using hF.t4, hF.blk, hF.len, hF.other⟩ (by rw [txt, if_neg hneg]) (by omega)
end Go.Proofs.YthiflgncldmkjaaDoor
set_option linter.unusedVariables false
set_option linter.unusedSimpArgs false
namespace Go.Ri

structure Ext (N : Nat) (H0 H : AH) : Prop where
  low : ∀ b, b < N → H.m b = H0.m b
  next : N ≤ H.next
  wf : H.wf
theorem Ext.refl {H : AH} (h : H.wf) : Ext H.next H H := ⟨fun _ _ => rfl, Nat.le_refl _, h⟩
theorem Ext.trans {N M : Nat} {H0 H1 H2 : AH} (h : Ext N H0 H1) (k : Ext M H1 H2) (hM : N ≤ M) : Ext N H0 H2 := ⟨fun b hb => (k.low b (by omega)).trans (h.low b hb), Nat.le_trans hM k.next, k.wf⟩
theorem Ext.sub {H0 H : AH} (h : Ext H0.next H0 H) (hw : H0.wf) : H0.sub H := fun b B hB => (h.low b (hw b B hB)).trans hB
theorem Ext.new {N : Nat} {H0 H : AH} (h : Ext N H0 H) (cells : List AV) (e : TypeId) : Ext N H0 (H.new cells e) := by
  refine ⟨fun b hb => ?_, Nat.le_succ_of_le h.next, fun b B hB => ?_⟩
  · have : b ≠ H.next := by have := h.next; omega
    simp only [AH.new, setM_other _ _ this]
    exact h.low b hb
  · by_cases e : b = H.next
    · subst e; exact Nat.lt_succ_self _
    · simp only [AH.new, setM_other _ _ e] at hB
      exact Nat.lt_succ_of_lt (h.wf b B hB)
theorem Ext.kill {N : Nat} {H0 H : AH} (h : Ext N H0 H) {b : Nat} (hb : N ≤ b) : Ext N H0 (H.kill b) := by
  refine ⟨fun i hi => ?_, h.next, fun i B hB => ?_⟩
  · have : i ≠ b := by omega
    simp only [AH.kill, setM_other _ _ this]
    exact h.low i hi
  · by_cases e : i = b
    · subst e
      simp only [AH.kill, setM_same] at hB
      cases hB
    · simp only [AH.kill, setM_other _ _ e] at hB
      exact h.wf i B hB

def GS (N sz : Nat) (e : TypeId) (H : AH) (s : AV) (cs : List AV) : Prop :=
  (s = .slice none 0 (.kn 0) ∧ cs = []) ∨ ∃ b n, s = .slice (some (b, 0)) n (.op sz) ∧ 0 < n ∧ cs.length = n * sz ∧ H.m b = some ⟨cs, e, true⟩ ∧ N ≤ b
theorem GS.nil (N sz : Nat) (e : TypeId) (H : AH) : GS N sz e H (.slice none 0 (.kn 0)) [] := .inl ⟨rfl, rfl⟩
theorem GS.new {N sz : Nat} {e : TypeId} {H : AH} {s : AV} {cs : List AV} (h : GS N sz e H s cs) (hw : H.wf) (cells : List AV) (e' : TypeId) : GS N sz e (H.new cells e') s cs := by
  rcases h with h | ⟨b, n, h1, h2, h3, h4, h5⟩
  · exact .inl h
  · have : b ≠ H.next := by have := hw b _ h4; omega
    exact .inr ⟨b, n, h1, h2, h3, by simp only [AH.new, setM_other _ _ this]; exact h4, h5⟩

theorem app_gs {P : Program} {st xt e : TypeId} {i : TypeInfo} {z : List AV} (hu : P.underlying st = some (.slice e)) (hi : P.info? e = some i) (hz : zeroL P e = some z) (hzl : z.length = i.size) (hzp : 0 < i.size) (hq : seqT P xt = true)
    {N : Nat} {H0 H : AH} {s x : AV} {cs ds : List AV} {n : Nat} (hs : GS N i.size e H s cs) (he : Ext N H0 H) (hx : aLenOf x = some n) (hd : srcN i.size n x H = some ds) (hdl : ds.length = n * i.size)
    (hlim : (cs.length + ds.length) * (i.bytes + 1) ≤ 140737488355328) :
    Ret (aAppend P st xt s x H) fun r => GS N i.size e r.2 r.1 (cs ++ ds) ∧ Ext N H0 r.2 ∧ H.next ≤ r.2.next ∧ ∀ b, b < H.next → (∀ n c, s ≠ .slice (some (b, 0)) n c) → r.2.m b = H.m b := by
  have hsl : isSl s = true := by
    rcases hs with ⟨rfl, _⟩ | ⟨b, m, rfl, _⟩ <;> rfl
  unfold aAppend
  simp only [hu, hi, hz, Option.bind_some]
  rw [if_pos ⟨hq, by omega, hzl, hsl⟩]
  simp only [hx, hd, Option.bind_some]
  have bound : ∀ m : Nat, m * i.size = cs.length + ds.length → m * i.bytes ≤ 140737488355328 ∧ m ≤ 9223372036854775807 := by
    intro m hm
    have h1 : m ≤ cs.length + ds.length := by rw [← hm]; exact Nat.le_mul_of_pos_right m hzp
    have h2 : m * (i.bytes + 1) ≤ (cs.length + ds.length) * (i.bytes + 1) := Nat.mul_le_mul_right _ h1
    rw [Nat.mul_add] at h2
    omega
  cases n with
  | zero =>
    have : ds = [] := List.eq_nil_of_length_eq_zero (by simpa using hdl)
    subst this
    refine .mk ⟨by simpa using hs, he, Nat.le_refl _, fun _ _ _ => rfl⟩
  | succ n =>
    rcases hs with ⟨rfl, rfl⟩ | ⟨b, m, rfl, hm, hcl, hb, hN⟩
    · simp only [appTo]
      rw [if_neg (by omega)]
      simp only [oldN, Option.bind_some, grow]
      rw [if_pos (bound (0 + (n + 1)) (by simp at hdl ⊢; omega))]
      refine .mk ⟨.inr ⟨H.next, 0 + (n + 1), rfl, by omega, by simp at hdl ⊢; omega, by simp [AH.new, setM_same], he.next⟩, he.new _ _, Nat.le_succ _, fun b hb _ => ?_⟩
      simp only [AH.new]
      rw [setM_other _ _ (by omega)]
    · simp only [appTo, hb, Option.bind_some]
      rw [if_pos ⟨trivial, trivial, trivial⟩]
      have hold : oldN i.size m (some (b, 0)) H = some cs := by
        cases m with
        | zero => omega
        | succ m =>
          simp only [oldN, AH.ldN, hb, Option.bind_some]
          rw [if_pos (by omega)]
          simp only [List.drop_zero]
          rw [List.take_of_length_le (by omega)]
      simp only [hold, Option.bind_some, grow]
      rw [if_pos (bound (m + (n + 1)) (by rw [Nat.add_mul, hcl, hdl]))]
      refine .mk ⟨.inr ⟨H.next, m + (n + 1), rfl, by omega, by rw [List.length_append, hcl, hdl, ← Nat.add_mul], by simp [AH.new, AH.kill, setM_same], he.next⟩, (he.kill hN).new _ _, Nat.le_succ _, fun b' hb' hne => ?_⟩
      have h1 : b' ≠ H.next := by omega
      have h2 : b' ≠ b := fun e => hne m (.op i.size) (by rw [e])
      simp only [AH.new, AH.kill]
      rw [setM_other _ _ h1, setM_other _ _ h2]

theorem app_one {P : Program} {st e : TypeId} {i : TypeInfo} {z : List AV} (hu : P.underlying st = some (.slice e)) (hi : P.info? e = some i) (hz : zeroL P e = some z) (hzl : z.length = i.size) (hzp : i.size = 1) (hq : seqT P st = true)
    {N : Nat} {H0 H : AH} {s v : AV} {cs : List AV} (hs : GS N 1 e H s cs) (he : Ext N H0 H) (hlim : (cs.length + 1) * (i.bytes + 1) ≤ 140737488355328) :
    Ret (aAppend P st st s (slTo 1 1 H.next) (H.new [v] e)) fun r => GS N 1 e r.2 r.1 (cs ++ [v]) ∧ Ext N H0 r.2 ∧ H.next ≤ r.2.next ∧ ∀ b, b < H.next → (∀ n c, s ≠ .slice (some (b, 0)) n c) → r.2.m b = H.m b := by
  have hs' := hs.new he.wf [v] e
  rw [← hzp] at hs'
  refine (app_gs (n := 1) (ds := [v]) hu hi hz hzl (by omega) hq hs' (he.new [v] e) rfl ?_ (by simp [hzp]) (by simpa using hlim)).mono ?_
  · simp only [srcN, slTo, hzp, AH.ldN, AH.new, setM_same, Option.bind_some]
    simp
  · rintro r ⟨h1, h2, h3, h4⟩
    rw [hzp] at h1
    refine ⟨h1, h2, Nat.le_trans (Nat.le_succ _) h3, fun b hb hne => ?_⟩
    rw [h4 b (Nat.lt_succ_of_lt hb) hne]
    simp only [AH.new]
    rw [setM_other _ _ (by omega)]

theorem GS.reads {N sz : Nat} {e : TypeId} {H : AH} {s : AV} {cs : List AV} (h : GS N sz e H s cs) (hc : cs ≠ []) : ∃ b n, N ≤ b ∧ s = .slice (some (b, 0)) n (.op sz) ∧ cs.length = n * sz ∧ H.m b = some ⟨cs, e, true⟩ := by
  rcases h with ⟨_, h⟩ | ⟨b, n, h1, h2, h3, h4, h5⟩
  · exact absurd h hc
  · exact ⟨b, n, h5, h1, h3, h4⟩
end Go.Ri
set_option linter.unusedVariables false
set_option linter.unusedSimpArgs false
set_option maxRecDepth 100000
namespace Go.Proofs.YthiflgncldmkjaaDoor
open Go.Ri

def IL (l : List Nat) : List AV := l.map fun x => .int .i64 (x : Nat)
theorem bs40 (n : Int) : nBuildSlice Tryd.prog 40 1 [(0, .int .i64 n)] = some ⟨[.int .i64 n], 3, slTo 1 1⟩ := by kernel_rfl
theorem under40 : Tryd.prog.underlying 40 = some (.slice 3) := by kernel_rfl
theorem zero3 : zeroL Tryd.prog 3 = some [.int .i64 0] := by kernel_rfl
theorem seq40 : seqT Tryd.prog 40 = true := by kernel_rfl
theorem info3 : ∃ i, Tryd.prog.info? 3 = some i ∧ i.size = 1 ∧ i.bytes = 8 := by
  have h : (Tryd.prog.info? 3).isSome = true := by kernel_rfl
  obtain ⟨i, hi⟩ := Option.isSome_iff_exists.1 h
  have h1 : ((Tryd.prog.info? 3).map (·.size)).getD 0 = 1 := by kernel_rfl
  have h2 : ((Tryd.prog.info? 3).map (·.bytes)).getD 0 = 8 := by kernel_rfl
  rw [hi] at h1 h2
  exact ⟨i, hi, h1, h2⟩

theorem app40 {N : Nat} {H0 H : AH} {s : AV} {l : List Nat} {x : Nat} (hs : GS N 1 3 H s (IL l)) (he : Ext N H0 H) (hlim : l.length < 1000000) :
    Ret (aAppend Tryd.prog 40 40 s (slTo 1 1 H.next) (H.new [.int .i64 (x : Nat)] 3)) fun r => GS N 1 3 r.2 r.1 (IL (l ++ [x])) ∧ Ext N H0 r.2 := by
  obtain ⟨i, hi, h1, h2⟩ := info3
  refine (app_one under40 hi zero3 (by rw [h1]; rfl) h1 seq40 hs he (by rw [h2]; simp [IL]; omega)).mono ?_
  rintro r ⟨g1, g2, _⟩
  exact ⟨by simpa [IL] using g1, g2⟩

def bits (u : Nat) (k : Nat) : List Nat := (List.range k).map fun i => u / 2 ^ i % 2
def ofI (n : Int) : Nat := (n % 18446744073709551616).toNat
theorem wrap_ofI (n : Int) : IntKind.u64.wrap n = (ofI n : Nat) := by
  unfold ofI
  simp [IntKind.wrap, IntKind.bits, IntKind.signed]
  omega
theorem ofI_lt (n : Int) : ofI n < 18446744073709551616 := by unfold ofI; omega

theorem tmod2 (q : Nat) : ((q : Nat) : Int).tmod 2 = ((q % 2 : Nat) : Int) := by
  rw [Int.tmod_eq_emod_of_nonneg (by omega)]
  omega
theorem tdiv2 (q : Nat) : ((q : Nat) : Int).tdiv 2 = ((q / 2 : Nat) : Int) := by
  rw [Int.tdiv_eq_ediv_of_nonneg (by omega)]
  omega
theorem wrapN {q : Nat} (h : q < 1000000) : IntKind.i64.wrap (q : Nat) = (q : Nat) := wrap_id (by unfold InI; omega)
theorem wrap1 {i : Nat} (h : i < 1000000) : IntKind.i64.wrap ((i : Nat) + 1) = ((i + 1 : Nat) : Int) := by rw [wrap_id (by unfold InI; omega)]; omega
theorem bits_spec (call : CallF) (n : Int) {H : AH} (hw : H.wf) (m : Nat) (hm : 65 ≤ m) :
    Ret (F139 call (iter m) (.int .i64 n) H) fun r => GS H.next 1 3 r.2 r.1 (IL (bits (ofI n) 64)) ∧ Ext H.next H r.2 := by
  unfold F139
  refine Ret.then (Q' := fun r => r.1 = .exit 0 ∧ GS H.next 1 3 r.2.2 (r.2.1 3) (IL (bits (ofI n) 64)) ∧ Ext H.next H r.2.2) ?_ ?_
  · refine Ret.iter (fun f s => ∃ i, i ≤ 64 ∧ f = 65 - i ∧ s.1 0 = .int .i64 n ∧ s.1 4 = .int .i64 (i : Nat) ∧ GS H.next 1 3 s.2 (s.1 3) (IL (bits (ofI n) i)) ∧ Ext H.next H s.2) _ ?_ (fun s ⟨i, _, _, _⟩ => by omega) 65 m _ hm ?_
    · rintro j ⟨T1, H1⟩ ⟨i, hi, hf, h0, h4, hg, he⟩
      have t0 : T1 0 = _ := h0
      have t4 : T1 4 = _ := h4
      simp only [t0, t4, aBin_lss, Option.bind_some, asB_bool]
      by_cases hz : i < 64
      · rw [if_pos (by simp; omega)]
        have hsh : aBin Tryd.prog .shr 131 (.int .u64 (IntKind.u64.wrap n)) (.int .u64 (IntKind.u64.wrap (i : Nat))) = some (.int .u64 ((ofI n / 2 ^ i : Nat) : Int)) := by
          show aShift .shr .u64 _ _ = _
          rw [wrap_ofI, wrap_u (by omega) (by omega)]
          unfold aShift
          rw [if_neg (by omega)]
          simp only [IntKind.bits, Int.toNat_natCast, show min i 64 = i by omega]
          congr 2
          rw [Int.fdiv_eq_ediv_of_nonneg _ (Int.pow_nonneg (by omega))]
          norm_cast
        have hrem : ((ofI n / 2 ^ i : Nat) : Int).tmod 2 = ((ofI n / 2 ^ i % 2 : Nat) : Int) := tmod2 _
        have hw64 : IntKind.i64.wrap ((ofI n / 2 ^ i % 2 : Nat) : Int) = ((ofI n / 2 ^ i % 2 : Nat) : Int) := wrapN (by omega)
        have hi1 : IntKind.i64.wrap ((i : Nat) + 1) = ((i + 1 : Nat) : Int) := wrap1 (by omega)
        simp only [cvInt_int, Option.bind_some, hsh, aBin_rem _ _ _ _ _ (show (2 : Int) ≠ 0 by decide), hrem, hw64, bs40, aBin_add, hi1]
        refine Ret.then (app40 (x := ofI n / 2 ^ i % 2) hg he (by simp [bits]; omega)) ?_
        rintro ⟨s2, H2⟩ ⟨g1, g2⟩
        refine .mk (.inl ⟨rfl, i + 1, by omega, by omega, by simpa [updL, upd] using t0, by simp [updL, upd], ?_, g2⟩)
        have : (updL T1 [(5, .int .i64 (i : Nat)), (6, .bool (decide ((i : Int) < 64))), (9, T1 3), (10, .int .i64 n), (11, .int .u64 (IntKind.u64.wrap n)), (12, .int .i64 (i : Nat)), (13, .int .u64 (IntKind.u64.wrap (i : Nat))), (14, .int .u64 ((ofI n / 2 ^ i : Nat) : Int)), (15, .int .u64 ((ofI n / 2 ^ i % 2 : Nat) : Int)), (16, .int .i64 ((ofI n / 2 ^ i % 2 : Nat) : Int)), (17, slTo 1 1 H1.next), (18, s2), (3, s2), (7, .int .i64 (i : Nat)), (8, .int .i64 ((i + 1 : Nat) : Int)), (4, .int .i64 ((i + 1 : Nat) : Int))]) 3 = s2 := by simp [updL, upd]
        simp only [this]
        simpa [bits, List.range_succ] using g1
      · rw [if_neg (by simp; omega)]
        have : i = 64 := by omega
        subst this
        exact .mk (.inr ⟨by simp, rfl, by simpa [updL, upd] using hg, he⟩)
    · exact ⟨0, by omega, rfl, by simp [updL, upd, T0], by simp [updL, upd], by simpa [updL, upd, bits, IL] using GS.nil _ _ _ _, .refl hw⟩
  · rintro ⟨e, T1, H1⟩ ⟨he, hg, hx⟩
    simp only at he
    subst he
    simp only [if_true]
    exact .mk ⟨hg, hx⟩
end Go.Proofs.YthiflgncldmkjaaDoor
set_option linter.unusedVariables false
set_option linter.unusedSimpArgs false
set_option maxRecDepth 100000
namespace Go.Proofs.YthiflgncldmkjaaDoor
open Go.Ri

theorem aLen40 (b n : Nat) (c : Cap) : aLen Tryd.prog 40 (.slice (some (b, 0)) n c) = some (.int .i64 (n : Nat)) := by kernel_rfl
def ArgB (N : Nat) (H : AH) (v : AV) (l : List Nat) : Prop := ∃ b c B, v = .slice (some (b, 0)) 64 c ∧ b < N ∧ H.m b = some B ∧ B.cells = IL l ∧ l.length = 64 ∧ ∀ x ∈ l, x < 2
theorem idxSl_at {b n i : Nat} {c : Cap} (h : i < n) : idxSl (.slice (some (b, 0)) n c) (.int .i64 (i : Nat)) 1 = some (.ptr (some (b, i))) := by
  simp only [idxSl]
  rw [if_pos (by omega)]
  simp
theorem ldOne_at {H H1 : AH} {N b i : Nat} {B : Blk} {l : List Nat} (he : Ext N H H1) (hb : b < N) (hB : H.m b = some B) (hc : B.cells = IL l) (hi : i < l.length) : ldOne (.ptr (some (b, i))) H1 = some (.int .i64 ((l[i] : Nat) : Int)) := by
  simp only [ldOne, AH.ld, he.low b hb, hB, Option.bind_some, hc, IL]
  simp [hi]

def plusL : List Nat → List Nat → Nat → List Nat
  | x :: xs, y :: ys, c => (x + y + c) % 2 :: plusL xs ys ((x + y + c) / 2)
  | _, _, _ => []
def val : List Nat → Nat
  | [] => 0
  | x :: l => x + 2 * val l

theorem plus_spec (call : CallF) {va vb : AV} {a b : List Nat} {c : Nat} {H : AH} (hw : H.wf) (ha : ArgB H.next H va a) (hb : ArgB H.next H vb b) (hc : c ≤ 1) (m : Nat) (hm : 65 ≤ m) :
    Ret (F138 call (iter m) va vb (.int .i64 (c : Nat)) H) fun r => GS H.next 1 3 r.2 r.1 (IL (plusL a b c)) ∧ Ext H.next H r.2 := by
  obtain ⟨ba, ca, Ba, rfl, hba, hBa, hca, hla, h2a⟩ := ha
  obtain ⟨bb, cb, Bb, rfl, hbb, hBb, hcb, hlb, h2b⟩ := hb
  unfold F138
  refine Ret.then (Q' := fun r => r.1 = .exit 0 ∧ GS H.next 1 3 r.2.2 (r.2.1 7) (IL (plusL a b c)) ∧ Ext H.next H r.2.2) ?_ ?_
  · refine Ret.iter (fun f s => ∃ i out ci, i ≤ 64 ∧ f = 65 - i ∧ s.1 0 = .slice (some (ba, 0)) 64 ca ∧ s.1 1 = .slice (some (bb, 0)) 64 cb ∧ s.1 2 = .int .i64 (ci : Nat) ∧ s.1 8 = .int .i64 (i : Nat) ∧ ci ≤ 1 ∧ out.length = i ∧
        GS H.next 1 3 s.2 (s.1 7) (IL out) ∧ Ext H.next H s.2 ∧ out ++ plusL (a.drop i) (b.drop i) ci = plusL a b c) _ ?_ (fun s ⟨i, out, ci, _, _, _⟩ => by omega) 65 m _ hm ?_
    · rintro j ⟨T1, H1⟩ ⟨i, out, ci, hi, hf, h0, h1, h2, h8, hci, hol, hg, he, hpl⟩
      have t0 : T1 0 = _ := h0
      have t1 : T1 1 = _ := h1
      have t2 : T1 2 = _ := h2
      have t8 : T1 8 = _ := h8
      have he' : Ext H.next H H1 := he
      simp only [t0, t1, t2, t8, aBin_lss, Option.bind_some, asB_bool]
      by_cases hz : i < 64
      · rw [if_pos (by simp; omega)]
        have hia : i < a.length := by omega
        have hib : i < b.length := by omega
        have xa := h2a a[i] (List.getElem_mem _)
        have xb := h2b b[i] (List.getElem_mem _)
        have s1 : IntKind.i64.wrap ((a[i] : Nat) + (b[i] : Nat) : Int) = ((a[i] + b[i] : Nat) : Int) := by rw [wrap_id (by unfold InI; omega)]; omega
        have s2 : IntKind.i64.wrap (((a[i] + b[i] : Nat) : Int) + (ci : Nat)) = ((a[i] + b[i] + ci : Nat) : Int) := by rw [wrap_id (by unfold InI; omega)]; omega
        have s3 : IntKind.i64.wrap (((a[i] + b[i] + ci) / 2 : Nat) : Int) = (((a[i] + b[i] + ci) / 2 : Nat) : Int) := wrapN (by omega)
        simp only [idxSl_at hz, ldOne_at he' hba hBa hca hia, ldOne_at he' hbb hBb hcb hib, Option.bind_some, aBin_add, s1, s2, aBin_rem _ _ _ _ _ (show (2 : Int) ≠ 0 by decide), aBin_quo _ _ _ _ _ (show (2 : Int) ≠ 0 by decide), tmod2, tdiv2, s3, bs40, wrap1 (i := i) (by omega)]
        refine Ret.then (app40 (x := (a[i] + b[i] + ci) % 2) hg he (by omega)) ?_
        rintro ⟨sv, H2⟩ ⟨g1, g2⟩
        refine .mk (.inl ⟨rfl, i + 1, out ++ [(a[i] + b[i] + ci) % 2], (a[i] + b[i] + ci) / 2, by omega, by omega, by simpa [updL, upd] using t0, by simpa [updL, upd] using t1, by simp [updL, upd], by simp [updL, upd], by omega, by simp [hol], ?_, g2, ?_⟩)
        · have g1' : GS H.next 1 3 H2 sv _ := g1
          simpa [updL, upd] using g1'
        · rw [← hpl, List.drop_eq_getElem_cons hia, List.drop_eq_getElem_cons hib, plusL]
          simp
      · rw [if_neg (by simp; omega)]
        have : i = 64 := by omega
        subst this
        refine .mk (.inr ⟨by simp, rfl, ?_, he⟩)
        rw [← hpl, List.drop_eq_nil_of_le (by omega)]
        have hg' : GS H.next 1 3 H1 (T1 7) (IL out) := hg
        simpa [updL, upd, plusL] using hg'
    · exact ⟨0, [], c, by omega, rfl, by simp [updL, upd, T0], by simp [updL, upd, T0], by simp [updL, upd, T0], by simp [updL, upd], hc, rfl, by simpa [updL, upd, IL] using GS.nil _ _ _ _, .refl hw, by simp⟩
  · rintro ⟨e, T1, H1⟩ ⟨he, hg, hx⟩
    simp only at he
    subst he
    simp only [if_true]
    exact .mk ⟨hg, hx⟩

theorem other_spec (call : CallF) {va : AV} {a : List Nat} {H : AH} (hw : H.wf) (ha : ArgB H.next H va a) (m : Nat) (hm : 65 ≤ m) :
    Ret (F140 call (iter m) va H) fun r => GS H.next 1 3 r.2 r.1 (IL (a.map (1 - ·))) ∧ Ext H.next H r.2 := by
  obtain ⟨ba, ca, Ba, rfl, hba, hBa, hca, hla, h2a⟩ := ha
  unfold F140
  refine Ret.then (Q' := fun r => r.1 = .exit 0 ∧ GS H.next 1 3 r.2.2 (r.2.1 3) (IL (a.map (1 - ·))) ∧ Ext H.next H r.2.2) ?_ ?_
  · refine Ret.iter (fun f s => ∃ i, i ≤ 64 ∧ f = 65 - i ∧ s.1 0 = .slice (some (ba, 0)) 64 ca ∧ s.1 4 = .int .i64 (i : Nat) ∧ GS H.next 1 3 s.2 (s.1 3) (IL ((a.take i).map (1 - ·))) ∧ Ext H.next H s.2) _ ?_ (fun s ⟨i, _, _, _⟩ => by omega) 65 m _ hm ?_
    · rintro j ⟨T1, H1⟩ ⟨i, hi, hf, h0, h4, hg, he⟩
      have t0 : T1 0 = _ := h0
      have t4 : T1 4 = _ := h4
      have he' : Ext H.next H H1 := he
      simp only [t0, t4, aLen40, aBin_lss, Option.bind_some, asB_bool]
      by_cases hz : i < 64
      · rw [if_pos (by simp; omega)]
        have hia : i < a.length := by omega
        have xa := h2a a[i] (List.getElem_mem _)
        have s1 : IntKind.i64.wrap (1 - (a[i] : Nat) : Int) = ((1 - a[i] : Nat) : Int) := by rw [wrap_id (by unfold InI; omega)]; omega
        simp only [idxSl_at hz, ldOne_at he' hba hBa hca hia, Option.bind_some, aBin_sub, aBin_add, s1, bs40, wrap1 (i := i) (by omega)]
        refine Ret.then (app40 (x := 1 - a[i]) hg he (by simp; omega)) ?_
        rintro ⟨sv, H2⟩ ⟨g1, g2⟩
        refine .mk (.inl ⟨rfl, i + 1, by omega, by omega, by simpa [updL, upd] using t0, by simp [updL, upd], ?_, g2⟩)
        have g1' : GS H.next 1 3 H2 sv _ := g1
        rw [List.take_succ_eq_append_getElem hia, List.map_append]
        simpa [updL, upd] using g1'
      · rw [if_neg (by simp; omega)]
        have : i = 64 := by omega
        subst this
        refine .mk (.inr ⟨by simp, rfl, ?_, he⟩)
        have hg' : GS H.next 1 3 H1 (T1 3) _ := hg
        rw [List.take_of_length_le (by omega)] at hg'
        simpa [updL, upd] using hg'
    · exact ⟨0, by omega, rfl, by simp [updL, upd, T0], by simp [updL, upd], by simpa [updL, upd, IL] using GS.nil _ _ _ _, .refl hw⟩
  · rintro ⟨e, T1, H1⟩ ⟨he, hg, hx⟩
    simp only at he
    subst he
    simp only [if_true]
    exact .mk ⟨hg, hx⟩

theorem val_lt : ∀ (l : List Nat), (∀ x ∈ l, x < 2) → val l < 2 ^ l.length
  | [], _ => by simp [val]
  | x :: l, h => by
    have := val_lt l fun y hy => h y (by simp [hy])
    have hx := h x (by simp)
    simp only [val, List.length_cons, Nat.pow_succ]
    omega
theorem number_spec (call : CallF) {va : AV} {a : List Nat} {H : AH} (hw : H.wf) (ha : ArgB H.next H va a) (m : Nat) (hm : 65 ≤ m) :
    Ret (F137 call (iter m) va H) fun r => r.1 = .int .i64 (IntKind.i64.wrap (val a : Nat)) ∧ r.2 = H := by
  obtain ⟨ba, ca, Ba, rfl, hba, hBa, hca, hla, h2a⟩ := ha
  unfold F137
  refine Ret.then (Q' := fun r => r.1 = .exit 0 ∧ r.2.1 3 = .int .u64 (val a : Nat) ∧ r.2.2 = H) ?_ ?_
  · refine Ret.iter (fun f s => ∃ i, i ≤ 64 ∧ f = i + 1 ∧ s.1 0 = .slice (some (ba, 0)) 64 ca ∧ s.1 4 = .int .i64 ((i : Nat) - 1) ∧ s.1 3 = .int .u64 (val (a.drop i) : Nat) ∧ s.2 = H) _ ?_ (fun s ⟨i, _, _, _⟩ => by omega) 65 m _ hm ?_
    · rintro j ⟨T1, H1⟩ ⟨i, hi, hf, h0, h4, h3, he⟩
      have t0 : T1 0 = _ := h0
      have t3 : T1 3 = _ := h3
      have t4 : T1 4 = _ := h4
      have he' : H1 = H := he
      subst he'
      simp only [t0, t3, t4, aBin_geq, Option.bind_some, asB_bool]
      cases i with
      | zero =>
        rw [if_neg (by simp)]
        exact .mk (.inr ⟨by simp, rfl, by simpa [updL, upd] using t3, rfl⟩)
      | succ i =>
        rw [if_pos (by simp)]
        have hia : i < a.length := by omega
        have xa := h2a a[i] (List.getElem_mem _)
        have hv := val_lt (a.drop (i + 1)) fun x hx => h2a x (List.mem_of_mem_drop hx)
        have hv2 : val (a.drop (i + 1)) < 2 ^ 63 := Nat.lt_of_lt_of_le hv (Nat.pow_le_pow_right (by omega) (by simp; omega))
        have hp : (2 : Nat) ^ 63 = 9223372036854775808 := by decide
        have e1 : (((i + 1 : Nat) : Int) - 1) = (i : Nat) := by omega
        have s1 : IntKind.u64.wrap ((val (a.drop (i + 1)) : Nat) * 2 : Int) = ((val (a.drop (i + 1)) * 2 : Nat) : Int) := by rw [wrap_u (by omega) (by omega)]; omega
        have s2 : IntKind.u64.wrap ((a[i] : Nat) : Int) = (a[i] : Nat) := wrap_u (by omega) (by omega)
        have s3 : IntKind.u64.wrap (((val (a.drop (i + 1)) * 2 : Nat) : Int) + (a[i] : Nat)) = ((val (a.drop i) : Nat) : Int) := by
          rw [wrap_u (by omega) (by omega), List.drop_eq_getElem_cons hia, val]
          omega
        have s4 : IntKind.i64.wrap ((i : Nat) - 1 : Int) = ((i : Nat) : Int) - 1 := wrap_id (by unfold InI; omega)
        simp only [e1, aBin_mul, s1, idxSl_at (show i < 64 by omega), ldOne_at (.refl hw) hba hBa hca hia, Option.bind_some, cvInt_int, s2, aBin_add, s3, aBin_sub, s4]
        exact .mk (.inl ⟨rfl, i, by omega, by omega, by simpa [updL, upd] using t0, by simp [updL, upd], by simp [updL, upd], rfl⟩)
    · refine ⟨64, by omega, rfl, by simp [updL, upd, T0], by simp [updL, upd], ?_, rfl⟩
      rw [List.drop_eq_nil_of_le (by omega)]
      simp [updL, upd, val]
  · rintro ⟨e, T1, H1⟩ ⟨he, h3, hx⟩
    have t3 : T1 3 = _ := h3
    simp only at he hx
    subst he
    subst hx
    simp only [if_true, t3, cvInt_int, Option.bind_some]
    exact .mk ⟨rfl, rfl⟩
end Go.Proofs.YthiflgncldmkjaaDoor
set_option linter.unusedVariables false
set_option linter.unusedSimpArgs false
set_option maxRecDepth 100000
namespace Go.Proofs.YthiflgncldmkjaaDoor
open Go.Ri

noncomputable def S1 : CallF := aFun Tryd.prog (drawA Tryd.prog) noT (iter 70)
theorem S1_ok : CallOk Tryd.prog S1 := aFun_sound (noT_ok _) fun nt => drawA_ok (noT_ok _)

theorem bits_succ (u k : Nat) : bits u (k + 1) = u % 2 :: bits (u / 2) k := by
  unfold bits
  rw [List.range_succ_eq_map]
  simp only [List.map_cons, Nat.pow_zero, Nat.div_one, List.map_map]
  congr 1
  apply List.map_congr_left
  intro i _
  simp only [Function.comp, Nat.pow_succ]
  rw [Nat.mul_comm, ← Nat.div_div_eq_div_mul]
theorem join2 (M q r : Nat) (hM : 0 < M) (hr : r < 2) : r + 2 * (q % M) = (r + 2 * q) % (M * 2) := by
  have h1 := Nat.div_add_mod q M
  have h2 := Nat.mod_lt q hM
  have h3 : r + 2 * q = (r + 2 * (q % M)) + (M * 2) * (q / M) := by
    have h4 : M * 2 * (q / M) = 2 * (M * (q / M)) := by rw [Nat.mul_comm M 2, Nat.mul_assoc]
    rw [h4]
    generalize M * (q / M) = d at *
    omega
  rw [h3, Nat.add_mul_mod_self_left]
  exact (Nat.mod_eq_of_lt (by omega)).symm
theorem val_bits : ∀ (k u : Nat), val (bits u k) = u % 2 ^ k
  | 0, u => by simp [bits, val, Nat.mod_one]
  | k + 1, u => by
    rw [bits_succ, val, val_bits k, Nat.pow_succ, join2 _ _ _ (Nat.pow_pos (by omega)) (Nat.mod_lt _ (by omega))]
    congr 1
    omega
theorem bits_two (u k : Nat) : ∀ x ∈ bits u k, x < 2 := by
  intro x hx
  simp only [bits, List.mem_map] at hx
  obtain ⟨i, _, rfl⟩ := hx
  omega
theorem bits_length (u k : Nat) : (bits u k).length = k := by simp [bits]
theorem plusL_length : ∀ (a b : List Nat) (c : Nat), a.length = b.length → (plusL a b c).length = a.length
  | [], [], c, _ => rfl
  | x :: xs, y :: ys, c, h => by simp only [plusL, List.length_cons]; rw [plusL_length xs ys _ (by simpa using h)]
theorem plusL_two : ∀ (a b : List Nat) (c : Nat), ∀ x ∈ plusL a b c, x < 2
  | [], _, c, x, h => by simp [plusL] at h
  | _ :: _, [], c, x, h => by simp [plusL] at h
  | a :: xs, b :: ys, c, x, h => by
    simp only [plusL, List.mem_cons] at h
    rcases h with rfl | h
    · omega
    · exact plusL_two xs ys _ x h
theorem val_plus : ∀ (a b : List Nat) (c : Nat), a.length = b.length → val (plusL a b c) = (val a + val b + c) % 2 ^ a.length
  | [], [], c, _ => by simp [plusL, val, Nat.mod_one]
  | x :: xs, y :: ys, c, h => by
    rw [plusL, val, val_plus xs ys _ (by simpa using h), List.length_cons, Nat.pow_succ, join2 _ _ _ (Nat.pow_pos (by omega)) (Nat.mod_lt _ (by omega))]
    congr 1
    simp only [val]
    omega
theorem val_other : ∀ (a : List Nat), (∀ x ∈ a, x < 2) → val (a.map (1 - ·)) + val a + 1 = 2 ^ a.length
  | [], _ => rfl
  | x :: xs, h => by
    have ih := val_other xs fun y hy => h y (by simp [hy])
    have hx := h x (by simp)
    simp only [List.map_cons, val, List.length_cons, Nat.pow_succ]
    omega

theorem ArgB.of {N : Nat} {H : AH} {s : AV} {l : List Nat} (h : GS N 1 3 H s (IL l)) (hw : H.wf) (hl : l.length = 64) (h2 : ∀ x ∈ l, x < 2) : ArgB H.next H s l := by
  obtain ⟨b, n, hb, rfl, hn, hm⟩ := h.reads (by intro e; have := congrArg List.length e; simp [IL, hl] at this)
  have : n = 64 := by simp [IL, hl] at hn; omega
  subst this
  exact ⟨b, _, _, rfl, hw _ _ hm, hm, rfl, hl, h2⟩
theorem ArgB.ext {H H1 : AH} {s : AV} {l : List Nat} (h : ArgB H.next H s l) (he : Ext H.next H H1) : ArgB H1.next H1 s l := by
  obtain ⟨b, c, B, h1, h2, h3, h4, h5, h6⟩ := h
  exact ⟨b, c, B, h1, Nat.lt_of_lt_of_le h2 he.next, by rw [he.low b h2]; exact h3, h4, h5, h6⟩

theorem wrap_i (n : Int) : IntKind.i64.wrap n = (n + 9223372036854775808) % 18446744073709551616 - 9223372036854775808 := by
  simp [IntKind.wrap, IntKind.bits, IntKind.signed]
  omega
theorem sub_val (a b : Int) : IntKind.i64.wrap (val (plusL (bits (ofI a) 64) ((bits (ofI b) 64).map (1 - ·)) 1) : Nat) = IntKind.i64.wrap (a - b) := by
  rw [val_plus _ _ _ (by simp [bits_length]), bits_length]
  have ho := val_other (bits (ofI b) 64) (bits_two _ _)
  rw [bits_length, val_bits] at ho
  rw [val_bits]
  have ha := ofI_lt a
  have hb := ofI_lt b
  have hp : (2 : Nat) ^ 64 = 18446744073709551616 := by decide
  rw [hp] at ho ⊢
  generalize val ((bits (ofI b) 64).map (1 - ·)) = z at ho ⊢
  rw [wrap_i, wrap_i]
  have h1 : ((ofI a : Nat) : Int) = a % 18446744073709551616 := by unfold ofI; omega
  have h2 : ((ofI b : Nat) : Int) = b % 18446744073709551616 := by unfold ofI; omega
  generalize ofI a = p at *
  generalize ofI b = q at *
  omega
theorem sub_spec (a b : Int) {H : AH} (hw : H.wf) (m : Nat) :
    Ret (F131 S1 (iter m) (.int .i64 a) (.int .i64 b) H) fun r => r.1 = .int .i64 (IntKind.i64.wrap (a - b)) ∧ H.sub r.2 := by
  unfold F131
  have e139 : ∀ n H, S1 139 [.int .i64 n] H = F139 noT (iter 70) (.int .i64 n) H := fun n H => F139_eq noT (iter 70) _ H
  have e140 : ∀ v H, S1 140 [v] H = F140 noT (iter 70) v H := fun n H => F140_eq noT (iter 70) _ H
  have e138 : ∀ v u w H, S1 138 [v, u, w] H = F138 noT (iter 70) v u w H := fun v u w H => F138_eq noT (iter 70) _ _ _ H
  have e137 : ∀ v H, S1 137 [v] H = F137 noT (iter 70) v H := fun n H => F137_eq noT (iter 70) _ H
  simp only [e139, e140, e138, e137]
  refine Ret.then (bits_spec noT a hw 70 (by omega)) ?_
  rintro ⟨v1, H1⟩ ⟨g1, x1⟩
  refine Ret.then (bits_spec noT b x1.wf 70 (by omega)) ?_
  rintro ⟨v2, H2⟩ ⟨g2, x2⟩
  have A1 : ArgB H1.next H1 v1 _ := .of g1 x1.wf (bits_length _ _) (bits_two _ _)
  have A2 : ArgB H2.next H2 v2 _ := .of g2 x2.wf (bits_length _ _) (bits_two _ _)
  refine Ret.then (other_spec noT x2.wf A2 70 (by omega)) ?_
  rintro ⟨v3, H3⟩ ⟨g3, x3⟩
  have h3 : ∀ x ∈ (bits (ofI b) 64).map (1 - ·), x < 2 := by
    intro x hx
    simp only [List.mem_map] at hx
    obtain ⟨y, _, rfl⟩ := hx
    omega
  have A3 : ArgB H3.next H3 v3 _ := .of g3 x3.wf (by simp [bits_length]) h3
  refine Ret.then (plus_spec noT (c := 1) x3.wf ((A1.ext x2).ext x3) A3 (by omega) 70 (by omega)) ?_
  rintro ⟨v4, H4⟩ ⟨g4, x4⟩
  have A4 : ArgB H4.next H4 v4 _ := .of g4 x4.wf (by rw [plusL_length _ _ _ (by simp [bits_length]), bits_length]) (plusL_two _ _ _)
  refine Ret.then (number_spec noT x4.wf A4 70 (by omega)) ?_
  rintro ⟨v5, H5⟩ ⟨rfl, rfl⟩
  refine .mk ⟨?_, ?_⟩
  · exact congrArg (AV.int .i64) (sub_val a b)
  · exact ((((x1.trans x2 x1.next).trans x3 (Nat.le_trans x1.next x2.next)).trans x4 (Nat.le_trans (Nat.le_trans x1.next x2.next) x3.next)).sub hw)
end Go.Proofs.YthiflgncldmkjaaDoor
set_option linter.unusedVariables false
set_option linter.unusedSimpArgs false
set_option maxRecDepth 100000
namespace Go.Proofs.YthiflgncldmkjaaDoor
open Go.Ri

theorem Ret.run {P : Program} {S : CallF} {n : Nat} {f : FuncId} {vs : List AV} {H : AH} {v : AV} (h : Ret (aFun P (drawA P) S (iter n) f vs H) fun r => r.1 = v ∧ H.sub r.2) : ∃ n H1, aFun P (drawA P) S (iter n) f vs H = some (v, H1) ∧ H.sub H1 := by
  obtain ⟨⟨v', H1⟩, h1, rfl, h2⟩ := h
  exact ⟨n, H1, h1, h2⟩

noncomputable def g131 (vs : List AV) (H : AH) : Option (AV × AH) := match vs with
  | [.int .i64 a, .int .i64 b] => some (.int .i64 (IntKind.i64.wrap (a - b)), H)
  | _ => none
theorem ok131 : Ok1 Tryd.prog 131 g131 := by
  refine ok1_flat S1_ok ⟨_, Tryd.func131, by kernel_rfl, by kernel_rfl⟩ fun vs H v H' hg => ?_
  unfold g131 at hg
  split at hg
  · cases hg
    refine ⟨rfl, rfl, fun hw => Ret.run (n := 0) ?_⟩
    rw [F131_eq]
    exact sub_spec _ _ hw 0
  · cases hg
noncomputable def g115 (vs : List AV) (H : AH) : Option (AV × AH) := match vs with
  | [.int .i64 a] => some (.int .i64 (IntKind.i64.wrap (0 - a)), H)
  | _ => none
theorem ok115 : Ok1 Tryd.prog 115 g115 := by
  refine ok1_flat (addT_ok (noT_ok _) ok131) ⟨_, Tryd.func115, by kernel_rfl, by kernel_rfl⟩ fun vs H v H' hg => ?_
  unfold g115 at hg
  split at hg
  · cases hg
    refine ⟨rfl, rfl, fun hw => Ret.run (n := 0) ?_⟩
    rw [F115_eq]
    exact .mk ⟨rfl, fun _ _ h => h⟩
  · cases hg
noncomputable def g93 (vs : List AV) (H : AH) : Option (AV × AH) := match vs with
  | [.int .i64 a] => chk (InI a) (some (.int .u64 (a.natAbs : Nat), H))
  | _ => none
theorem ok93 : Ok1 Tryd.prog 93 g93 := by
  refine ok1_flat (addT_ok (noT_ok _) ok115) ⟨_, Tryd.func93, by kernel_rfl, by kernel_rfl⟩ fun vs H v H' hg => ?_
  unfold g93 at hg
  split at hg
  · rename_i a
    obtain ⟨ha, hg⟩ := chk_some hg
    cases hg
    refine ⟨rfl, rfl, fun hw => Ret.run (n := 0) ?_⟩
    rw [F93_eq]
    unfold F93
    simp only [aBin_lss, Option.bind_some, asB_bool]
    by_cases hneg : a < 0
    · rw [if_pos (by simp [hneg])]
      have : addT noT 115 g115 115 [.int .i64 a] H = some (.int .i64 (IntKind.i64.wrap (0 - a)), H) := rfl
      simp only [this, Option.bind_some, cvInt_int]
      refine .mk ⟨?_, fun _ _ h => h⟩
      simp only
      congr 1
      rw [wrap_i]
      unfold InI at ha
      simp only [IntKind.wrap, IntKind.bits, IntKind.signed]
      simp
      omega
    · rw [if_neg (by simp [hneg])]
      simp only [cvInt_int, Option.bind_some]
      refine .mk ⟨?_, fun _ _ h => h⟩
      simp only
      congr 1
      unfold InI at ha
      rw [wrap_u (by omega) (by omega)]
      omega
  · cases hg

noncomputable def gText (vs : List AV) (H : AH) : Option (AV × AH) := match vs with
  | [.int .i64 a] => chk (InI a) (some (.str (strOfNums (txt a)), H))
  | _ => none
theorem ok62 : Ok1 Tryd.prog 62 gText := by
  refine ok1_flat (noT_ok _) ⟨_, Tryd.func62, by kernel_rfl, by kernel_rfl⟩ fun vs H v H' hg => ?_
  unfold gText at hg
  split at hg
  · rename_i a
    obtain ⟨ha, hg⟩ := chk_some hg
    cases hg
    refine ⟨rfl, rfl, fun hw => Ret.run (n := 20) ?_⟩
    rw [F62_eq]
    exact text_spec _ ha hw 20 (by omega)
  · cases hg

theorem bs87 (n : Int) : nBuildSlice Tryd.prog 87 1 [(0, .int .u8 n)] = some ⟨[.int .u8 n], 5, slTo 1 1⟩ := by kernel_rfl
theorem one_str (x : Int) (H : AH) : cvBytes (slTo 1 1 H.next) (H.new [.int .u8 x] 5) = some (.str (strOfNums [x])) := by
  simp [cvBytes, slTo, AH.ldN, AH.new, setM_same, byteInts]
theorem str_toList (l : List Int) : (strOfNums l).toList = l.map fun n => UInt8.ofNat n.toNat := by rw [toList_data]; rfl

theorem ok64 : Ok1 Tryd.prog 64 gText := by
  refine ok1_flat (addT_ok (noT_ok _) ok93) ⟨_, Tryd.func64, by kernel_rfl, by kernel_rfl⟩ fun vs H v H' hg => ?_
  unfold gText at hg
  split at hg
  · rename_i a
    obtain ⟨ha, hg⟩ := chk_some hg
    cases hg
    refine ⟨rfl, rfl, fun hw => Ret.run (n := 20) ?_⟩
    rw [F64_eq]
    unfold F64
    have hcall : addT noT 93 g93 93 [.int .i64 a] H = some (.int .u64 (a.natAbs : Nat), H) := by
      rw [addT_at]
      exact chk_pos ha _
    simp only [hcall, Option.bind_some]
    unfold InI at ha
    refine Ret.then (Q' := fun r => r.1 = .exit 0 ∧ r.2.1 0 = .int .i64 a ∧ r.2.1 3 = .str (strOfNums (dg 19 a.natAbs [])) ∧ Ext H.next H r.2.2) ?_ ?_
    · refine Ret.iter (fun f s => ∃ u acc k, f = k + 1 ∧ s.1 0 = .int .i64 a ∧ s.1 3 = .str (strOfNums acc) ∧ s.1 4 = .int .u64 (u : Nat) ∧ Ext H.next H s.2 ∧ u < 18446744073709551616 ∧ acc.length + k ≤ 19 ∧
          (((acc = [] ∨ 0 < u) ∧ 1 ≤ k ∧ u < 10 ^ k ∧ dg k u acc = dg 19 a.natAbs []) ∨ (acc ≠ [] ∧ u = 0 ∧ acc = dg 19 a.natAbs []))) _ ?_ (fun s ⟨u, acc, k, h, _⟩ => by omega) 20 20 _ (Nat.le_refl _) ?_
      · rintro j ⟨T1, H1⟩ ⟨u, acc, k, hjk, h0, h3, h4, he, hu, hl, hc⟩
        have t0 : T1 0 = _ := h0
        have t3 : T1 3 = _ := h3
        have t4 : T1 4 = _ := h4
        have hjk' : j = k := by omega
        subst hjk'
        have he' : Ext H.next H H1 := he
        have hemp : ((strOfNums acc).toList == (⟨#[]⟩ : ByteArray).toList) = decide (acc = []) := by
          rw [str_nil, str_toList, str_toList]
          cases acc <;> simp
        simp only [t3, t4, aBin_same, hemp, Option.bind_some, gdv_bool, asB_bool]
        -- whether a round is to come
        have e1 : ((u : Nat) : Int).tmod 10 = ((u % 10 : Nat) : Int) := by
          rw [Int.tmod_eq_emod_of_nonneg (by omega)]
          omega
        have e2 : ((u : Nat) : Int).tdiv 10 = ((u / 10 : Nat) : Int) := by
          rw [Int.tdiv_eq_ediv_of_nonneg (by omega)]
          omega
        have e3 : IntKind.u8.wrap (IntKind.u64.wrap (48 + ((u % 10 : Nat) : Int))) = ((48 + u % 10 : Nat) : Int) := by
          rw [wrap_u (by omega) (by omega), wrap_u8 (by omega) (by omega)]
          omega
        have e4 : IntKind.u64.wrap ((u / 10 : Nat) : Int) = ((u / 10 : Nat) : Int) := wrap_u (by omega) (by omega)
        have e5 : ∀ t, aBin Tryd.prog .add t (.str (strOfNums [((48 + u % 10 : Nat) : Int)])) (.str (strOfNums acc)) = some (.str (strOfNums (((48 + u % 10 : Nat) : Int) :: acc))) := fun t => by
          rw [aBin_cat _ _ _ _ (by rw [strOfNums_size, strOfNums_size]; simp; omega), str_append]
          rfl
        have step : ((acc = [] ∨ 0 < u) ∧ 1 ≤ j ∧ u < 10 ^ j ∧ dg j u acc = dg 19 a.natAbs []) → ∀ T2 : Tm, T2 0 = .int .i64 a → T2 3 = .str (strOfNums (((48 + u % 10 : Nat) : Int) :: acc)) → T2 4 = .int .u64 ((u / 10 : Nat) : Int) →
            ∃ u' acc' k', j = k' + 1 ∧ T2 0 = .int .i64 a ∧ T2 3 = .str (strOfNums acc') ∧ T2 4 = .int .u64 (u' : Nat) ∧ Ext H.next H (H1.new [.int .u8 ((48 + u % 10 : Nat) : Int)] 5) ∧ u' < 18446744073709551616 ∧ acc'.length + k' ≤ 19 ∧
              (((acc' = [] ∨ 0 < u') ∧ 1 ≤ k' ∧ u' < 10 ^ k' ∧ dg k' u' acc' = dg 19 a.natAbs []) ∨ (acc' ≠ [] ∧ u' = 0 ∧ acc' = dg 19 a.natAbs [])) := by
          rintro ⟨_, hj, hlt, hd⟩ T2 a0 a3 a4
          obtain ⟨k, rfl⟩ : ∃ k, j = k + 1 := ⟨j - 1, by omega⟩
          refine ⟨u / 10, _, k, rfl, a0, a3, a4, he'.new _ _, by omega, by simp; omega, ?_⟩
          rw [dg] at hd
          by_cases hz : u / 10 = 0
          · rw [if_pos hz] at hd
            exact .inr ⟨by simp, hz, hd⟩
          · rw [if_neg hz] at hd
            rw [Nat.pow_succ] at hlt
            refine .inl ⟨.inr (by omega), ?_, by omega, hd⟩
            cases k with
            | zero => simp at hlt; omega
            | succ k => omega
        rcases hc with hc | ⟨hne, hu0, hacc⟩
        · by_cases hae : acc = []
          · simp only [hae, decide_true]
            subst hae
            simp only [show (true == false) = false from rfl, Bool.false_eq_true, if_false, if_true, Option.bind_some, asB_bool, aBin_rem _ _ _ _ _ (show (10 : Int) ≠ 0 by decide), aBin_quo _ _ _ _ _ (show (10 : Int) ≠ 0 by decide), e1, e2, e4, aBin_add, cvInt_int, e3, bs87, one_str, e5]
            exact .mk (.inl ⟨rfl, step hc _ (by simpa [updL, upd] using t0) (by simp [updL, upd]) (by simp [updL, upd])⟩)
          · have hup : 0 < u := hc.1.resolve_left hae
            simp only [hae, decide_false]
            simp only [show (false == false) = true from rfl, Bool.false_eq_true, if_false, if_true, Option.bind_some, asB_bool, aBin_gtr, show decide (((u : Nat) : Int) > 0) = true by simp; omega, aBin_rem _ _ _ _ _ (show (10 : Int) ≠ 0 by decide), aBin_quo _ _ _ _ _ (show (10 : Int) ≠ 0 by decide), e1, e2, e4, aBin_add, cvInt_int, e3, bs87, one_str, e5]
            exact .mk (.inl ⟨rfl, step hc _ (by simpa [updL, upd] using t0) (by simp [updL, upd]) (by simp [updL, upd])⟩)
        · subst hu0
          simp only [hne, decide_false]
          simp only [show (false == false) = true from rfl, Bool.false_eq_true, if_false, if_true, Option.bind_some, asB_bool, aBin_gtr, show decide (((0 : Nat) : Int) > 0) = false by simp]
          exact .mk (.inr ⟨by simp, rfl, by simpa [updL, upd] using t0, by rw [← hacc]; simpa [updL, upd] using t3, he⟩)
      · refine ⟨a.natAbs, [], 19, rfl, by simp [updL, upd, T0], by simp [updL, upd, str_nil], by simp [updL, upd], .refl hw, by omega, by simp, .inl ⟨.inl rfl, by omega, ?_, rfl⟩⟩
        have : (10 : Nat) ^ 19 = 10000000000000000000 := by decide
        omega
    · rintro ⟨e, T1, H1⟩ ⟨he, h0, h3, hx⟩
      have t0 : T1 0 = _ := h0
      have t3 : T1 3 = _ := h3
      simp only at he
      subst he
      have hsub : H.sub H1 := Ext.sub hx hw
      simp only [if_true, t0, t3, aBin_lss, Option.bind_some, asB_bool]
      by_cases hneg : a < 0
      · rw [if_pos (by simp [hneg])]
        have hcat : ∀ t, aBin Tryd.prog .add t (.str ⟨#[45]⟩) (.str (strOfNums (dg 19 a.natAbs []))) = some (.str (strOfNums (txt a))) := fun t => by
          have hlen := dg_length 19 a.natAbs []
          rw [show (⟨#[45]⟩ : ByteArray) = strOfNums [45] from rfl, aBin_cat _ _ _ _ (by rw [strOfNums_size, strOfNums_size]; simp at hlen ⊢; omega), str_append, txt, if_pos hneg]
          rfl
        simp only [hcat, Option.bind_some, jn_inl]
        exact .mk ⟨by simp [updL, upd], hsub⟩
      · rw [if_neg (by simp [hneg])]
        simp only [jn_inl]
        refine .mk ⟨?_, hsub⟩
        rw [txt, if_neg hneg]
        simpa [updL, upd] using t3
  · cases hg
end Go.Proofs.YthiflgncldmkjaaDoor
set_option linter.unusedVariables false
set_option linter.unusedSimpArgs false
set_option maxRecDepth 100000
namespace Go.Proofs.YthiflgncldmkjaaDoor
open Go.Ri

def row0 : List AV := [.str ⟨#[]⟩, .int .i64 0, .int .i64 0, .int .i64 0]
def rowAt (op : Int) : List AV := if 1 ≤ op ∧ op < 26 then (rows92.drop (op.toNat * 4)).take 4 else row0
theorem info133 : (Tryd.prog.info? 133).isSome = true := by kernel_rfl
theorem cells133 : Tryd.prog.cellsOf 133 = 4 := by kernel_rfl
theorem build133 : aBuild Tryd.prog 133 [] = some (.agg row0) := by kernel_rfl
theorem aLen162 (b n : Nat) (c : Cap) : aLen Tryd.prog 162 (.slice (some (b, 0)) n c) = some (.int .i64 (n : Nat)) := by kernel_rfl
theorem rows92_length : rows92.length = 104 := by decide
theorem rows92_flat : rows92.all flat = true := by decide
theorem rowAt_length (op : Int) : (rowAt op).length = 4 := by
  unfold rowAt
  split
  · rw [List.length_take, List.length_drop, rows92_length]
    omega
  · rfl
theorem rowAt_flat (op : Int) : (rowAt op).all flat = true := by
  unfold rowAt
  split
  · have := rows92_flat
    rw [List.all_eq_true] at this ⊢
    exact fun x hx => this x (List.mem_of_mem_drop (List.mem_of_mem_take hx))
  · rfl
noncomputable def g92 (vs : List AV) (H : AH) : Option (AV × AH) := match vs with
  | [.int .i64 op] => some (.agg (rowAt op), H)
  | _ => none

theorem store133 {H : AH} {b : Nat} {B : Blk} {cs : List AV} (hB : H.m b = some B) (hrw : B.rw_ = true) (hl : B.cells.length = 4) (hc : cs.length = 4) :
    ∃ H1, aStore Tryd.prog 133 (.ptr (some (b, 0))) (.agg cs) H = some H1 ∧ ldAgg (.ptr (some (b, 0))) 4 H1 = some (.agg cs) ∧ ∀ i, i ≠ b → H1.m i = H.m i := by
  refine ⟨{ H with m := setM H.m b (some { B with cells := B.cells.take 0 ++ cs ++ B.cells.drop (0 + cs.length) }) }, ?_, ?_, fun i hi => setM_other _ _ hi⟩
  · unfold aStore
    rw [if_pos info133, cells133]
    simp only [AV.cells, Option.bind_some, hc, if_true, stV, AH.st, hB, hrw, true_and]
    rw [if_pos (by omega)]
  · simp only [ldAgg, AH.ldN, setM_same, Option.bind_some]
    rw [if_pos (by simp; omega)]
    simp [hc, List.drop_eq_nil_of_le, hl, List.take_of_length_le]

theorem ok92 : Ok1 Tryd.prog 92 g92 := by
  refine ok1_flat (noT_ok _) ⟨_, Tryd.func92, by kernel_rfl, by kernel_rfl⟩ fun vs H v H' hg => ?_
  unfold g92 at hg
  split at hg
  · rename_i op
    cases hg
    refine ⟨rfl, rowAt_flat op, fun hw => Ret.run (n := 0) ?_⟩
    rw [F92_eq]
    unfold F92 F92t
    have hB : ((H.new row0 133).new rows92 133).m H.next = some ⟨row0, 133, true⟩ := by
      simp only [AH.new]
      rw [setM_other _ _ (by omega), setM_same]
    have hsub : ∀ H1 : AH, (∀ i, i ≠ H.next → H1.m i = ((H.new row0 133).new rows92 133).m i) → H.sub H1 := by
      intro H1 h b B hb
      have h1 := hw b B hb
      rw [h b (by omega)]
      simp only [AH.new]
      rw [setM_other _ _ (by omega), setM_other _ _ (by omega)]
      exact hb
    have hend : ∀ cs : List AV, cs.length = 4 → cs = rowAt op → Ret (((aStore Tryd.prog 133 (ptrTo H.next) (.agg cs) ((H.new row0 133).new rows92 133)).map fun H' => ((.tuple [] : AV), H')).bind fun r42 =>
        (((ldAgg (ptrTo H.next) 4 r42.2).bind fun v43 => some (v43 :: [])).map oneOf).map fun v => (v, r42.2)) fun r => r.1 = .agg (rowAt op) ∧ H.sub r.2 := by
      intro cs hl he
      obtain ⟨H1, h1, h2, h3⟩ := store133 (cs := cs) hB rfl rfl hl
      simp only [ptrTo, h1, Option.map_some, Option.bind_some, h2]
      exact .mk ⟨by rw [← he]; rfl, hsub H1 h3⟩
    simp only [aBin_lss, Option.bind_some, gdv_bool, asB_bool]
    by_cases h1 : op < 1
    · simp only [h1, decide_true, show (true == false) = false from rfl, Bool.false_eq_true, if_false, if_true, Option.bind_some, asB_bool, build133]
      exact hend row0 rfl (by rw [rowAt, if_neg (by omega)])
    · simp only [h1, decide_false, show (false == false) = true from rfl, Bool.false_eq_true, if_false, if_true, Option.bind_some, slTo, aLen162, aBin_geq, asB_bool]
      by_cases h2 : op ≥ ((26 : Nat) : Int)
      · simp only [h2, decide_true, if_true, build133, Option.bind_some]
        exact hend row0 rfl (by rw [rowAt, if_neg (by omega)])
      · simp only [h2, decide_false, Bool.false_eq_true, if_false]
        have hi : idxSl (.slice (some ((H.new row0 133).next, 0)) 26 (.kn 26)) (.int .i64 op) 4 = some (.ptr (some (H.next + 1, op.toNat * 4))) := by
          simp only [idxSl]
          rw [if_pos (by omega)]
          simp [AH.new]
        have hld : ldAgg (.ptr (some (H.next + 1, op.toNat * 4))) 4 ((H.new row0 133).new rows92 133) = some (.agg (rowAt op)) := by
          simp only [ldAgg, AH.ldN, AH.new, setM_same, Option.bind_some]
          rw [if_pos (by rw [rows92_length]; omega), rowAt, if_pos (by omega)]
          rfl
        have hi' := hi
        have hld' := hld
        simp only [row0] at hi' hld'
        simp only [hi', hld', Option.bind_some]
        exact hend (rowAt op) (rowAt_length op) rfl
  · cases hg
end Go.Proofs.YthiflgncldmkjaaDoor
set_option linter.unusedVariables false
set_option linter.unusedSimpArgs false
set_option maxRecDepth 100000
namespace Go.Proofs.YthiflgncldmkjaaDoor
open Go.Ri

def nums (op : Int) : Int := if op = 4 ∨ op = 5 ∨ op = 6 ∨ op = 19 ∨ op = 24 then 2 else if op = 1 ∨ op = 2 ∨ op = 3 ∨ op = 17 ∨ op = 18 ∨ op = 20 then 1 else 0
noncomputable def g65 (vs : List AV) (H : AH) : Option (AV × AH) := match vs with
  | [.int .i64 op] => chk (1 ≤ op ∧ op ≤ 25) (some (.int .i64 (nums op), H))
  | _ => none
theorem ok65 : Ok1 Tryd.prog 65 g65 := by
  refine ok1_flat (noT_ok _) ⟨_, Tryd.func65, by kernel_rfl, by kernel_rfl⟩ fun vs H v H' hg => ?_
  unfold g65 at hg
  split at hg
  · rename_i op
    obtain ⟨⟨h1, h2⟩, hg⟩ := chk_some hg
    cases hg
    refine ⟨rfl, rfl, fun hw => Ret.run (n := 0) ?_⟩
    rw [F65_eq]
    have : F65 noT (iter 0) (.int .i64 op) H = some (.int .i64 (nums op), H) := by
      have hop : op = 1 ∨ op = 2 ∨ op = 3 ∨ op = 4 ∨ op = 5 ∨ op = 6 ∨ op = 7 ∨ op = 8 ∨ op = 9 ∨ op = 10 ∨ op = 11 ∨ op = 12 ∨ op = 13 ∨ op = 14 ∨ op = 15 ∨ op = 16 ∨ op = 17 ∨ op = 18 ∨ op = 19 ∨ op = 20 ∨ op = 21 ∨ op = 22 ∨ op = 23 ∨ op = 24 ∨ op = 25 := by omega
      rcases hop with rfl | rfl | rfl | rfl | rfl | rfl | rfl | rfl | rfl | rfl | rfl | rfl | rfl | rfl | rfl | rfl | rfl | rfl | rfl | rfl | rfl | rfl | rfl | rfl | rfl <;> rfl
    rw [this]
    exact .mk ⟨rfl, fun _ _ h => h⟩
  · cases hg

def U8 (l : List Int) : List AV := l.map (.int .u8)
def byteL (s : ByteArray) : List Int := s.data.toList.map fun b => (b.toNat : Int)
theorem str_byteL (s : ByteArray) : strOfNums (byteL s) = s := by
  apply toList_inj
  rw [str_toList, toList_data, byteL, List.map_map]
  conv => rhs; rw [← List.map_id s.data.toList]
  apply List.map_congr_left
  intro b _
  simp
theorem byteL_length (s : ByteArray) : (byteL s).length = s.size := by simp [byteL]
theorem strCells_eq (s : ByteArray) : strCells s = U8 (byteL s) := by simp [strCells, U8, byteL]
theorem under87 : Tryd.prog.underlying 87 = some (.slice 5) := by kernel_rfl
theorem zero5 : zeroL Tryd.prog 5 = some [.int .u8 0] := by kernel_rfl
theorem seq87 : seqT Tryd.prog 87 = true := by kernel_rfl
theorem seq9 : seqT Tryd.prog 9 = true := by kernel_rfl
theorem info5' : ∃ i, Tryd.prog.info? 5 = some i ∧ i.size = 1 ∧ i.bytes = 1 := by
  have h : (Tryd.prog.info? 5).isSome = true := by kernel_rfl
  obtain ⟨i, hi⟩ := Option.isSome_iff_exists.1 h
  have h1 : ((Tryd.prog.info? 5).map (·.size)).getD 0 = 1 := by kernel_rfl
  have h2 : ((Tryd.prog.info? 5).map (·.bytes)).getD 0 = 1 := by kernel_rfl
  rw [hi] at h1 h2
  exact ⟨i, hi, h1, h2⟩
theorem app87 {N : Nat} {H0 H : AH} {s : AV} {l : List Int} {x : Int} (hs : GS N 1 5 H s (U8 l)) (he : Ext N H0 H) (hlim : l.length < 1000000000000) :
    Ret (aAppend Tryd.prog 87 87 s (slTo 1 1 H.next) (H.new [.int .u8 x] 5)) fun r => GS N 1 5 r.2 r.1 (U8 (l ++ [x])) ∧ Ext N H0 r.2 := by
  obtain ⟨i, hi, h1, h2⟩ := info5'
  refine (app_one under87 hi zero5 (by rw [h1]; rfl) h1 seq87 hs he (by rw [h2]; simp [U8]; omega)).mono ?_
  rintro r ⟨g1, g2, _⟩
  exact ⟨by simpa [U8] using g1, g2⟩
theorem app879 {N : Nat} {H0 H : AH} {s : AV} {l : List Int} {x : ByteArray} (hs : GS N 1 5 H s (U8 l)) (he : Ext N H0 H) (hlim : l.length + x.size < 1000000000000) :
    Ret (aAppend Tryd.prog 87 9 s (.str x) H) fun r => GS N 1 5 r.2 r.1 (U8 (l ++ byteL x)) ∧ Ext N H0 r.2 := by
  obtain ⟨i, hi, h1, h2⟩ := info5'
  have hlen : (strCells x).length = x.size := by rw [strCells_eq, U8, List.length_map, byteL_length]
  rw [← h1] at hs
  refine (app_gs (n := x.size) (ds := strCells x) under87 hi zero5 (by rw [h1]; rfl) (by omega) seq9 hs he rfl ?_ (by rw [hlen, h1]; omega) (by rw [h2, hlen]; simp [U8]; omega)).mono ?_
  · unfold srcN
    cases hx : x.size with
    | zero =>
      simp only []
      congr 1
      exact (List.eq_nil_of_length_eq_zero (by rw [hlen, hx])).symm
    | succ n =>
      simp only []
      rw [if_pos ⟨hx.symm, h1⟩]
  · rintro r ⟨g1, g2, _⟩
    rw [h1, strCells_eq] at g1
    exact ⟨by simpa [U8] using g1, g2⟩
theorem bytes_str {N : Nat} {H : AH} {s : AV} {l : List Int} (hs : GS N 1 5 H s (U8 l)) : cvBytes s H = some (.str (strOfNums l)) := by
  have hbi : ∀ l : List Int, byteInts (l.map (.int .u8)) = some l := fun l => by
    induction l with
    | nil => rfl
    | cons x l ih => simp [byteInts, ih]
  rcases hs with ⟨rfl, h⟩ | ⟨b, n, rfl, hn, hl, hb, _⟩
  · have : l = [] := by simpa [U8] using h
    subst this
    rfl
  · simp only [cvBytes, AH.ldN, hb, Option.bind_some]
    have : n = (U8 l).length := by omega
    subst this
    rw [if_pos (by simp)]
    simp only [List.drop_zero, Option.bind_some]
    rw [List.take_of_length_le (by omega), U8, hbi]
    rfl
end Go.Proofs.YthiflgncldmkjaaDoor
set_option linter.unusedVariables false
set_option linter.unusedSimpArgs false
set_option maxRecDepth 100000
namespace Go.Proofs.YthiflgncldmkjaaDoor
open Go.Ri

theorem aLen90 (p : Option (Nat × Nat)) (n : Nat) (c : Cap) : aLen Tryd.prog 90 (.slice p n c) = some (.int .i64 (n : Nat)) := by kernel_rfl
def joinL : Nat → List ByteArray → List Int
  | _, [] => []
  | i, s :: l => (if 0 < i then [32] else []) ++ byteL s ++ joinL (i + 1) l
theorem joinL_append : ∀ (i : Nat) (a : List ByteArray) (s : ByteArray), joinL i (a ++ [s]) = joinL i a ++ (if 0 < i + a.length then [32] else []) ++ byteL s
  | i, [], s => by simp [joinL]
  | i, x :: a, s => by
    simp only [List.cons_append, joinL, joinL_append (i + 1) a s, List.length_cons]
    rw [show i + 1 + a.length = i + (a.length + 1) by omega]
    simp
def strsOf : List AV → Option (List ByteArray)
  | [] => some []
  | .str s :: l => (strsOf l).map fun r => s :: r
  | _ => none
theorem strsOf_eq : ∀ {cs : List AV} {ls : List ByteArray}, strsOf cs = some ls → cs = ls.map .str
  | [], ls, h => by cases h; rfl
  | c :: cs, ls, h => by
    cases c <;> simp only [strsOf, Option.map_eq_some_iff, reduceCtorEq] at h
    obtain ⟨r, hr, rfl⟩ := h
    rw [strsOf_eq hr]
    rfl
noncomputable def g66 (vs : List AV) (H : AH) : Option (AV × AH) := match vs with
  | [.slice (some p) n c] => (H.ldN p n).bind fun cs => (strsOf cs).bind fun ls => chk (ls.length = n ∧ ls.length < 1000000 ∧ ∀ s ∈ ls, s.size < 1000) (some (.str (strOfNums (joinL 0 ls)), H))
  | _ => none
theorem joinL_length : ∀ (i : Nat) (l : List ByteArray), (∀ s ∈ l, s.size < 1000) → (joinL i l).length ≤ l.length * 1001
  | i, [], _ => by simp [joinL]
  | i, s :: l, h => by
    have ih := joinL_length (i + 1) l fun t ht => h t (by simp [ht])
    have hs := h s (by simp)
    simp only [joinL, List.length_append, byteL_length, List.length_cons]
    split <;> simp <;> omega

theorem ok66 : Ok1 Tryd.prog 66 g66 := by
  refine ok1_flat (noT_ok _) ⟨_, Tryd.func66, by kernel_rfl, by kernel_rfl⟩ fun vs H v H' hg => ?_
  unfold g66 at hg
  split at hg
  · rename_i p n c
    simp only [Option.bind_eq_some_iff] at hg
    obtain ⟨cs, hcs, ls, hls, hg⟩ := hg
    obtain ⟨⟨hn, hlim, hsz⟩, hg⟩ := chk_some hg
    cases hg
    have hce := strsOf_eq hls
    refine ⟨rfl, rfl, fun hw => Ret.run (n := n + 1) ?_⟩
    rw [F66_eq]
    unfold F66
    obtain ⟨b, o⟩ := p
    simp only [aLen90, Option.bind_some]
    refine Ret.then (Q' := fun r => r.1 = .exit 0 ∧ GS H.next 1 5 r.2.2 (r.2.1 3) (U8 (joinL 0 ls)) ∧ Ext H.next H r.2.2) ?_ ?_
    · refine Ret.iter (fun f s => ∃ i, i ≤ n ∧ f = n + 1 - i ∧ s.1 6 = .slice (some (b, o)) n c ∧ s.1 7 = .int .i64 (n : Nat) ∧ s.1 8 = .int .i64 (i : Nat) ∧ GS H.next 1 5 s.2 (s.1 3) (U8 (joinL 0 (ls.take i))) ∧ Ext H.next H s.2) _ ?_ (fun s ⟨i, _, _, _⟩ => by omega) (n + 1) (n + 1) _ (Nat.le_refl _) ?_
      · rintro j ⟨T1, H1⟩ ⟨i, hi, hf, h6, h7, h8, hgs, he⟩
        have t6 : T1 6 = _ := h6
        have t7 : T1 7 = _ := h7
        have t8 : T1 8 = _ := h8
        have hg1 : GS H.next 1 5 H1 (T1 3) (U8 (joinL 0 (ls.take i))) := hgs
        have he' : Ext H.next H H1 := he
        simp only [t6, t7, t8, aBin_lss, Option.bind_some, asB_bool]
        by_cases hz : i < n
        · rw [if_pos (by simp; omega)]
          have hil : i < ls.length := by omega
          have hsi := hsz ls[i] (List.getElem_mem _)
          have hix : idxSl (.slice (some (b, o)) n c) (.int .i64 (i : Nat)) 1 = some (.ptr (some (b, o + i))) := by
            simp only [idxSl]
            rw [if_pos (by omega)]
            simp
          have hld : ldOne (.ptr (some (b, o + i))) H1 = some (.str ls[i]) := by
            simp only [AH.ldN, Option.bind_eq_some_iff] at hcs
            obtain ⟨B, hB, hcs⟩ := hcs
            split at hcs
            · rename_i hle
              have hcs := Option.some.inj hcs
              simp only [ldOne, AH.ld, he'.low b (hw b B hB), hB, Option.bind_some]
              have h1 : cs[i]? = some (.str ls[i]) := by rw [hce]; simp [hil]
              rw [← hcs, List.getElem?_take, if_pos (by omega), List.getElem?_drop] at h1
              exact h1
            · cases hcs
          simp only [hix, hld, Option.bind_some, aBin_gtr, asB_bool]
          have hjl := joinL_length 0 (ls.take i) fun s hs => hsz s (List.mem_of_mem_take hs)
          have hjl' : (joinL 0 (ls.take i)).length ≤ 1001000000 := by
            have : (ls.take i).length ≤ 1000000 := by simp; omega
            omega
          have htake : joinL 0 (ls.take (i + 1)) = joinL 0 (ls.take i) ++ (if 0 < i then [32] else []) ++ byteL ls[i] := by
            rw [List.take_succ_eq_append_getElem hil, joinL_append]
            simp [Nat.min_eq_left (Nat.le_of_lt hil)]
          have w1 : IntKind.i64.wrap ((i : Nat) + 1) = ((i + 1 : Nat) : Int) := wrap1 (by omega)
          -- the word itself
          have tail : ∀ (T2 : Tm) (H2 : AH) (K : Tm → AH → Option (Ex × St)), T2 5 = .str ls[i] → T2 8 = .int .i64 (i : Nat) → T2 6 = .slice (some (b, o)) n c → T2 7 = .int .i64 (n : Nat) → GS H.next 1 5 H2 (T2 3) (U8 (joinL 0 (ls.take i) ++ (if 0 < i then [32] else []))) → Ext H.next H H2 →
              Ret ((aAppend Tryd.prog 87 9 (T2 3) (T2 5) H2).bind fun r15 => (aBin Tryd.prog .add 3 (T2 8) (.int .i64 1)).bind fun v16 =>
                some (Ex.normal, (updL T2 [(18, (T2 3)), (19, (T2 5)), (20, r15.1), (3, r15.1), (21, v16), (8, v16)]), r15.2)) fun r =>
                (r.1 = .normal ∧ ∃ i, i ≤ n ∧ j = n + 1 - i ∧ r.2.1 6 = .slice (some (b, o)) n c ∧ r.2.1 7 = .int .i64 (n : Nat) ∧ r.2.1 8 = .int .i64 (i : Nat) ∧ GS H.next 1 5 r.2.2 (r.2.1 3) (U8 (joinL 0 (ls.take i))) ∧ Ext H.next H r.2.2) ∨
                (r.1 ≠ .normal ∧ r.1 = .exit 0 ∧ GS H.next 1 5 r.2.2 (r.2.1 3) (U8 (joinL 0 ls)) ∧ Ext H.next H r.2.2) := by
            intro T2 H2 _ a5 a8 a6 a7 ag ae
            simp only [a5, a8]
            refine Ret.then (app879 ag ae (by split <;> simp <;> omega)) ?_
            rintro ⟨sv, H3⟩ ⟨g1, g2⟩
            simp only [aBin_add, Option.bind_some, w1]
            refine .mk (.inl ⟨rfl, i + 1, by omega, by omega, by simpa [updL, upd] using a6, by simpa [updL, upd] using a7, by simp [updL, upd], ?_, g2⟩)
            have g1' : GS H.next 1 5 H3 sv _ := g1
            rw [htake]
            simpa [updL, upd] using g1'
          by_cases hip : 0 < i
          · rw [if_pos (by simp; omega)]
            simp only [bs87, Option.bind_some]
            obtain ⟨⟨sv, H2⟩, ha, g1, g2⟩ := app87 (x := 32) hg1 he' (by omega)
            simp only [ha, Option.bind_some, jn_inl]
            refine tail _ _ (fun _ _ => none) (by simp [updL, upd]) (by simpa [updL, upd] using t8) (by simpa [updL, upd] using t6) (by simpa [updL, upd] using t7) ?_ g2
            rw [if_pos hip]
            have g1' : GS H.next 1 5 H2 sv _ := g1
            simpa [updL, upd] using g1'
          · rw [if_neg (by simp; omega)]
            simp only [jn_inl]
            refine tail _ _ (fun _ _ => none) (by simp [updL, upd]) (by simpa [updL, upd] using t8) (by simpa [updL, upd] using t6) (by simpa [updL, upd] using t7) ?_ he'
            rw [if_neg hip]
            simpa [updL, upd] using hg1
        · rw [if_neg (by simp; omega)]
          have : i = n := by omega
          subst this
          refine .mk (.inr ⟨by simp, rfl, ?_, he⟩)
          rw [List.take_of_length_le (by omega)] at hg1
          simpa [updL, upd] using hg1
      · exact ⟨0, by omega, rfl, by simp [updL, upd, T0], by simp [updL, upd], by simp [updL, upd], by simpa [updL, upd, U8, joinL] using GS.nil _ _ _ _, .refl hw⟩
    · rintro ⟨e, T1, H1⟩ ⟨he, hgs, hx⟩
      simp only at he
      subst he
      have hg1 : GS H.next 1 5 H1 (T1 3) (U8 (joinL 0 ls)) := hgs
      have hsub : H.sub H1 := Ext.sub hx hw
      simp only [if_true, bytes_str hg1, Option.bind_some]
      exact .mk ⟨rfl, hsub⟩
  · cases hg
end Go.Proofs.YthiflgncldmkjaaDoor
set_option linter.unusedVariables false
set_option linter.unusedSimpArgs false
set_option maxRecDepth 100000
namespace Go.Proofs.YthiflgncldmkjaaDoor
open Go.Ri

def wordsL : List ByteArray := ((List.range 26).map fun i => match rows92.getD (i * 4) (.bool false) with | AV.str s => s | _ => ⟨#[]⟩)
def wordOf (op : Int) : ByteArray := wordsL.getD op.toNat ⟨#[]⟩
def Words (H : AH) : Prop := ∃ e rw, H.m 0 = some ⟨wordsL.map .str, e, rw⟩
def lineWords (op n m : Int) : List ByteArray := wordOf op :: ((if 0 < nums op then [strOfNums (txt n)] else []) ++ (if 1 < nums op then [strOfNums (txt m)] else []))
def lineOf (op n m : Int) : Option (List Int) := if op < 1 ∨ 25 < op then none else if (nums op < 1 ∧ n ≠ 0) ∨ (nums op < 2 ∧ m ≠ 0) then none else some (joinL 0 (lineWords op n m))
def lineAV (op n m : Int) : AV := match lineOf op n m with
  | some l => .tuple [.str (strOfNums l), .int .i64 0]
  | none => .tuple [.str ⟨#[]⟩, .int .i64 61]
theorem ld_new {H : AH} {cells : List AV} {e : TypeId} (k : Nat) : ldOne (.ptr (some (H.next, k))) (H.new cells e) = cells[k]? := by
  simp only [ldOne, AH.ld, AH.new, setM_same, Option.bind_some]
theorem ld_old {H : AH} {cells : List AV} {e : TypeId} {b k : Nat} (h : b ≠ H.next) : ldOne (.ptr (some (b, k))) (H.new cells e) = ldOne (.ptr (some (b, k))) H := by
  simp only [ldOne, AH.ld, AH.new, setM_other _ _ h]
theorem nums_three (op : Int) : nums op = 0 ∨ nums op = 1 ∨ nums op = 2 := by
  unfold nums
  split
  · simp
  · split <;> simp
theorem bs90 (s : ByteArray) : nBuildSlice Tryd.prog 90 1 [(0, .str s)] = some ⟨[.str s], 9, slTo 1 1⟩ := by kernel_rfl
theorem build91 (n m : Int) : aBuild Tryd.prog 91 [(0, .int .i64 n), (1, .int .i64 m)] = some (.agg [.int .i64 n, .int .i64 m]) := by kernel_rfl
theorem idx91_0 (n m : Int) : idxAgg Tryd.prog 2 2 1 (.agg [.int .i64 n, .int .i64 m]) (.int .i64 0) = some (.int .i64 n) := by kernel_rfl
theorem idx91_1 (n m : Int) : idxAgg Tryd.prog 2 2 1 (.agg [.int .i64 n, .int .i64 m]) (.int .i64 1) = some (.int .i64 m) := by kernel_rfl
noncomputable def S23 : CallF := addT (addT (addT noT 62 gText) 65 g65) 66 g66
theorem S23_ok : CallOk Tryd.prog S23 := addT_ok (addT_ok (addT_ok (noT_ok _) ok62) ok65) ok66
theorem S23_62 {n : Int} (h : InI n) (H : AH) : S23 62 [.int .i64 n] H = some (.str (strOfNums (txt n)), H) := chk_pos h _
theorem S23_65 {op : Int} (h : 1 ≤ op ∧ op ≤ 25) (H : AH) : S23 65 [.int .i64 op] H = some (.int .i64 (nums op), H) := chk_pos h _
theorem S23_66 {b n : Nat} {c : Cap} {H : AH} {ls : List ByteArray} (h : H.ldN (b, 0) n = some (ls.map .str)) (hl : ls.length = n) (h1 : ls.length < 1000000) (h2 : ∀ s ∈ ls, s.size < 1000) :
    S23 66 [.slice (some (b, 0)) n c] H = some (.str (strOfNums (joinL 0 ls)), H) := by
  have e : S23 66 [.slice (some (b, 0)) n c] H = g66 [.slice (some (b, 0)) n c] H := addT_at _ _ _ _ _
  rw [e]
  have hs : strsOf (ls.map .str) = some ls := by
    clear h hl h1 h2
    induction ls with
    | nil => rfl
    | cons s ls ih => simp [strsOf, ih]
  simp only [g66, h, Option.bind_some, hs]
  exact chk_pos ⟨hl, h1, h2⟩ _
end Go.Proofs.YthiflgncldmkjaaDoor
set_option linter.unusedVariables false
set_option linter.unusedSimpArgs false
set_option maxRecDepth 100000
namespace Go.Ri
theorem app_kn {P : Program} {st e : TypeId} {i : TypeInfo} {z : List AV} (hu : P.underlying st = some (.slice e)) (hi : P.info? e = some i) (hz : zeroL P e = some z) (hzl : z.length = i.size) (hzp : i.size = 1) (hq : seqT P st = true)
    {N : Nat} {H0 H : AH} {b n : Nat} {v : AV} {cs : List AV} (hB : H.m b = some ⟨cs, e, true⟩) (hl : cs.length = n) (hN : N ≤ b) (he : Ext N H0 H) (hlim : (cs.length + 1) * (i.bytes + 1) ≤ 140737488355328) :
    Ret (aAppend P st st (.slice (some (b, 0)) n (.kn n)) (slTo 1 1 H.next) (H.new [v] e)) fun r => GS N 1 e r.2 r.1 (cs ++ [v]) ∧ Ext N H0 r.2 := by
  have hb := he.wf b _ hB
  unfold aAppend
  simp only [hu, hi, hz, Option.bind_some]
  rw [if_pos ⟨hq, by omega, hzl, rfl⟩]
  have hs : srcN i.size 1 (slTo 1 1 H.next) (H.new [v] e) = some [v] := by
    simp only [srcN, slTo, hzp, AH.ldN, AH.new, setM_same, Option.bind_some]
    simp
  have ha : aLenOf (slTo 1 1 H.next) = some 1 := rfl
  simp only [ha, hs, Option.bind_some, appTo]
  rw [if_neg (by omega)]
  have hold : oldN i.size n (some (b, 0)) (H.new [v] e) = some cs := by
    cases n with
    | zero =>
      have : cs = [] := List.eq_nil_of_length_eq_zero hl
      subst this
      rfl
    | succ n =>
      simp only [oldN, AH.ldN, AH.new]
      rw [setM_other _ _ (by omega), hB]
      simp only [Option.bind_some, hzp]
      rw [if_pos (by omega)]
      simp only [List.drop_zero]
      rw [List.take_of_length_le (by omega)]
  simp only [hold, Option.bind_some, grow]
  have hbound : (n + (0 + 1)) * i.bytes ≤ 140737488355328 ∧ n + (0 + 1) ≤ 9223372036854775807 := by
    rw [hl, Nat.mul_add] at hlim
    rw [Nat.zero_add]
    omega
  rw [if_pos hbound]
  refine .mk ⟨.inr ⟨(H.new [v] e).next, n + (0 + 1), by rw [hzp], by omega, by simp [hl], by simp [AH.new, setM_same], Nat.le_trans he.next (Nat.le_succ _)⟩, (he.new _ _).new _ _⟩
end Go.Ri
set_option linter.unusedVariables false
set_option linter.unusedSimpArgs false
set_option maxRecDepth 100000
namespace Go.Proofs.YthiflgncldmkjaaDoor
open Go.Ri
noncomputable def body23 (call : CallF) (s54 : St) : Option (Ex × St) :=
    (aBin Tryd.prog .lss 3 (s54.1 45) (.int .i64 2)).bind fun v57 =>
    (asB v57).bind fun b58 => if b58 = true then
     (jn (
      (idxAgg Tryd.prog 2 2 1 (s54.1 44) (s54.1 45)).bind fun v59 =>
      (aBin Tryd.prog .lss 3 (s54.1 45) (s54.1 5)).bind fun v60 =>
      (asB v60).bind fun b61 => if b61 = true then
       ((call 62 [v59] s54.2).bind fun r62 =>
       (nBuildSlice Tryd.prog 90 1 [(0, r62.1)]).bind fun nb63 =>
       (aAppend Tryd.prog 90 90 (s54.1 4) (nb63.val r62.2.next) (r62.2.new nb63.cells nb63.elem)).bind fun r64 =>
       some (.inl ((updL s54.1 [(46, v57), (47, (s54.1 45)), (48, v59), (6, (s54.1 45)), (7, v59), (49, (s54.1 45)), (50, (s54.1 5)), (51, v60), (52, (s54.1 4)), (53, v59), (54, r62.1), (55, (nb63.val r62.2.next)), (56, r64.1), (4, r64.1)]), r64.2)))
      else
       (some (.inl ((updL s54.1 [(46, v57), (47, (s54.1 45)), (48, v59), (6, (s54.1 45)), (7, v59), (49, (s54.1 45)), (50, (s54.1 5)), (51, v60)]), s54.2))))
     fun T65 H66 =>
     (aBin Tryd.prog .add 3 (T65 45) (.int .i64 1)).bind fun v67 =>
      some (.normal, (updL T65 [(57, v67), (45, v67)]), H66))
    else
     (some (.exit 0, (updL s54.1 [(46, v57)]), s54.2))
end Go.Proofs.YthiflgncldmkjaaDoor
