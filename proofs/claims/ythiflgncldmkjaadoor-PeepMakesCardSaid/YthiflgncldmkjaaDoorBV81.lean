/- Part 1 of the proof that: Any codes are made short, or refused, as the document says (PeepMakes): for every input the law returns true, and the input reads as it did. Condition: the two tables of package code start as the program's text lays them (the row's own). -/
import Derived.Test.YthiflgncldmkjaaDoorBV80
import Derived.Test.YthiflgncldmkjaaDoorProg
set_option linter.unusedVariables false
set_option linter.unusedSimpArgs false
namespace Go.Ri

mutual
def eqA : AV → AV → Bool
  | .bool a => fun | .bool b => a == b | _ => false
  | .int k n => fun | .int l m => decide (k = l) && decide (n = m) | _ => false
  | .str a => fun | .str b => decide (a = b) | _ => false
  | .ptr a => fun | .ptr b => decide (a = b) | _ => false
  | .slice a n c => fun | .slice b m d => decide (a = b) && decide (n = m) && decide (c = d) | _ => false
  | .empty => fun | .empty => true | _ => false
  | .func f cs => fun | .func g ds => decide (f = g) && eqAs cs ds | _ => false
  | .nilFunc => fun | .nilFunc => true | _ => false
  | .agg cs => fun | .agg ds => eqAs cs ds | _ => false
  | .tuple cs => fun | .tuple ds => eqAs cs ds | _ => false
  | .other _ => fun _ => false
def eqAs : List AV → List AV → Bool
  | [] => fun | [] => true | _ => false
  | c :: cs => fun | d :: ds => eqA c d && eqAs cs ds | [] => false
end
mutual
theorem eqA_eq : ∀ (a b : AV), eqA a b = true → a = b
  | .bool a, b, h => by cases b <;> simp [eqA] at h; rw [h]
  | .int k n, b, h => by cases b <;> simp [eqA] at h; rw [h.1, h.2]
  | .str a, b, h => by cases b <;> simp [eqA] at h; rw [h]
  | .ptr a, b, h => by cases b <;> simp [eqA] at h; rw [h]
  | .slice a n c, b, h => by cases b <;> simp [eqA] at h; rw [h.1.1, h.1.2, h.2]
  | .empty, b, h => by cases b <;> simp [eqA] at h; rfl
  | .func f cs, b, h => by
    cases b with
    | func g ds => simp [eqA] at h; rw [h.1, eqAs_eq cs ds h.2]
    | _ => simp [eqA] at h
  | .nilFunc, b, h => by cases b <;> simp [eqA] at h; rfl
  | .agg cs, b, h => by
    cases b with
    | agg ds => simp [eqA] at h; rw [eqAs_eq cs ds h]
    | _ => simp [eqA] at h
  | .tuple cs, b, h => by
    cases b with
    | tuple ds => simp [eqA] at h; rw [eqAs_eq cs ds h]
    | _ => simp [eqA] at h
  | .other v, b, h => by simp [eqA] at h
theorem eqAs_eq : ∀ (a b : List AV), eqAs a b = true → a = b
  | [], b, h => by cases b <;> simp [eqAs] at h; rfl
  | c :: cs, b, h => by
    cases b with
    | nil => simp [eqAs] at h
    | cons d ds => simp [eqAs] at h; rw [eqA_eq c d h.1, eqAs_eq cs ds h.2]
end
def eqO : Option AV → Option AV → Bool
  | some a, some b => eqA a b
  | _, _ => false
theorem eqO_eq {a b : Option AV} (h : eqO a b = true) : a = b := by
  cases a <;> cases b <;> simp [eqO] at h
  rw [eqA_eq _ _ h]
def allB : List (Option AV × Option AV) → Bool
  | [] => true
  | (a, b) :: l => eqO a b && allB l
theorem allB_eq : ∀ {l}, allB l = true → allEq l
  | [], _ => trivial
  | (a, b) :: l, h => by
    simp only [allB, Bool.and_eq_true] at h
    exact ⟨eqO_eq h.1, allB_eq h.2⟩

section
variable {R : Type}
def drawGoB (P : Program) (nt : Nat) (call : CallF) (ops : Array Oper) (anc : List Nat) : List Oper → Nat → Nat → Tm → AH → Nat → List FL → List (Nat × AH × Nat) → List PL → List (Option AV × Option AV) → Option (Tm × AH)
  | [], _, _, T, G, mb, all, _, _, chks => if allB chks = true then some (T, addF (selR all mb) G) else none
  | o :: l, i, id, T, G, mb, all, vers, pend, chks => match dK o.op with
    | .pure => (gval ops T o (aLight P (evo P.globals.size T) o.op G)).bind fun v => (putA nt T o.dst v).bind fun T' =>
        drawGoB P nt call ops anc l (i + 1) id T' G mb all vers pend chks
    | .read => ((fun (V : AH × Nat) => gval ops T o (aLight P (evo P.globals.size T) o.op (addF (sel all (anc.getD i 0) V.2) V.1))) (G, mb)).bind fun v => (putA nt T o.dst v).bind fun T' =>
        drawGoB P nt call ops anc l (i + 1) id T' G mb all vers (⟨i, fun V => gval ops T o (aLight P (evo P.globals.size T) o.op (addF (sel all (anc.getD i 0) V.2) V.1)), v⟩ :: pend)
          (((vers.filter fun V => !((anc.getD i 0).testBit V.1)).map fun V => (gval ops T o (aLight P (evo P.globals.size T) o.op (addF (sel all (anc.getD i 0) V.2.2) V.2.1)), some v)) ++ chks)
    | .new => (aNew P (evo P.globals.size T) o.op).bind fun nb => (putA nt T o.dst (nb.val id)).bind fun T' =>
        drawGoB P nt call ops anc l (i + 1) (id + 1) T' G mb (all ++ [⟨i, id, ⟨nb.cells, nb.elem, true⟩⟩]) vers pend chks
    | .heavy => (gheavy ops T o (addF (sel all (anc.getD i 0) mb) G) (aHeavy P call (evo P.globals.size T) o.op (addF (sel all (anc.getD i 0) mb) G))).bind fun r => (putA nt T o.dst r.1).bind fun T' =>
        drawGoB P nt call ops anc l (i + 1) id T' r.2 (mb ||| anc.getD i 0) all ((i, G, mb) :: vers) pend
          (((pend.filter fun p => !((anc.getD i 0).testBit p.i)).map fun p => (p.f (r.2, mb ||| anc.getD i 0), some p.v)) ++ chks)
theorem drawGoB_eq {P : Program} {nt : Nat} {call : CallF} {ops : Array Oper} {anc : List Nat} {r : Tm × AH} : ∀ (l : List Oper) (i id : Nat) (T : Tm) (G : AH) (mb : Nat) (all : List FL) (vers : List (Nat × AH × Nat)) (pend : List PL) (chks : List (Option AV × Option AV)),
    drawGoB P nt call ops anc l i id T G mb all vers pend chks = some r → drawGo P nt call ops anc (fun T H => some (T, H)) l i id T G mb all vers pend chks = some r
  | [], i, id, T, G, mb, all, vers, pend, chks, h => by
    simp only [drawGoB] at h
    split at h
    · rename_i hb
      simp only [drawGo, chkL_eq]
      rw [chk_pos (allB_eq hb)]
      exact h
    · cases h
  | o :: l, i, id, T, G, mb, all, vers, pend, chks, h => by
    simp only [drawGoB] at h
    simp only [drawGo]
    cases hk : dK o.op <;> simp only [hk] at h ⊢ <;> simp only [Option.bind_eq_some_iff] at h ⊢
    all_goals
      obtain ⟨x, hx, T', hT, h⟩ := h
      exact ⟨x, hx, T', hT, drawGoB_eq l _ _ _ _ _ _ _ _ _ h⟩
end
def drawB (P : Program) : DrawG := fun nt call ops T H => if okD P ops (ancB ops.toList []) = true then
    drawGoB P nt call ops (ancB ops.toList []) ops.toList 0 H.next T { H with next := H.next + news ops.toList } 0 [] [] [] []
  else none
theorem drawB_ok {P : Program} {nt : Nat} {call : CallF} (hcall : CallOk P call) : DrawOk P nt (drawB P nt call) := by
  intro id ops ρ H w T T' H' a Q h ht hd hc hQ
  refine drawA_ok hcall id ops ρ H w T T' H' a Q h ht hd ?_ hQ
  simp only [drawB] at hc
  simp only [drawA, drawK]
  split at hc
  · rename_i hok
    rw [if_pos hok]
    exact drawGoB_eq _ _ _ _ _ _ _ _ _ _ hc
  · cases hc
theorem aCallB (P : Program) : ∀ n, CallOk P (aCall P (drawB P) n) := aCall_sound fun nt call h => drawB_ok h

def Ok1 (P : Program) (f : FuncId) (g : List AV → AH → Option (AV × AH)) : Prop := ∀ vs H v H', g vs H = some (v, H') →
  (∃ fn, P.funcs[f]? = some fn ∧ (fn.name == "runtime.NumGoroutine") = false ∧ fn.body.isNone = false) ∧
  ∀ ρ w us, Sim P ρ H w → relL ρ vs us → Calls P f us.toArray w fun e w' => ∃ ρ' v', e = .returned v' ∧ rel ρ' v v' ∧ Out P ρ H w ρ' H' w'
def addT (S : CallF) (f : FuncId) (g : List AV → AH → Option (AV × AH)) : CallF := fun f' vs H => if f' = f then g vs H else S f' vs H
def noT : CallF := fun _ _ _ => none
theorem noT_ok (P : Program) : CallOk P noT := fun f vs H v H' h => by cases h
theorem addT_ok {P : Program} {S : CallF} {f : FuncId} {g : List AV → AH → Option (AV × AH)} (hS : CallOk P S) (hg : Ok1 P f g) : CallOk P (addT S f g) := by
  intro f' vs H v H' h
  unfold addT at h
  split at h
  · rename_i e
    subst e
    exact hg vs H v H' h
  · exact hS f' vs H v H' h
theorem addT_at (S : CallF) (f : FuncId) (g : List AV → AH → Option (AV × AH)) (vs : List AV) (H : AH) : addT S f g f vs H = g vs H := if_pos rfl
theorem addT_ne (S : CallF) {f f' : FuncId} (g : List AV → AH → Option (AV × AH)) (vs : List AV) (H : AH) (h : f' ≠ f) : addT S f g f' vs H = S f' vs H := if_neg h

def flat : AV → Bool
  | .bool _ | .int _ _ | .str _ | .nilFunc | .other _ => true
  | .ptr none => true
  | .slice none _ (.kn _) => true
  | _ => false
def flatT : AV → Bool
  | .tuple vs => vs.all flat
  | .agg vs => vs.all flat
  | v => flat v
theorem rel_flat {ρ ρ' : Ro} {v : AV} {u : Value} (h : flat v = true) (hr : rel ρ v u) : rel ρ' v u := by
  cases v with
  | ptr a => cases a <;> simp [flat] at h; simpa [rel, cAddr] using hr
  | slice a n c => cases a <;> cases c <;> simp [flat] at h; simpa [rel, cAddr, cCap] using hr
  | empty => simp [flat] at h
  | func f cs => simp [flat] at h
  | agg cs => simp [flat] at h
  | tuple cs => simp [flat] at h
  | bool b => simpa [rel] using hr
  | int k n => simpa [rel] using hr
  | str s => simpa [rel] using hr
  | nilFunc => simpa [rel] using hr
  | other v => simpa [rel] using hr
theorem relL_flat {ρ ρ' : Ro} : ∀ {vs : List AV} {us : List Value}, vs.all flat = true → relL ρ vs us → relL ρ' vs us
  | [], us, _, hr => by simpa [relL] using hr
  | v :: vs, us, h, hr => by
    simp only [List.all_cons, Bool.and_eq_true] at h
    simp only [relL] at hr
    obtain ⟨x, y, hx, hy, rfl⟩ := hr
    exact relL_cons (rel_flat h.1 hx) (relL_flat h.2 hy)
theorem rel_flatT {ρ ρ' : Ro} {v : AV} {u : Value} (h : flatT v = true) (hr : rel ρ v u) : rel ρ' v u := by
  cases v with
  | tuple vs =>
    obtain ⟨us, hus, rfl⟩ := hr
    exact ⟨us, relL_flat h hus, rfl⟩
  | agg vs =>
    obtain ⟨h1, us, hus, rfl⟩ := hr
    exact ⟨h1, us, relL_flat h hus, rfl⟩
  | ptr a => exact rel_flat h hr
  | slice a n c => exact rel_flat h hr
  | empty => exact rel_flat h hr
  | func f cs => exact rel_flat h hr
  | bool b => exact rel_flat h hr
  | int k n => exact rel_flat h hr
  | str s => exact rel_flat h hr
  | nilFunc => exact rel_flat h hr
  | other v => exact rel_flat h hr

theorem cAddr_back {ρ ρ' : Ro} (h : ρ.le ρ') {a x y} (h0 : cAddr ρ a = some x) (h1 : cAddr ρ' a = some y) : cAddr ρ a = some y := by
  rw [cAddr_mono h h0] at h1
  rw [← h1, h0]
theorem cCap_back {ρ ρ' : Ro} (h : ρ.le ρ') {a c x y} (h0 : cCap ρ a c = some x) (h1 : cCap ρ' a c = some y) : cCap ρ a c = some y := by
  rw [cCap_mono h h0] at h1
  rw [← h1, h0]
mutual
theorem rel_back {ρ ρ' : Ro} (h : ρ.le ρ') : ∀ (c : AV) {u v}, rel ρ c u → rel ρ' c v → rel ρ c v
  | .bool _, _, _, _, e => by simpa [rel] using e
  | .int _ _, _, _, _, e => by simpa [rel] using e
  | .str _, _, _, _, e => by simpa [rel] using e
  | .ptr a, u, v, g, e => by
    simp only [rel] at g e ⊢
    obtain ⟨x, hx, rfl⟩ := e
    obtain ⟨y, hy, rfl⟩ := g
    exact ⟨x, cAddr_back h hy hx, rfl⟩
  | .slice a n c, u, v, g, e => by
    simp only [rel] at g e ⊢
    obtain ⟨x, y, hx, hy, hn, rfl⟩ := e
    obtain ⟨x', y', hx', hy', hn', rfl⟩ := g
    exact ⟨x, y, cAddr_back h hx' hx, cCap_back h hy' hy, hn, rfl⟩
  | .empty, _, _, _, e => by simpa [rel] using e
  | .func f cs, u, v, g, e => by
    simp only [rel] at g e ⊢
    obtain ⟨x, hx, rfl⟩ := e
    obtain ⟨y, hy, rfl⟩ := g
    exact ⟨x, relL_back h cs hy hx, rfl⟩
  | .nilFunc, _, _, _, e => by simpa [rel] using e
  | .agg cs, u, v, g, e => by
    simp only [rel] at g e ⊢
    obtain ⟨h1, x, hx, rfl⟩ := e
    obtain ⟨_, y, hy, rfl⟩ := g
    exact ⟨h1, x, relL_back h cs hy hx, rfl⟩
  | .tuple cs, u, v, g, e => by
    simp only [rel] at g e ⊢
    obtain ⟨x, hx, rfl⟩ := e
    obtain ⟨y, hy, rfl⟩ := g
    exact ⟨x, relL_back h cs hy hx, rfl⟩
  | .other _, _, _, _, e => by simpa [rel] using e
theorem relL_back {ρ ρ' : Ro} (h : ρ.le ρ') : ∀ (cs : List AV) {us vs}, relL ρ cs us → relL ρ' cs vs → relL ρ cs vs
  | [], _, _, _, e => by simpa [relL] using e
  | c :: cs, us, vs, g, e => by
    simp only [relL] at g e ⊢
    obtain ⟨x, y, hx, hy, rfl⟩ := e
    obtain ⟨x', y', hx', hy', rfl⟩ := g
    exact ⟨x, y, rel_back h c hx' hx, relL_back h cs hy' hy, rfl⟩
end
theorem Out.forget {P : Program} {ρ ρ' : Ro} {H H' : AH} {w w' : World} (h : Sim P ρ H w) (o : Out P ρ H w ρ' H' w') (hs : ∀ b B, H.m b = some B → H'.m b = some B) : Out P ρ H w ρ H w' := by
  have hle := o.le h
  refine ⟨fun _ _ => rfl, Nat.le_refl _, ⟨fun b B hB => ?_, h.inj, h.fresh, h.glob⟩, o.os, o.tape, o.output, o.size, o.keep, fun b B r hB hr _ => ⟨b, B, r, hB, hr, rfl, id⟩⟩
  obtain ⟨r, cs, fr, vs, g1, g2, g3, g4, g5, g6⟩ := o.sim.blk b B (hs b B hB)
  obtain ⟨r0, cs0, fr0, vs0, k1, k2, k3, k4, k5, k6⟩ := h.blk b B hB
  rw [hle _ _ k1] at g1
  cases g1
  exact ⟨r, cs, fr, vs, k1, g2, g3, g4, relL_back hle _ k5 g5, g6⟩

def AH.wf (H : AH) : Prop := ∀ b B, H.m b = some B → b < H.next
def AH.sub (H H1 : AH) : Prop := ∀ b B, H.m b = some B → H1.m b = some B
def Fn1 (P : Program) (f : FuncId) : Prop := ∃ fn, P.funcs[f]? = some fn ∧ (fn.name == "runtime.NumGoroutine") = false ∧ fn.body.isNone = false
theorem ok1_flat {P : Program} {S : CallF} (hS : CallOk P S) {f : FuncId} (hfn : Fn1 P f) {g : List AV → AH → Option (AV × AH)}
    (h : ∀ vs H v H', g vs H = some (v, H') → H' = H ∧ flatT v = true ∧ (H.wf → ∃ n H1, aFun P (drawA P) S (iter n) f vs H = some (v, H1) ∧ H.sub H1)) : Ok1 P f g := by
  intro vs H v H' hg
  obtain ⟨rfl, hv, hr⟩ := h vs H v H' hg
  refine ⟨hfn, fun ρ w us hs hus => ?_⟩
  obtain ⟨n, H1, hrun, hsub⟩ := hr fun b B hB => hs.dom hB
  obtain ⟨h1, h2⟩ := aFun_sound (draw := drawA P) (n := n) hS (fun nt => drawA_ok hS) f vs H' v H1 hrun
  refine (h2 ρ w us hs hus).mono ?_
  rintro e w' ⟨ρ', v', rfl, hr, hout⟩
  exact ⟨ρ, v', rfl, rel_flatT hv hr, hout.forget hs hsub⟩

theorem Out.still {P : Program} {ρ : Ro} {H : AH} {w w' : World} (h : Sim P ρ H w) (h1 : w'.os = w.os) (h2 : w'.tape = w.tape) (h3 : w'.output = w.output) (h4 : w.heap.size ≤ w'.heap.size) (h5 : ∀ i, i < w.heap.size → w'.heap[i]? = w.heap[i]?) : Out P ρ H w ρ H w' := by
  refine ⟨fun _ _ => rfl, Nat.le_refl _, ⟨fun b B hB => ?_, h.inj, h.fresh, h.glob⟩, h1, h2, h3, h4, fun i hi _ => h5 i hi, fun b B r hB hr _ => ⟨b, B, r, hB, hr, rfl, id⟩⟩
  obtain ⟨r, cs, fr, vs, g1, g2, g3⟩ := h.blk b B hB
  exact ⟨r, cs, fr, vs, g1, by rw [h5 _ (Array.getElem?_eq_some_iff.1 g2).1]; exact g2, g3⟩

theorem ok1_small {P : Program} {f : FuncId} {vs : List AV} {v : AV} {n k : Nat} {m : Nat → Option Blk} {H1 : AH} (hv : flatT v = true) (hvs : vs.all flat = true) (hg : P.globals.size ≤ n)
    (hm : ∀ b B, m b = some B → b < n ∧ B.rw_ = false ∧ B.cells.all flat = true)
    (hrun : aCall P (drawB P) k f vs ⟨m, n⟩ = some (v, H1)) : Ok1 P f (fun us H => chk (us = vs ∧ n ≤ H.next ∧ (∀ b B, m b = some B → H.m b = some B)) (some (v, H))) := by
  intro us H v' H' hc
  obtain ⟨⟨rfl, hn, hsub⟩, e⟩ := chk_some hc
  cases e
  obtain ⟨h1, h2⟩ := aCallB P k f us _ v H1 hrun
  refine ⟨h1, fun ρ w xs hs hxs => ?_⟩
  have hs0 : Sim P (fun b => if b < n then ρ b else none) ⟨m, n⟩ w := by
    refine ⟨fun b B hB => ?_, fun b b' B B' r r' hB hB' hor hr hr' => ?_, fun b hb => ?_, fun g hgl => ?_⟩
    · obtain ⟨hb, hrw, hfl⟩ := hm b B hB
      obtain ⟨r, cs, fr, ws, g1, g2, g3, g4, g5, g6⟩ := hs.blk b B (hsub b B hB)
      exact ⟨r, cs, fr, ws, by simp only [if_pos hb]; exact g1, g2, g3, g4, relL_flat hfl g5, g6⟩
    · simp only [if_pos (hm b B hB).1] at hr
      simp only [if_pos (hm b' B' hB').1] at hr'
      exact hs.inj b b' B B' r r' (hsub b B hB) (hsub b' B' hB') hor hr hr'
    · exact if_neg (by simp only at hb; omega)
    · obtain ⟨l, hl⟩ := hs.glob g hgl
      exact ⟨l, by simp only [if_pos (show g < n by omega)]; exact hl⟩
  refine (h2 _ w xs hs0 (relL_flat hvs hxs)).mono ?_
  rintro e w' ⟨ρ', v', rfl, hr, hout⟩
  refine ⟨ρ, v', rfl, rel_flatT hv hr, .still hs hout.os hout.tape hout.output hout.size fun i hi => hout.keep i hi fun b B r hB hrw _ => ?_⟩
  rw [(hm b B hB).2.1] at hrw
  cases hrw
end Go.Ri
set_option linter.unusedVariables false
set_option maxRecDepth 100000
namespace Go.Proofs.YthiflgncldmkjaaDoor
open Go.Ri

noncomputable def F8 (call : CallF) (it : ItF) (x0 : AV) (x1 : AV) (H : AH) : Option (AV × AH) :=
 (call 31 [x0] H).bind fun r1 =>
 (asB r1.1).bind fun b2 => if b2 = true then
 ((call 32 [] r1.2).bind fun r3 =>
 some (r3.1, r3.2))
 else
 ((call 33 [x0, x1] r1.2).bind fun r4 =>
 (aExtract r4.1 0).bind fun v5 =>
 (aExtract r4.1 1).bind fun v6 =>
 (call 34 [x0, x1] r4.2).bind fun r7 =>
 (aExtract r7.1 0).bind fun v8 =>
 (aExtract r7.1 1).bind fun v9 =>
 (aBin Tryd.prog .eql 30 v6 v9).bind fun v10 =>
 ((gdv v10 true).bind fun g11 => if g11 = true then (some v5) else some (.tuple [])).bind fun v12 =>
 ((gdv v10 true).bind fun g13 => if g13 = true then (some v8) else some (.tuple [])).bind fun v14 =>
 ((gdv v10 true).bind fun g15 => if g15 = true then (call 35 [v12, v14] r7.2) else some (.tuple [], r7.2)).bind fun r16 =>
 ((asB v10).bind fun b17 => if b17 = true then some r16.1 else some (.bool false)).bind fun v18 =>
 ((gdv v18 true).bind fun g19 => if g19 = true then (call 32 [] r16.2) else some (.tuple [], r16.2)).bind fun r20 =>
 ((asB v18).bind fun b21 => if b21 = true then some r20.1 else some (.bool false)).bind fun v22 =>
 some (v22, r20.2))
theorem F8_eq (call : CallF) (it : ItF) (x0 : AV) (x1 : AV) (H : AH) : aFun Tryd.prog (drawA Tryd.prog) call it 8 [x0, x1] H = F8 call it x0 x1 H :=
 (aFun_eq Tryd.func8 rfl (by kernel_rfl) _ H (Nat.le_of_ble_eq_true (by kernel_rfl))).trans (by kernel_rfl)

end Go.Proofs.YthiflgncldmkjaaDoor
set_option linter.unusedVariables false
set_option maxRecDepth 100000
namespace Go.Proofs.YthiflgncldmkjaaDoor
open Go.Ri

noncomputable def F23_J0 (call : CallF) (it : ItF) (T65 : Tm) (H66 : AH) : Option (Ex × St) :=
 (aBin Tryd.prog .add 3 (T65 45) (.int .i64 1)).bind fun v67 =>
 some (.normal, (updL T65 [(57, v67), (45, v67)]), H66)
noncomputable def F23_L1 (call : CallF) (it : ItF) (s54 : St) : Option (Ex × St) :=
 (aBin Tryd.prog .lss 3 (s54.1 45) (.int .i64 2)).bind fun v57 =>
 (asB v57).bind fun b58 => if b58 = true then
 (jn (
 (idxAgg Tryd.prog 2 2 1 (s54.1 44) (s54.1 45)).bind fun v59 =>
 (aBin Tryd.prog .lss 3 (s54.1 45) (s54.1 5)).bind fun v60 =>
 (asB v60).bind fun b61 => if b61 = true then
 ((call 62 [v59] s54.2).bind fun r62 =>
 (nBuildSlice Tryd.prog 90 1 [(0, r62.1)]).bind fun nb63 =>
 (aAppend Tryd.prog 90 90 (s54.1 4) (nb63.val r62.2.next) (r62.2.new nb63.cells nb63.elem)).bind fun r64 =>
 some (.inl ((updL s54.1 [(46, v57), (47, (s54.1 45)), (48, v59), (6, (s54.1 45)), (7, v59), (49, (s54.1 45)), (50, (s54.1 5)), (51, v60), (52, (s54.1 4)), (53, v59), (54, r62.1), (55, (nb63.val r62.2.next)), (56, r64.1), (4, r64.1)]), r64.2)))
 else
 (some (.inl ((updL s54.1 [(46, v57), (47, (s54.1 45)), (48, v59), (6, (s54.1 45)), (7, v59), (49, (s54.1 45)), (50, (s54.1 5)), (51, v60)]), s54.2))))
 (F23_J0 call it))
 else
 (some (.exit 0, (updL s54.1 [(46, v57)]), s54.2))
noncomputable def F23 (call : CallF) (it : ItF) (x0 : AV) (H : AH) : Option (AV × AH) :=
 (nBox 29 x0).bind fun nb1 =>
 (ptrAdd (nb1.val H.next) 0).bind fun v2 =>
 (ldOne v2 (H.new nb1.cells nb1.elem)).bind fun v3 =>
 (aBin Tryd.prog .lss 3 v3 (.int .i64 1)).bind fun v4 =>
 ((gdv v4 false).bind fun g5 => if g5 = true then (ptrAdd (nb1.val H.next) 0) else some (.tuple [])).bind fun v6 =>
 ((gdv v4 false).bind fun g7 => if g7 = true then (ldOne v6 (H.new nb1.cells nb1.elem)) else some (.tuple [])).bind fun v8 =>
 ((gdv v4 false).bind fun g9 => if g9 = true then (aBin Tryd.prog .gtr 3 v8 (.int .i64 25)) else some (.tuple [])).bind fun v10 =>
 ((asB v4).bind fun b11 => if b11 = true then some (.bool true) else some v10).bind fun v12 =>
 (asB v12).bind fun b13 => if b13 = true then
 (some ((.tuple [(.str ⟨#[]⟩), (.int .i64 61)]), (H.new nb1.cells nb1.elem)))
 else
 ((ptrAdd (nb1.val H.next) 0).bind fun v14 =>
 (ldOne v14 (H.new nb1.cells nb1.elem)).bind fun v15 =>
 (idxPtr (.ptr (some (0, 0))) v15 26 1).bind fun v16 =>
 (ldOne v16 (H.new nb1.cells nb1.elem)).bind fun v17 =>
 (nBuildSlice Tryd.prog 90 1 [(0, v17)]).bind fun nb18 =>
 (ptrAdd (nb1.val H.next) 0).bind fun v19 =>
 (ldOne v19 ((H.new nb1.cells nb1.elem).new nb18.cells nb18.elem)).bind fun v20 =>
 (call 65 [v20] ((H.new nb1.cells nb1.elem).new nb18.cells nb18.elem)).bind fun r21 =>
 (aBin Tryd.prog .lss 3 r21.1 (.int .i64 1)).bind fun v22 =>
 ((gdv v22 true).bind fun g23 => if g23 = true then (ptrAdd (nb1.val H.next) 1) else some (.tuple [])).bind fun v24 =>
 ((gdv v22 true).bind fun g25 => if g25 = true then (ldOne v24 r21.2) else some (.tuple [])).bind fun v26 =>
 ((gdv v22 true).bind fun g27 => if g27 = true then (aBin Tryd.prog .neq 2 v26 (.int .i64 0)) else some (.tuple [])).bind fun v28 =>
 ((asB v22).bind fun b29 => if b29 = true then some v28 else some (.bool false)).bind fun v30 =>
 ((gdv v30 false).bind fun g31 => if g31 = true then (some r21.1) else some (.tuple [])).bind fun v32 =>
 ((gdv v30 false).bind fun g33 => if g33 = true then (aBin Tryd.prog .lss 3 v32 (.int .i64 2)) else some (.tuple [])).bind fun v34 =>
 ((gdv v30 false).bind fun g35 => if g35 = true then (some v34) else some (.tuple [])).bind fun v36 =>
 ((gdv v36 true).bind fun g37 => if g37 = true then (ptrAdd (nb1.val H.next) 2) else some (.tuple [])).bind fun v38 =>
 ((gdv v36 true).bind fun g39 => if g39 = true then (ldOne v38 r21.2) else some (.tuple [])).bind fun v40 =>
 ((gdv v36 true).bind fun g41 => if g41 = true then (aBin Tryd.prog .neq 2 v40 (.int .i64 0)) else some (.tuple [])).bind fun v42 =>
 ((gdv v30 false).bind fun g44 => if g44 = true then ((asB v36).bind fun b43 => if b43 = true then some v42 else some (.bool false)) else some (.tuple [])).bind fun v45 =>
 ((asB v30).bind fun b46 => if b46 = true then some (.bool true) else some v45).bind fun v47 =>
 (asB v47).bind fun b48 => if b48 = true then
 (some ((.tuple [(.str ⟨#[]⟩), (.int .i64 61)]), r21.2))
 else
 ((ptrAdd (nb1.val H.next) 1).bind fun v49 =>
 (ldOne v49 r21.2).bind fun v50 =>
 (ptrAdd (nb1.val H.next) 2).bind fun v51 =>
 (ldOne v51 r21.2).bind fun v52 =>
 (aBuild Tryd.prog 91 [(0, v50), (1, v52)]).bind fun v53 =>
 (it (F23_L1 call it) ((updL (T0 [x0]) [(1, (nb1.val H.next)), (2, (.str ⟨#[]⟩)), (3, (.int .i64 0)), (8, v2), (9, v3), (10, v4), (11, v4), (12, v6), (13, v8), (14, v10), (15, v12), (16, v14), (17, v15), (18, v16), (19, v17), (20, (nb18.val (H.new nb1.cells nb1.elem).next)), (4, (nb18.val (H.new nb1.cells nb1.elem).next)), (21, v19), (22, v20), (23, r21.1), (5, r21.1), (24, r21.1), (25, v22), (26, v22), (27, v24), (28, v26), (29, v28), (30, v30), (31, v30), (32, v32), (33, v34), (34, v36), (35, v38), (36, v40), (37, v42), (38, v45), (39, v47), (40, v49), (41, v50), (42, v51), (43, v52), (44, v53), (45, (.int .i64 0))]), r21.2)).bind fun r55 => match r55.1 with
 | .normal => none
 | .exit j56 => if j56 = 0 then
 ((call 66 [(r55.2.1 4)] r55.2.2).bind fun r68 =>
 some ((.tuple [r68.1, (.int .i64 0)]), r68.2))
 else
 (none)
 | .ret => some ((.tuple [(r55.2.1 2), (r55.2.1 3)]), r55.2.2)))
theorem F23_eq (call : CallF) (it : ItF) (x0 : AV) (H : AH) : aFun Tryd.prog (drawA Tryd.prog) call it 23 [x0] H = F23 call it x0 H :=
 (aFun_eq Tryd.func23 rfl (by kernel_rfl) _ H (Nat.le_of_ble_eq_true (by kernel_rfl))).trans (by kernel_rfl)

end Go.Proofs.YthiflgncldmkjaaDoor
set_option linter.unusedVariables false
set_option maxRecDepth 100000
namespace Go.Proofs.YthiflgncldmkjaaDoor
open Go.Ri

noncomputable def F26_L0 (call : CallF) (it : ItF) (s1 : St) : Option (Ex × St) :=
 (aLen Tryd.prog 36 (s1.1 0)).bind fun v4 =>
 (aBin Tryd.prog .lss 3 (s1.1 6) v4).bind fun v5 =>
 ((gdv v5 true).bind fun g6 => if g6 = true then (some (s1.1 5)) else some (.tuple [])).bind fun v7 =>
 ((gdv v5 true).bind fun g8 => if g8 = true then (some (s1.1 1)) else some (.tuple [])).bind fun v9 =>
 ((gdv v5 true).bind fun g10 => if g10 = true then (aBin Tryd.prog .leq 3 v7 v9) else some (.tuple [])).bind fun v11 =>
 ((asB v5).bind fun b12 => if b12 = true then some v11 else some (.bool false)).bind fun v13 =>
 (asB v13).bind fun b14 => if b14 = true then
 ((aBin Tryd.prog .add 3 (s1.1 5) (.int .i64 1)).bind fun v15 =>
 (idxSl (s1.1 0) (s1.1 6) 4).bind fun v16 =>
 (ptrAdd v16 0).bind fun v17 =>
 (ldOne v17 s1.2).bind fun v18 =>
 (aLen Tryd.prog 22 v18).bind fun v19 =>
 (aBin Tryd.prog .add 3 v15 v19).bind fun v20 =>
 (aBin Tryd.prog .add 3 (s1.1 6) (.int .i64 1)).bind fun v21 =>
 some (.normal, (updL s1.1 [(7, (s1.1 6)), (8, (s1.1 0)), (9, v4), (10, v5), (11, v5), (12, v7), (13, v9), (14, v11), (15, v13), (18, (s1.1 5)), (19, v15), (20, (s1.1 0)), (21, (s1.1 6)), (22, v16), (23, v17), (24, v18), (25, v19), (26, v20), (5, v20), (16, (s1.1 6)), (17, v21), (6, v21)]), s1.2))
 else
 (some (.exit 0, (updL s1.1 [(7, (s1.1 6)), (8, (s1.1 0)), (9, v4), (10, v5), (11, v5), (12, v7), (13, v9), (14, v11), (15, v13)]), s1.2))
noncomputable def F26 (call : CallF) (it : ItF) (x0 : AV) (x1 : AV) (H : AH) : Option (AV × AH) :=
 (it (F26_L0 call it) ((updL (T0 [x0, x1]) [(4, (.int .i64 0)), (5, (.int .i64 0)), (6, (.int .i64 0))]), H)).bind fun r2 => match r2.1 with
 | .normal => none
 | .exit j3 => if j3 = 0 then
 (some ((r2.2.1 5), r2.2.2))
 else
 (none)
 | .ret => some ((r2.2.1 4), r2.2.2)
theorem F26_eq (call : CallF) (it : ItF) (x0 : AV) (x1 : AV) (H : AH) : aFun Tryd.prog (drawA Tryd.prog) call it 26 [x0, x1] H = F26 call it x0 x1 H :=
 (aFun_eq Tryd.func26 rfl (by kernel_rfl) _ H (Nat.le_of_ble_eq_true (by kernel_rfl))).trans (by kernel_rfl)

noncomputable def F27_L0 (call : CallF) (it : ItF) (s55 : St) : Option (Ex × St) :=
 (aBin Tryd.prog .lss 3 (s55.1 43) (s55.1 42)).bind fun v58 =>
 (asB v58).bind fun b59 => if b59 = true then
 ((call 28 [(s55.1 0), (s55.1 43)] s55.2).bind fun r60 =>
 (aExtract r60.1 0).bind fun v61 =>
 (aExtract r60.1 1).bind fun v62 =>
 (aUn .not v62).bind fun v63 =>
 (asB v63).bind fun b64 => if b64 = true then
 (some (.ret, (updL s55.1 [(44, v58), (45, (s55.1 43)), (5, (s55.1 43)), (47, (s55.1 0)), (48, (s55.1 43)), (49, r60.1), (46, r60.1), (50, v61), (51, v62), (6, v61), (7, v62), (52, v62), (53, v63), (4, (.bool false))]), r60.2))
 else
 ((aBin Tryd.prog .add 3 (s55.1 43) (.int .i64 1)).bind fun v65 =>
 some (.normal, (updL s55.1 [(44, v58), (45, (s55.1 43)), (5, (s55.1 43)), (47, (s55.1 0)), (48, (s55.1 43)), (49, r60.1), (46, r60.1), (50, v61), (51, v62), (6, v61), (7, v62), (52, v62), (53, v63), (54, v65), (43, v65)]), r60.2)))
 else
 (some (.exit 0, (updL s55.1 [(44, v58)]), s55.2))
noncomputable def F27 (call : CallF) (it : ItF) (x0 : AV) (x1 : AV) (H : AH) : Option (AV × AH) :=
 (aLen Tryd.prog 36 x0).bind fun v1 =>
 (aBin Tryd.prog .lss 3 v1 (.int .i64 1)).bind fun v2 =>
 ((gdv v2 false).bind fun g3 => if g3 = true then (some x0) else some (.tuple [])).bind fun v4 =>
 ((gdv v2 false).bind fun g5 => if g5 = true then (aLen Tryd.prog 36 v4) else some (.tuple [])).bind fun v6 =>
 ((gdv v2 false).bind fun g7 => if g7 = true then (aBin Tryd.prog .gtr 3 v6 (.int .i64 40)) else some (.tuple [])).bind fun v8 =>
 ((asB v2).bind fun b9 => if b9 = true then some (.bool true) else some v8).bind fun v10 =>
 ((gdv v10 false).bind fun g11 => if g11 = true then (some x1) else some (.tuple [])).bind fun v12 =>
 ((gdv v10 false).bind fun g13 => if g13 = true then (aBin Tryd.prog .lss 3 v12 (.int .i64 0)) else some (.tuple [])).bind fun v14 =>
 ((asB v10).bind fun b15 => if b15 = true then some (.bool true) else some v14).bind fun v16 =>
 ((gdv v16 false).bind fun g17 => if g17 = true then (some x1) else some (.tuple [])).bind fun v18 =>
 ((gdv v16 false).bind fun g19 => if g19 = true then (some x0) else some (.tuple [])).bind fun v20 =>
 ((gdv v16 false).bind fun g21 => if g21 = true then (aLen Tryd.prog 36 v20) else some (.tuple [])).bind fun v22 =>
 ((gdv v16 false).bind fun g23 => if g23 = true then (aBin Tryd.prog .geq 3 v18 v22) else some (.tuple [])).bind fun v24 =>
 ((asB v16).bind fun b25 => if b25 = true then some (.bool true) else some v24).bind fun v26 =>
 ((gdv v26 false).bind fun g27 => if g27 = true then (some x0) else some (.tuple [])).bind fun v28 =>
 ((gdv v26 false).bind fun g29 => if g29 = true then (some x1) else some (.tuple [])).bind fun v30 =>
 ((gdv v26 false).bind fun g31 => if g31 = true then (idxSl v28 v30 4) else some (.tuple [])).bind fun v32 =>
 ((gdv v26 false).bind fun g33 => if g33 = true then (ptrAdd v32 2) else some (.tuple [])).bind fun v34 =>
 ((gdv v26 false).bind fun g35 => if g35 = true then (ldOne v34 H) else some (.tuple [])).bind fun v36 =>
 ((gdv v26 false).bind fun g37 => if g37 = true then (aBin Tryd.prog .neq 3 v36 (.int .i64 0)) else some (.tuple [])).bind fun v38 =>
 ((asB v26).bind fun b39 => if b39 = true then some (.bool true) else some v38).bind fun v40 =>
 ((gdv v40 false).bind fun g41 => if g41 = true then (some x0) else some (.tuple [])).bind fun v42 =>
 ((gdv v40 false).bind fun g43 => if g43 = true then (some x1) else some (.tuple [])).bind fun v44 =>
 ((gdv v40 false).bind fun g45 => if g45 = true then (idxSl v42 v44 4) else some (.tuple [])).bind fun v46 =>
 ((gdv v40 false).bind fun g47 => if g47 = true then (ptrAdd v46 3) else some (.tuple [])).bind fun v48 =>
 ((gdv v40 false).bind fun g49 => if g49 = true then (ldOne v48 H) else some (.tuple [])).bind fun v50 =>
 ((asB v40).bind fun b51 => if b51 = true then some (.bool true) else some v50).bind fun v52 =>
 (asB v52).bind fun b53 => if b53 = true then
 (some ((.bool false), H))
 else
 ((aLen Tryd.prog 36 x0).bind fun v54 =>
 (it (F27_L0 call it) ((updL (T0 [x0, x1]) [(4, (.bool false)), (8, x0), (9, v1), (10, v2), (11, v2), (12, v4), (13, v6), (14, v8), (15, v10), (16, v10), (17, v12), (18, v14), (19, v16), (20, v16), (21, v18), (22, v20), (23, v22), (24, v24), (25, v26), (26, v26), (27, v28), (28, v30), (29, v32), (30, v34), (31, v36), (32, v38), (33, v40), (34, v40), (35, v42), (36, v44), (37, v46), (38, v48), (39, v50), (40, v52), (41, x0), (42, v54), (43, (.int .i64 0))]), H)).bind fun r56 => match r56.1 with
 | .normal => none
 | .exit j57 => if j57 = 0 then
 (some ((.bool true), r56.2.2))
 else
 (none)
 | .ret => some ((r56.2.1 4), r56.2.2))
theorem F27_eq (call : CallF) (it : ItF) (x0 : AV) (x1 : AV) (H : AH) : aFun Tryd.prog (drawA Tryd.prog) call it 27 [x0, x1] H = F27 call it x0 x1 H :=
 (aFun_eq Tryd.func27 rfl (by kernel_rfl) _ H (Nat.le_of_ble_eq_true (by kernel_rfl))).trans (by kernel_rfl)

noncomputable def F28 (call : CallF) (it : ItF) (x0 : AV) (x1 : AV) (H : AH) : Option (AV × AH) :=
 (aBin Tryd.prog .lss 3 x1 (.int .i64 0)).bind fun v1 =>
 ((gdv v1 false).bind fun g2 => if g2 = true then (some x1) else some (.tuple [])).bind fun v3 =>
 ((gdv v1 false).bind fun g4 => if g4 = true then (some x0) else some (.tuple [])).bind fun v5 =>
 ((gdv v1 false).bind fun g6 => if g6 = true then (aLen Tryd.prog 36 v5) else some (.tuple [])).bind fun v7 =>
 ((gdv v1 false).bind fun g8 => if g8 = true then (aBin Tryd.prog .geq 3 v3 v7) else some (.tuple [])).bind fun v9 =>
 ((asB v1).bind fun b10 => if b10 = true then some (.bool true) else some v9).bind fun v11 =>
 (asB v11).bind fun b12 => if b12 = true then
 (some ((.tuple [(.slice none 0 (.kn 0)), (.bool false)]), H))
 else
 ((idxSl x0 x1 4).bind fun v13 =>
 (ldAgg v13 4 H).bind fun v14 =>
 (aBuild Tryd.prog 100 [(0, x0), (1, v14)]).bind fun v15 =>
 (nBox 100 v15).bind fun nb16 =>
 (call 69 [(nb16.val H.next)] (H.new nb16.cells nb16.elem)).bind fun r17 =>
 (aUn .not r17.1).bind fun v18 =>
 (asB v18).bind fun b19 => if b19 = true then
 (some ((.tuple [(.slice none 0 (.kn 0)), (.bool false)]), r17.2))
 else
 ((nilC (nb16.val H.next)).bind fun v20 =>
 (ptrAdd v20 5).bind fun v21 =>
 (ldOne v21 r17.2).bind fun v22 =>
 some ((.tuple [v22, (.bool true)]), r17.2)))
theorem F28_eq (call : CallF) (it : ItF) (x0 : AV) (x1 : AV) (H : AH) : aFun Tryd.prog (drawA Tryd.prog) call it 28 [x0, x1] H = F28 call it x0 x1 H :=
 (aFun_eq Tryd.func28 rfl (by kernel_rfl) _ H (Nat.le_of_ble_eq_true (by kernel_rfl))).trans (by kernel_rfl)

noncomputable def F29_J0 (call : CallF) (it : ItF) (T161 : Tm) (H162 : AH) : Option (Ex × St) :=
 (idxSl (T161 14) (T161 15) 1).bind fun v163 =>
 (ldOne v163 H162).bind fun v164 =>
 (idxSl (T161 7) v164 1).bind fun v165 =>
 (ldOne v165 H162).bind fun v166 =>
 (idxSl (T161 7) (T161 10) 1).bind fun v167 =>
 (ldOne v167 H162).bind fun v168 =>
 (aBin Tryd.prog .sub 3 v168 (T161 12)).bind fun v169 =>
 (aBin Tryd.prog .add 3 v169 (T161 13)).bind fun v170 =>
 (aBin Tryd.prog .neq 3 v166 v170).bind fun v171 =>
 (asB v171).bind fun b172 => if b172 = true then
 (some (.ret, (updL T161 [(148, (T161 7)), (149, (T161 14)), (150, (T161 15)), (151, v163), (152, v164), (153, v165), (154, v166), (155, (T161 7)), (156, (T161 10)), (157, v167), (158, v168), (159, (T161 12)), (160, v169), (161, (T161 13)), (162, v170), (163, v171), (4, (.slice none 0 (.kn 0))), (5, (.bool false))]), H162))
 else
 ((aBin Tryd.prog .add 3 (T161 15) (.int .i64 1)).bind fun v173 =>
 some (.normal, (updL T161 [(148, (T161 7)), (149, (T161 14)), (150, (T161 15)), (151, v163), (152, v164), (153, v165), (154, v166), (155, (T161 7)), (156, (T161 10)), (157, v167), (158, v168), (159, (T161 12)), (160, v169), (161, (T161 13)), (162, v170), (163, v171), (117, (T161 15)), (118, v173), (15, v173)]), H162))
noncomputable def F29_L1 (call : CallF) (it : ItF) (s136 : St) : Option (Ex × St) :=
 (aLen Tryd.prog 40 (s136.1 14)).bind fun v139 =>
 (aBin Tryd.prog .lss 3 (s136.1 15) v139).bind fun v140 =>
 (asB v140).bind fun b141 => if b141 = true then
 ((idxSl (s136.1 14) (s136.1 15) 1).bind fun v142 =>
 (ldOne v142 s136.2).bind fun v143 =>
 (aLen Tryd.prog 40 (s136.1 7)).bind fun v144 =>
 (aBin Tryd.prog .geq 3 v143 v144).bind fun v145 =>
 (asB v145).bind fun b146 => if b146 = true then
 (some (.ret, (updL s136.1 [(113, (s136.1 15)), (114, (s136.1 14)), (115, v139), (116, v140), (119, (s136.1 14)), (120, (s136.1 15)), (121, v142), (122, v143), (123, (s136.1 7)), (124, v144), (125, v145), (4, (.slice none 0 (.kn 0))), (5, (.bool false))]), s136.2))
 else
 (jn (
 (idxSl (s136.1 14) (s136.1 15) 1).bind fun v147 =>
 (ldOne v147 s136.2).bind fun v148 =>
 (idxSl (s136.1 7) v148 1).bind fun v149 =>
 (ldOne v149 s136.2).bind fun v150 =>
 (aBin Tryd.prog .lss 3 v150 (.int .i64 0)).bind fun v151 =>
 (asB v151).bind fun b152 => if b152 = true then
 ((idxSl (s136.1 14) (s136.1 15) 1).bind fun v153 =>
 (ldOne v153 s136.2).bind fun v154 =>
 (idxSl (s136.1 7) (s136.1 10) 1).bind fun v155 =>
 (ldOne v155 s136.2).bind fun v156 =>
 (aBin Tryd.prog .sub 3 v156 (s136.1 12)).bind fun v157 =>
 (aBin Tryd.prog .add 3 v157 (s136.1 13)).bind fun v158 =>
 (idxSl (s136.1 7) v154 1).bind fun v159 =>
 ((aStore Tryd.prog 3 v159 v158 s136.2).map fun H' => ((.tuple [] : AV), H')).bind fun r160 =>
 some (.inl ((updL s136.1 [(113, (s136.1 15)), (114, (s136.1 14)), (115, v139), (116, v140), (119, (s136.1 14)), (120, (s136.1 15)), (121, v142), (122, v143), (123, (s136.1 7)), (124, v144), (125, v145), (126, (s136.1 7)), (127, (s136.1 14)), (128, (s136.1 15)), (129, v147), (130, v148), (131, v149), (132, v150), (133, v151), (134, (s136.1 7)), (135, (s136.1 14)), (136, (s136.1 15)), (137, v153), (138, v154), (139, (s136.1 7)), (140, (s136.1 10)), (141, v155), (142, v156), (143, (s136.1 12)), (144, v157), (145, (s136.1 13)), (146, v158), (147, v159), (9, (.bool true))]), r160.2)))
 else
 (some (.inl ((updL s136.1 [(113, (s136.1 15)), (114, (s136.1 14)), (115, v139), (116, v140), (119, (s136.1 14)), (120, (s136.1 15)), (121, v142), (122, v143), (123, (s136.1 7)), (124, v144), (125, v145), (126, (s136.1 7)), (127, (s136.1 14)), (128, (s136.1 15)), (129, v147), (130, v148), (131, v149), (132, v150), (133, v151)]), s136.2))))
 (F29_J0 call it)))
 else
 (some (.exit 6, (updL s136.1 [(113, (s136.1 15)), (114, (s136.1 14)), (115, v139), (116, v140)]), s136.2))
noncomputable def F29_J2 (call : CallF) (it : ItF) (T174 : Tm) (H175 : AH) : Option (Ex × St) :=
 (aBin Tryd.prog .add 3 (T174 10) (.int .i64 1)).bind fun v176 =>
 some (.normal, (updL T174 [(54, (T174 10)), (55, v176), (10, v176)]), H175)
noncomputable def F29_L3 (call : CallF) (it : ItF) (s50 : St) : Option (Ex × St) :=
 (aLen Tryd.prog 40 (s50.1 7)).bind fun v53 =>
 (aBin Tryd.prog .lss 3 (s50.1 10) v53).bind fun v54 =>
 (asB v54).bind fun b55 => if b55 = true then
 (jn (
 (idxSl (s50.1 7) (s50.1 10) 1).bind fun v56 =>
 (ldOne v56 s50.2).bind fun v57 =>
 (aBin Tryd.prog .lss 3 v57 (.int .i64 0)).bind fun v58 =>
 (asB v58).bind fun b59 => if b59 = true then
 (some (.inl ((updL s50.1 [(50, (s50.1 10)), (51, (s50.1 7)), (52, v53), (53, v54), (56, (s50.1 7)), (57, (s50.1 10)), (58, v56), (59, v57), (60, v58)]), s50.2)))
 else
 ((ptrAdd (s50.1 6) 0).bind fun v60 =>
 (ldOne v60 s50.2).bind fun v61 =>
 (idxSl v61 (s50.1 10) 3).bind fun v62 =>
 (ldAgg v62 3 s50.2).bind fun v63 =>
 (nAlloc Tryd.prog 29).bind fun nb64 =>
 ((aStore Tryd.prog 29 (nb64.val s50.2.next) v63 (s50.2.new nb64.cells nb64.elem)).map fun H' => ((.tuple [] : AV), H')).bind fun r65 =>
 (ldAgg (nb64.val s50.2.next) 3 r65.2).bind fun v66 =>
 (call 71 [(s50.1 0), v66] r65.2).bind fun r67 =>
 (aExtract r67.1 0).bind fun v68 =>
 (aExtract r67.1 1).bind fun v69 =>
 (idxSl (s50.1 7) (s50.1 10) 1).bind fun v70 =>
 (ldOne v70 r67.2).bind fun v71 =>
 (aBin Tryd.prog .lss 3 v71 v68).bind fun v72 =>
 ((gdv v72 false).bind fun g73 => if g73 = true then (some (s50.1 7)) else some (.tuple [])).bind fun v74 =>
 ((gdv v72 false).bind fun g75 => if g75 = true then (some (s50.1 10)) else some (.tuple [])).bind fun v76 =>
 ((gdv v72 false).bind fun g77 => if g77 = true then (idxSl v74 v76 1) else some (.tuple [])).bind fun v78 =>
 ((gdv v72 false).bind fun g79 => if g79 = true then (ldOne v78 r67.2) else some (.tuple [])).bind fun v80 =>
 ((gdv v72 false).bind fun g81 => if g81 = true then (aBin Tryd.prog .gtr 3 v80 (.int .i64 4096)) else some (.tuple [])).bind fun v82 =>
 ((asB v72).bind fun b83 => if b83 = true then some (.bool true) else some v82).bind fun v84 =>
 ((gdv v84 false).bind fun g85 => if g85 = true then (ptrAdd (nb64.val s50.2.next) 0) else some (.tuple [])).bind fun v86 =>
 ((gdv v84 false).bind fun g87 => if g87 = true then (ldOne v86 r67.2) else some (.tuple [])).bind fun v88 =>
 ((gdv v84 false).bind fun g89 => if g89 = true then (aBin Tryd.prog .eql 3 v88 (.int .i64 24)) else some (.tuple [])).bind fun v90 =>
 ((gdv v84 false).bind fun g91 => if g91 = true then (some v90) else some (.tuple [])).bind fun v92 =>
 ((gdv v92 true).bind fun g93 => if g93 = true then (some (s50.1 7)) else some (.tuple [])).bind fun v94 =>
 ((gdv v92 true).bind fun g95 => if g95 = true then (some (s50.1 10)) else some (.tuple [])).bind fun v96 =>
 ((gdv v92 true).bind fun g97 => if g97 = true then (idxSl v94 v96 1) else some (.tuple [])).bind fun v98 =>
 ((gdv v92 true).bind fun g99 => if g99 = true then (ldOne v98 r67.2) else some (.tuple [])).bind fun v100 =>
 ((gdv v92 true).bind fun g101 => if g101 = true then (aBin Tryd.prog .neq 3 v100 (.int .i64 0)) else some (.tuple [])).bind fun v102 =>
 ((gdv v84 false).bind fun g104 => if g104 = true then ((asB v92).bind fun b103 => if b103 = true then some v102 else some (.bool false)) else some (.tuple [])).bind fun v105 =>
 ((asB v84).bind fun b106 => if b106 = true then some (.bool true) else some v105).bind fun v107 =>
 ((gdv v107 false).bind fun g108 => if g108 = true then (ptrAdd (nb64.val s50.2.next) 0) else some (.tuple [])).bind fun v109 =>
 ((gdv v107 false).bind fun g110 => if g110 = true then (ldOne v109 r67.2) else some (.tuple [])).bind fun v111 =>
 ((gdv v107 false).bind fun g112 => if g112 = true then (aBin Tryd.prog .eql 3 v111 (.int .i64 20)) else some (.tuple [])).bind fun v113 =>
 ((gdv v107 false).bind fun g114 => if g114 = true then (some v113) else some (.tuple [])).bind fun v115 =>
 ((gdv v115 true).bind fun g116 => if g116 = true then (some (s50.1 7)) else some (.tuple [])).bind fun v117 =>
 ((gdv v115 true).bind fun g118 => if g118 = true then (some (s50.1 10)) else some (.tuple [])).bind fun v119 =>
 ((gdv v115 true).bind fun g120 => if g120 = true then (idxSl v117 v119 1) else some (.tuple [])).bind fun v121 =>
 ((gdv v115 true).bind fun g122 => if g122 = true then (ldOne v121 r67.2) else some (.tuple [])).bind fun v123 =>
 ((gdv v115 true).bind fun g124 => if g124 = true then (some v68) else some (.tuple [])).bind fun v125 =>
 ((gdv v115 true).bind fun g126 => if g126 = true then (aBin Tryd.prog .neq 3 v123 v125) else some (.tuple [])).bind fun v127 =>
 ((gdv v107 false).bind fun g129 => if g129 = true then ((asB v115).bind fun b128 => if b128 = true then some v127 else some (.bool false)) else some (.tuple [])).bind fun v130 =>
 ((asB v107).bind fun b131 => if b131 = true then some (.bool true) else some v130).bind fun v132 =>
 (asB v132).bind fun b133 => if b133 = true then
 ((some (.ret, (updL s50.1 [(50, (s50.1 10)), (51, (s50.1 7)), (52, v53), (53, v54), (56, (s50.1 7)), (57, (s50.1 10)), (58, v56), (59, v57), (60, v58), (61, v60), (62, v61), (63, (s50.1 10)), (64, v62), (65, v63), (11, (nb64.val s50.2.next)), (67, (s50.1 0)), (68, v66), (69, r67.1), (66, r67.1), (70, v68), (71, v69), (12, v68), (13, v69), (72, (s50.1 7)), (73, (s50.1 10)), (74, v70), (75, v71), (76, v68), (77, v72), (78, v72), (79, v74), (80, v76), (81, v78), (82, v80), (83, v82), (84, v84), (85, v84), (86, v86), (87, v88), (88, v90), (89, v92), (90, v94), (91, v96), (92, v98), (93, v100), (94, v102), (95, v105), (96, v107), (97, v107), (98, v109), (99, v111), (100, v113), (101, v115), (102, v117), (103, v119), (104, v121), (105, v123), (106, v125), (107, v127), (108, v130), (109, v132), (4, (.slice none 0 (.kn 0))), (5, (.bool false))]), r67.2)).map .inr)
 else
 ((ldAgg (nb64.val s50.2.next) 3 r67.2).bind fun v134 =>
 (call 72 [v134, (s50.1 10)] r67.2).bind fun r135 =>
 (it (F29_L1 call it) ((updL s50.1 [(50, (s50.1 10)), (51, (s50.1 7)), (52, v53), (53, v54), (56, (s50.1 7)), (57, (s50.1 10)), (58, v56), (59, v57), (60, v58), (61, v60), (62, v61), (63, (s50.1 10)), (64, v62), (65, v63), (11, (nb64.val s50.2.next)), (67, (s50.1 0)), (68, v66), (69, r67.1), (66, r67.1), (70, v68), (71, v69), (12, v68), (13, v69), (72, (s50.1 7)), (73, (s50.1 10)), (74, v70), (75, v71), (76, v68), (77, v72), (78, v72), (79, v74), (80, v76), (81, v78), (82, v80), (83, v82), (84, v84), (85, v84), (86, v86), (87, v88), (88, v90), (89, v92), (90, v94), (91, v96), (92, v98), (93, v100), (94, v102), (95, v105), (96, v107), (97, v107), (98, v109), (99, v111), (100, v113), (101, v115), (102, v117), (103, v119), (104, v121), (105, v123), (106, v125), (107, v127), (108, v130), (109, v132), (110, v134), (111, (s50.1 10)), (112, r135.1), (14, r135.1), (15, (.int .i64 0))]), r135.2)).bind fun r137 => match r137.1 with
 | .normal => none
 | .exit j138 => if j138 = 6 then
 (some (.inl (r137.2.1, r137.2.2)))
 else
 (if j138 = 5 then some (.inl (r137.2.1, r137.2.2)) else (some (.exit j138, r137.2.1, r137.2.2)).map .inr)
 | .ret => (some (.ret, r137.2.1, r137.2.2)).map .inr)))
 (F29_J2 call it))
 else
 (some (.exit 4, (updL s50.1 [(50, (s50.1 10)), (51, (s50.1 7)), (52, v53), (53, v54)]), s50.2))
noncomputable def F29_L4 (call : CallF) (it : ItF) (s46 : St) : Option (Ex × St) :=
 (asB (s46.1 9)).bind fun b49 => if b49 = true then
 ((it (F29_L3 call it) ((updL s46.1 [(49, (s46.1 9)), (9, (.bool false)), (10, (.int .i64 0))]), s46.2)).bind fun r51 => match r51.1 with
 | .normal => none
 | .exit j52 => if j52 = 4 then
 (some (.normal, r51.2.1, r51.2.2))
 else
 (if j52 = 3 then
 (some (.normal, r51.2.1, r51.2.2))
 else
 (some (.exit j52, r51.2.1, r51.2.2)))
 | .ret => some (.ret, r51.2.1, r51.2.2))
 else
 (some (.exit 2, (updL s46.1 [(49, (s46.1 9))]), s46.2))
noncomputable def F29_L5 (call : CallF) (it : ItF) (s33 : St) : Option (Ex × St) :=
 (ptrAdd (s33.1 6) 0).bind fun v36 =>
 (ldOne v36 s33.2).bind fun v37 =>
 (aLen Tryd.prog 22 v37).bind fun v38 =>
 (aBin Tryd.prog .lss 3 (s33.1 8) v38).bind fun v39 =>
 (asB v39).bind fun b40 => if b40 = true then
 ((nBuildSlice Tryd.prog 40 1 [(0, (.int .i64 (-1)))]).bind fun nb41 =>
 (aAppend Tryd.prog 40 40 (s33.1 7) (nb41.val s33.2.next) (s33.2.new nb41.cells nb41.elem)).bind fun r42 =>
 (aBin Tryd.prog .add 3 (s33.1 8) (.int .i64 1)).bind fun v43 =>
 some (.normal, (updL s33.1 [(37, (s33.1 8)), (38, v36), (39, v37), (40, v38), (41, v39), (44, (s33.1 7)), (45, (nb41.val s33.2.next)), (46, r42.1), (7, r42.1), (42, (s33.1 8)), (43, v43), (8, v43)]), r42.2))
 else
 (some (.exit 0, (updL s33.1 [(37, (s33.1 8)), (38, v36), (39, v37), (40, v38), (41, v39)]), s33.2))
noncomputable def F29 (call : CallF) (it : ItF) (x0 : AV) (x1 : AV) (H : AH) : Option (AV × AH) :=
 (aBin Tryd.prog .lss 3 x1 (.int .i64 0)).bind fun v1 =>
 ((gdv v1 false).bind fun g2 => if g2 = true then (some x1) else some (.tuple [])).bind fun v3 =>
 ((gdv v1 false).bind fun g4 => if g4 = true then (some x0) else some (.tuple [])).bind fun v5 =>
 ((gdv v1 false).bind fun g6 => if g6 = true then (aLen Tryd.prog 36 v5) else some (.tuple [])).bind fun v7 =>
 ((gdv v1 false).bind fun g8 => if g8 = true then (aBin Tryd.prog .geq 3 v3 v7) else some (.tuple [])).bind fun v9 =>
 ((asB v1).bind fun b10 => if b10 = true then some (.bool true) else some v9).bind fun v11 =>
 ((gdv v11 false).bind fun g12 => if g12 = true then (some x0) else some (.tuple [])).bind fun v13 =>
 ((gdv v11 false).bind fun g14 => if g14 = true then (some x0) else some (.tuple [])).bind fun v15 =>
 ((gdv v11 false).bind fun g16 => if g16 = true then (some x1) else some (.tuple [])).bind fun v17 =>
 ((gdv v11 false).bind fun g18 => if g18 = true then (idxSl v15 v17 4) else some (.tuple [])).bind fun v19 =>
 ((gdv v11 false).bind fun g20 => if g20 = true then (ldAgg v19 4 H) else some (.tuple [])).bind fun v21 =>
 ((gdv v11 false).bind fun g22 => if g22 = true then (call 70 [v13, v21] H) else some (.tuple [], H)).bind fun r23 =>
 ((gdv v11 false).bind fun g24 => if g24 = true then (aUn .not r23.1) else some (.tuple [])).bind fun v25 =>
 ((asB v11).bind fun b26 => if b26 = true then some (.bool true) else some v25).bind fun v27 =>
 (asB v27).bind fun b28 => if b28 = true then
 (some ((.tuple [(.slice none 0 (.kn 0)), (.bool false)]), r23.2))
 else
 ((idxSl x0 x1 4).bind fun v29 =>
 (ldAgg v29 4 r23.2).bind fun v30 =>
 (nAlloc Tryd.prog 24).bind fun nb31 =>
 ((aStore Tryd.prog 24 (nb31.val r23.2.next) v30 (r23.2.new nb31.cells nb31.elem)).map fun H' => ((.tuple [] : AV), H')).bind fun r32 =>
 (it (F29_L5 call it) ((updL (T0 [x0, x1]) [(4, (.slice none 0 (.kn 0))), (5, (.bool false)), (16, x1), (17, v1), (18, v1), (19, v3), (20, v5), (21, v7), (22, v9), (23, v11), (24, v11), (25, v13), (26, v15), (27, v17), (28, v19), (29, v21), (30, r23.1), (31, v25), (32, v27), (33, x0), (34, x1), (35, v29), (36, v30), (6, (nb31.val r23.2.next)), (7, (.slice none 0 (.kn 0))), (8, (.int .i64 0))]), r32.2)).bind fun r34 => match r34.1 with
 | .normal => none
 | .exit j35 => if j35 = 0 then
 ((idxSl (r34.2.1 7) (.int .i64 0) 1).bind fun v44 =>
 ((aStore Tryd.prog 3 v44 (.int .i64 0) r34.2.2).map fun H' => ((.tuple [] : AV), H')).bind fun r45 =>
 (it (F29_L4 call it) ((updL r34.2.1 [(47, (r34.2.1 7)), (48, v44), (9, (.bool true))]), r45.2)).bind fun r47 => match r47.1 with
 | .normal => none
 | .exit j48 => if j48 = 2 then
 (some ((.tuple [(r47.2.1 7), (.bool true)]), r47.2.2))
 else
 (none)
 | .ret => some ((.tuple [(r47.2.1 4), (r47.2.1 5)]), r47.2.2))
 else
 (none)
 | .ret => some ((.tuple [(r34.2.1 4), (r34.2.1 5)]), r34.2.2))
theorem F29_eq (call : CallF) (it : ItF) (x0 : AV) (x1 : AV) (H : AH) : aFun Tryd.prog (drawA Tryd.prog) call it 29 [x0, x1] H = F29 call it x0 x1 H :=
 (aFun_eq Tryd.func29 rfl (by kernel_rfl) _ H (Nat.le_of_ble_eq_true (by kernel_rfl))).trans (by kernel_rfl)

noncomputable def F31_L0 (call : CallF) (it : ItF) (s12 : St) : Option (Ex × St) :=
 (aLen Tryd.prog 36 (s12.1 0)).bind fun v15 =>
 (aBin Tryd.prog .lss 3 (s12.1 3) v15).bind fun v16 =>
 (asB v16).bind fun b17 => if b17 = true then
 ((idxSl (s12.1 0) (s12.1 3) 4).bind fun v18 =>
 (ptrAdd v18 1).bind fun v19 =>
 (ldOne v19 s12.2).bind fun v20 =>
 (aBin Tryd.prog .gtr 3 v20 (.int .i64 300)).bind fun v21 =>
 ((gdv v21 true).bind fun g22 => if g22 = true then (some (s12.1 0)) else some (.tuple [])).bind fun v23 =>
 ((gdv v21 true).bind fun g24 => if g24 = true then (some (s12.1 3)) else some (.tuple [])).bind fun v25 =>
 ((gdv v21 true).bind fun g26 => if g26 = true then (idxSl v23 v25 4) else some (.tuple [])).bind fun v27 =>
 ((gdv v21 true).bind fun g28 => if g28 = true then (ptrAdd v27 1) else some (.tuple [])).bind fun v29 =>
 ((gdv v21 true).bind fun g30 => if g30 = true then (ldOne v29 s12.2) else some (.tuple [])).bind fun v31 =>
 ((gdv v21 true).bind fun g32 => if g32 = true then (aBin Tryd.prog .leq 3 v31 (.int .i64 65536)) else some (.tuple [])).bind fun v33 =>
 ((asB v21).bind fun b34 => if b34 = true then some v33 else some (.bool false)).bind fun v35 =>
 (asB v35).bind fun b36 => if b36 = true then
 (some (.ret, (updL s12.1 [(12, (s12.1 3)), (13, (s12.1 0)), (14, v15), (15, v16), (18, (s12.1 0)), (19, (s12.1 3)), (20, v18), (21, v19), (22, v20), (23, v21), (24, v21), (25, v23), (26, v25), (27, v27), (28, v29), (29, v31), (30, v33), (31, v35), (2, (.bool true))]), s12.2))
 else
 ((aBin Tryd.prog .add 3 (s12.1 3) (.int .i64 1)).bind fun v37 =>
 some (.normal, (updL s12.1 [(12, (s12.1 3)), (13, (s12.1 0)), (14, v15), (15, v16), (18, (s12.1 0)), (19, (s12.1 3)), (20, v18), (21, v19), (22, v20), (23, v21), (24, v21), (25, v23), (26, v25), (27, v27), (28, v29), (29, v31), (30, v33), (31, v35), (16, (s12.1 3)), (17, v37), (3, v37)]), s12.2)))
 else
 (some (.exit 0, (updL s12.1 [(12, (s12.1 3)), (13, (s12.1 0)), (14, v15), (15, v16)]), s12.2))
noncomputable def F31 (call : CallF) (it : ItF) (x0 : AV) (H : AH) : Option (AV × AH) :=
 (aLen Tryd.prog 36 x0).bind fun v1 =>
 (aBin Tryd.prog .gtr 3 v1 (.int .i64 50)).bind fun v2 =>
 ((gdv v2 false).bind fun g3 => if g3 = true then (some x0) else some (.tuple [])).bind fun v4 =>
 ((gdv v2 false).bind fun g5 => if g5 = true then (call 26 [v4, (.int .i64 400)] H) else some (.tuple [], H)).bind fun r6 =>
 ((gdv v2 false).bind fun g7 => if g7 = true then (aBin Tryd.prog .gtr 3 r6.1 (.int .i64 400)) else some (.tuple [])).bind fun v8 =>
 ((asB v2).bind fun b9 => if b9 = true then some (.bool true) else some v8).bind fun v10 =>
 (asB v10).bind fun b11 => if b11 = true then
 (some ((.bool true), r6.2))
 else
 ((it (F31_L0 call it) ((updL (T0 [x0]) [(2, (.bool false)), (4, x0), (5, v1), (6, v2), (7, v2), (8, v4), (9, r6.1), (10, v8), (11, v10), (3, (.int .i64 0))]), r6.2)).bind fun r13 => match r13.1 with
 | .normal => none
 | .exit j14 => if j14 = 0 then
 (some ((.bool false), r13.2.2))
 else
 (none)
 | .ret => some ((r13.2.1 2), r13.2.2))
theorem F31_eq (call : CallF) (it : ItF) (x0 : AV) (H : AH) : aFun Tryd.prog (drawA Tryd.prog) call it 31 [x0] H = F31 call it x0 H :=
 (aFun_eq Tryd.func31 rfl (by kernel_rfl) _ H (Nat.le_of_ble_eq_true (by kernel_rfl))).trans (by kernel_rfl)

noncomputable def F33_L0 (call : CallF) (it : ItF) (s17 : St) : Option (Ex × St) :=
 (asB (s17.1 10)).bind fun b20 => if b20 = true then
 ((call 73 [(s17.1 9)] s17.2).bind fun r21 =>
 (aExtract r21.1 0).bind fun v22 =>
 (aExtract r21.1 1).bind fun v23 =>
 some (.normal, (updL s17.1 [(24, (s17.1 10)), (26, (s17.1 9)), (27, r21.1), (25, r21.1), (28, v22), (29, v23), (9, v22), (10, v23)]), r21.2))
 else
 (some (.exit 2, (updL s17.1 [(24, (s17.1 10))]), s17.2))
noncomputable def F33_L1 (call : CallF) (it : ItF) (s5 : St) : Option (Ex × St) :=
 (aBin Tryd.prog .lss 3 (s5.1 17) (s5.1 16)).bind fun v8 =>
 (asB v8).bind fun b9 => if b9 = true then
 ((idxSl (s5.1 15) (s5.1 17) 4).bind fun v10 =>
 (ldAgg v10 4 s5.2).bind fun v11 =>
 (nAlloc Tryd.prog 24).bind fun nb12 =>
 ((aStore Tryd.prog 24 (nb12.val s5.2.next) v11 (s5.2.new nb12.cells nb12.elem)).map fun H' => ((.tuple [] : AV), H')).bind fun r13 =>
 (ptrAdd (nb12.val s5.2.next) 0).bind fun v14 =>
 (ldOne v14 r13.2).bind fun v15 =>
 (aAppend Tryd.prog 22 22 (.slice none 0 (.kn 0)) v15 r13.2).bind fun r16 =>
 (it (F33_L0 call it) ((updL s5.1 [(18, v8), (19, v10), (20, v11), (8, (nb12.val s5.2.next)), (21, v14), (22, v15), (23, r16.1), (9, r16.1), (10, (.bool true))]), r16.2)).bind fun r18 => match r18.1 with
 | .normal => none
 | .exit j19 => if j19 = 2 then
 ((ptrAdd (r18.2.1 8) 0).bind fun v24 =>
 ((aStore Tryd.prog 22 v24 (r18.2.1 9) r18.2.2).map fun H' => ((.tuple [] : AV), H')).bind fun r25 =>
 (ldAgg (r18.2.1 8) 4 r25.2).bind fun v26 =>
 (nBuildSlice Tryd.prog 36 1 [(0, v26)]).bind fun nb27 =>
 (aAppend Tryd.prog 36 36 (r18.2.1 6) (nb27.val r25.2.next) (r25.2.new nb27.cells nb27.elem)).bind fun r28 =>
 (aBin Tryd.prog .add 3 (r18.2.1 17) (.int .i64 1)).bind fun v29 =>
 some (.normal, (updL r18.2.1 [(30, (r18.2.1 9)), (31, v24), (32, (r18.2.1 6)), (33, v26), (34, (nb27.val r25.2.next)), (35, r28.1), (6, r28.1), (36, v29), (17, v29)]), r28.2))
 else
 (if j19 = 1 then
 ((aBin Tryd.prog .add 3 (r18.2.1 17) (.int .i64 1)).bind fun v30 =>
 some (.normal, (updL r18.2.1 [(36, v30), (17, v30)]), r18.2.2))
 else
 (some (.exit j19, r18.2.1, r18.2.2)))
 | .ret => some (.ret, r18.2.1, r18.2.2))
 else
 (some (.exit 0, (updL s5.1 [(18, v8)]), s5.2))
noncomputable def F33 (call : CallF) (it : ItF) (x0 : AV) (x1 : AV) (H : AH) : Option (AV × AH) :=
 (call 27 [x0, x1] H).bind fun r1 =>
 (aUn .not r1.1).bind fun v2 =>
 (asB v2).bind fun b3 => if b3 = true then
 (some ((.tuple [(.slice none 0 (.kn 0)), (.int .i64 60)]), r1.2))
 else
 ((aLen Tryd.prog 36 x0).bind fun v4 =>
 (it (F33_L1 call it) ((updL (T0 [x0, x1]) [(4, (.slice none 0 (.kn 0))), (5, (.int .i64 0)), (11, x0), (12, x1), (13, r1.1), (14, v2), (6, (.slice none 0 (.kn 0))), (15, x0), (16, v4), (17, (.int .i64 0))]), r1.2)).bind fun r6 => match r6.1 with
 | .normal => none
 | .exit j7 => if j7 = 0 then
 (some ((.tuple [(r6.2.1 6), (.int .i64 0)]), r6.2.2))
 else
 (none)
 | .ret => some ((.tuple [(r6.2.1 4), (r6.2.1 5)]), r6.2.2))
theorem F33_eq (call : CallF) (it : ItF) (x0 : AV) (x1 : AV) (H : AH) : aFun Tryd.prog (drawA Tryd.prog) call it 33 [x0, x1] H = F33 call it x0 x1 H :=
 (aFun_eq Tryd.func33 rfl (by kernel_rfl) _ H (Nat.le_of_ble_eq_true (by kernel_rfl))).trans (by kernel_rfl)

noncomputable def F34_L0 (call : CallF) (it : ItF) (s16 : St) : Option (Ex × St) :=
 (asB (s16.1 9)).bind fun b19 => if b19 = true then
 ((ldAgg (s16.1 8) 4 s16.2).bind fun v20 =>
 (idxSl (s16.1 6) (s16.1 7) 4).bind fun v21 =>
 ((aStore Tryd.prog 24 v21 v20 s16.2).map fun H' => ((.tuple [] : AV), H')).bind fun r22 =>
 (call 74 [(s16.1 6), (s16.1 7)] r22.2).bind fun r23 =>
 (aExtract r23.1 0).bind fun v24 =>
 (aExtract r23.1 1).bind fun v25 =>
 ((aStore Tryd.prog 24 (s16.1 8) v24 r23.2).map fun H' => ((.tuple [] : AV), H')).bind fun r26 =>
 some (.normal, (updL s16.1 [(29, (s16.1 9)), (30, (s16.1 6)), (31, (s16.1 7)), (32, v20), (33, v21), (35, (s16.1 6)), (36, (s16.1 7)), (37, r23.1), (34, r23.1), (38, v24), (39, v25), (9, v25)]), r26.2))
 else
 (some (.exit 2, (updL s16.1 [(29, (s16.1 9))]), s16.2))
noncomputable def F34_L1 (call : CallF) (it : ItF) (s5 : St) : Option (Ex × St) :=
 (aLen Tryd.prog 36 (s5.1 6)).bind fun v8 =>
 (aBin Tryd.prog .lss 3 (s5.1 7) v8).bind fun v9 =>
 (asB v9).bind fun b10 => if b10 = true then
 ((call 74 [(s5.1 6), (s5.1 7)] s5.2).bind fun r11 =>
 (aExtract r11.1 0).bind fun v12 =>
 (aExtract r11.1 1).bind fun v13 =>
 (nAlloc Tryd.prog 24).bind fun nb14 =>
 ((aStore Tryd.prog 24 (nb14.val r11.2.next) v12 (r11.2.new nb14.cells nb14.elem)).map fun H' => ((.tuple [] : AV), H')).bind fun r15 =>
 (it (F34_L0 call it) ((updL s5.1 [(17, (s5.1 7)), (18, (s5.1 6)), (19, v8), (20, v9), (24, (s5.1 6)), (25, (s5.1 7)), (26, r11.1), (23, r11.1), (27, v12), (28, v13), (8, (nb14.val r11.2.next)), (9, v13)]), r15.2)).bind fun r17 => match r17.1 with
 | .normal => none
 | .exit j18 => if j18 = 2 then
 ((aBin Tryd.prog .add 3 (r17.2.1 7) (.int .i64 1)).bind fun v27 =>
 some (.normal, (updL r17.2.1 [(21, (r17.2.1 7)), (22, v27), (7, v27)]), r17.2.2))
 else
 (if j18 = 1 then
 ((aBin Tryd.prog .add 3 (r17.2.1 7) (.int .i64 1)).bind fun v28 =>
 some (.normal, (updL r17.2.1 [(21, (r17.2.1 7)), (22, v28), (7, v28)]), r17.2.2))
 else
 (some (.exit j18, r17.2.1, r17.2.2)))
 | .ret => some (.ret, r17.2.1, r17.2.2))
 else
 (some (.exit 0, (updL s5.1 [(17, (s5.1 7)), (18, (s5.1 6)), (19, v8), (20, v9)]), s5.2))
noncomputable def F34 (call : CallF) (it : ItF) (x0 : AV) (x1 : AV) (H : AH) : Option (AV × AH) :=
 (call 36 [x0, x1] H).bind fun r1 =>
 (aUn .not r1.1).bind fun v2 =>
 (asB v2).bind fun b3 => if b3 = true then
 (some ((.tuple [(.slice none 0 (.kn 0)), (.int .i64 60)]), r1.2))
 else
 ((aAppend Tryd.prog 36 36 (.slice none 0 (.kn 0)) x0 r1.2).bind fun r4 =>
 (it (F34_L1 call it) ((updL (T0 [x0, x1]) [(4, (.slice none 0 (.kn 0))), (5, (.int .i64 0)), (10, x0), (11, x1), (12, r1.1), (13, v2), (6, (.slice none 0 (.kn 0))), (14, (.slice none 0 (.kn 0))), (15, x0), (16, r4.1), (6, r4.1), (7, (.int .i64 0))]), r4.2)).bind fun r6 => match r6.1 with
 | .normal => none
 | .exit j7 => if j7 = 0 then
 (some ((.tuple [(r6.2.1 6), (.int .i64 0)]), r6.2.2))
 else
 (none)
 | .ret => some ((.tuple [(r6.2.1 4), (r6.2.1 5)]), r6.2.2))
theorem F34_eq (call : CallF) (it : ItF) (x0 : AV) (x1 : AV) (H : AH) : aFun Tryd.prog (drawA Tryd.prog) call it 34 [x0, x1] H = F34 call it x0 x1 H :=
 (aFun_eq Tryd.func34 rfl (by kernel_rfl) _ H (Nat.le_of_ble_eq_true (by kernel_rfl))).trans (by kernel_rfl)

noncomputable def F35_L0 (call : CallF) (it : ItF) (s95 : St) : Option (Ex × St) :=
 (idxSl (s95.1 0) (s95.1 5) 4).bind fun v98 =>
 (ptrAdd v98 0).bind fun v99 =>
 (ldOne v99 s95.2).bind fun v100 =>
 (aLen Tryd.prog 22 v100).bind fun v101 =>
 (aBin Tryd.prog .lss 3 (s95.1 6) v101).bind fun v102 =>
 (asB v102).bind fun b103 => if b103 = true then
 ((idxSl (s95.1 0) (s95.1 5) 4).bind fun v104 =>
 (ptrAdd v104 0).bind fun v105 =>
 (ldOne v105 s95.2).bind fun v106 =>
 (idxSl v106 (s95.1 6) 3).bind fun v107 =>
 (ldAgg v107 3 s95.2).bind fun v108 =>
 (idxSl (s95.1 1) (s95.1 5) 4).bind fun v109 =>
 (ptrAdd v109 0).bind fun v110 =>
 (ldOne v110 s95.2).bind fun v111 =>
 (idxSl v111 (s95.1 6) 3).bind fun v112 =>
 (ldAgg v112 3 s95.2).bind fun v113 =>
 (aBin Tryd.prog .neq 29 v108 v113).bind fun v114 =>
 (asB v114).bind fun b115 => if b115 = true then
 (some (.ret, (updL s95.1 [(70, (s95.1 6)), (71, (s95.1 0)), (72, (s95.1 5)), (73, v98), (74, v99), (75, v100), (76, v101), (77, v102), (80, (s95.1 0)), (81, (s95.1 5)), (82, v104), (83, v105), (84, v106), (85, (s95.1 6)), (86, v107), (87, v108), (88, (s95.1 1)), (89, (s95.1 5)), (90, v109), (91, v110), (92, v111), (93, (s95.1 6)), (94, v112), (95, v113), (96, v114), (4, (.bool false))]), s95.2))
 else
 ((aBin Tryd.prog .add 3 (s95.1 6) (.int .i64 1)).bind fun v116 =>
 some (.normal, (updL s95.1 [(70, (s95.1 6)), (71, (s95.1 0)), (72, (s95.1 5)), (73, v98), (74, v99), (75, v100), (76, v101), (77, v102), (80, (s95.1 0)), (81, (s95.1 5)), (82, v104), (83, v105), (84, v106), (85, (s95.1 6)), (86, v107), (87, v108), (88, (s95.1 1)), (89, (s95.1 5)), (90, v109), (91, v110), (92, v111), (93, (s95.1 6)), (94, v112), (95, v113), (96, v114), (78, (s95.1 6)), (79, v116), (6, v116)]), s95.2)))
 else
 (some (.exit 2, (updL s95.1 [(70, (s95.1 6)), (71, (s95.1 0)), (72, (s95.1 5)), (73, v98), (74, v99), (75, v100), (76, v101), (77, v102)]), s95.2))
noncomputable def F35_L1 (call : CallF) (it : ItF) (s5 : St) : Option (Ex × St) :=
 (aLen Tryd.prog 36 (s5.1 0)).bind fun v8 =>
 (aBin Tryd.prog .lss 3 (s5.1 5) v8).bind fun v9 =>
 (asB v9).bind fun b10 => if b10 = true then
 ((idxSl (s5.1 0) (s5.1 5) 4).bind fun v11 =>
 (ptrAdd v11 1).bind fun v12 =>
 (ldOne v12 s5.2).bind fun v13 =>
 (idxSl (s5.1 1) (s5.1 5) 4).bind fun v14 =>
 (ptrAdd v14 1).bind fun v15 =>
 (ldOne v15 s5.2).bind fun v16 =>
 (aBin Tryd.prog .neq 3 v13 v16).bind fun v17 =>
 ((gdv v17 false).bind fun g18 => if g18 = true then (some (s5.1 0)) else some (.tuple [])).bind fun v19 =>
 ((gdv v17 false).bind fun g20 => if g20 = true then (some (s5.1 5)) else some (.tuple [])).bind fun v21 =>
 ((gdv v17 false).bind fun g22 => if g22 = true then (idxSl v19 v21 4) else some (.tuple [])).bind fun v23 =>
 ((gdv v17 false).bind fun g24 => if g24 = true then (ptrAdd v23 2) else some (.tuple [])).bind fun v25 =>
 ((gdv v17 false).bind fun g26 => if g26 = true then (ldOne v25 s5.2) else some (.tuple [])).bind fun v27 =>
 ((gdv v17 false).bind fun g28 => if g28 = true then (some (s5.1 1)) else some (.tuple [])).bind fun v29 =>
 ((gdv v17 false).bind fun g30 => if g30 = true then (some (s5.1 5)) else some (.tuple [])).bind fun v31 =>
 ((gdv v17 false).bind fun g32 => if g32 = true then (idxSl v29 v31 4) else some (.tuple [])).bind fun v33 =>
 ((gdv v17 false).bind fun g34 => if g34 = true then (ptrAdd v33 2) else some (.tuple [])).bind fun v35 =>
 ((gdv v17 false).bind fun g36 => if g36 = true then (ldOne v35 s5.2) else some (.tuple [])).bind fun v37 =>
 ((gdv v17 false).bind fun g38 => if g38 = true then (aBin Tryd.prog .neq 3 v27 v37) else some (.tuple [])).bind fun v39 =>
 ((asB v17).bind fun b40 => if b40 = true then some (.bool true) else some v39).bind fun v41 =>
 ((gdv v41 false).bind fun g42 => if g42 = true then (some (s5.1 0)) else some (.tuple [])).bind fun v43 =>
 ((gdv v41 false).bind fun g44 => if g44 = true then (some (s5.1 5)) else some (.tuple [])).bind fun v45 =>
 ((gdv v41 false).bind fun g46 => if g46 = true then (idxSl v43 v45 4) else some (.tuple [])).bind fun v47 =>
 ((gdv v41 false).bind fun g48 => if g48 = true then (ptrAdd v47 3) else some (.tuple [])).bind fun v49 =>
 ((gdv v41 false).bind fun g50 => if g50 = true then (ldOne v49 s5.2) else some (.tuple [])).bind fun v51 =>
 ((gdv v41 false).bind fun g52 => if g52 = true then (some (s5.1 1)) else some (.tuple [])).bind fun v53 =>
 ((gdv v41 false).bind fun g54 => if g54 = true then (some (s5.1 5)) else some (.tuple [])).bind fun v55 =>
 ((gdv v41 false).bind fun g56 => if g56 = true then (idxSl v53 v55 4) else some (.tuple [])).bind fun v57 =>
 ((gdv v41 false).bind fun g58 => if g58 = true then (ptrAdd v57 3) else some (.tuple [])).bind fun v59 =>
 ((gdv v41 false).bind fun g60 => if g60 = true then (ldOne v59 s5.2) else some (.tuple [])).bind fun v61 =>
 ((gdv v41 false).bind fun g62 => if g62 = true then (aBin Tryd.prog .neq 4 v51 v61) else some (.tuple [])).bind fun v63 =>
 ((asB v41).bind fun b64 => if b64 = true then some (.bool true) else some v63).bind fun v65 =>
 ((gdv v65 false).bind fun g66 => if g66 = true then (some (s5.1 0)) else some (.tuple [])).bind fun v67 =>
 ((gdv v65 false).bind fun g68 => if g68 = true then (some (s5.1 5)) else some (.tuple [])).bind fun v69 =>
 ((gdv v65 false).bind fun g70 => if g70 = true then (idxSl v67 v69 4) else some (.tuple [])).bind fun v71 =>
 ((gdv v65 false).bind fun g72 => if g72 = true then (ptrAdd v71 0) else some (.tuple [])).bind fun v73 =>
 ((gdv v65 false).bind fun g74 => if g74 = true then (ldOne v73 s5.2) else some (.tuple [])).bind fun v75 =>
 ((gdv v65 false).bind fun g76 => if g76 = true then (aLen Tryd.prog 22 v75) else some (.tuple [])).bind fun v77 =>
 ((gdv v65 false).bind fun g78 => if g78 = true then (some (s5.1 1)) else some (.tuple [])).bind fun v79 =>
 ((gdv v65 false).bind fun g80 => if g80 = true then (some (s5.1 5)) else some (.tuple [])).bind fun v81 =>
 ((gdv v65 false).bind fun g82 => if g82 = true then (idxSl v79 v81 4) else some (.tuple [])).bind fun v83 =>
 ((gdv v65 false).bind fun g84 => if g84 = true then (ptrAdd v83 0) else some (.tuple [])).bind fun v85 =>
 ((gdv v65 false).bind fun g86 => if g86 = true then (ldOne v85 s5.2) else some (.tuple [])).bind fun v87 =>
 ((gdv v65 false).bind fun g88 => if g88 = true then (aLen Tryd.prog 22 v87) else some (.tuple [])).bind fun v89 =>
 ((gdv v65 false).bind fun g90 => if g90 = true then (aBin Tryd.prog .neq 3 v77 v89) else some (.tuple [])).bind fun v91 =>
 ((asB v65).bind fun b92 => if b92 = true then some (.bool true) else some v91).bind fun v93 =>
 (asB v93).bind fun b94 => if b94 = true then
 (some (.ret, (updL s5.1 [(12, (s5.1 5)), (13, (s5.1 0)), (14, v8), (15, v9), (18, (s5.1 0)), (19, (s5.1 5)), (20, v11), (21, v12), (22, v13), (23, (s5.1 1)), (24, (s5.1 5)), (25, v14), (26, v15), (27, v16), (28, v17), (29, v17), (30, v19), (31, v21), (32, v23), (33, v25), (34, v27), (35, v29), (36, v31), (37, v33), (38, v35), (39, v37), (40, v39), (41, v41), (42, v41), (43, v43), (44, v45), (45, v47), (46, v49), (47, v51), (48, v53), (49, v55), (50, v57), (51, v59), (52, v61), (53, v63), (54, v65), (55, v65), (56, v67), (57, v69), (58, v71), (59, v73), (60, v75), (61, v77), (62, v79), (63, v81), (64, v83), (65, v85), (66, v87), (67, v89), (68, v91), (69, v93), (4, (.bool false))]), s5.2))
 else
 ((it (F35_L0 call it) ((updL s5.1 [(12, (s5.1 5)), (13, (s5.1 0)), (14, v8), (15, v9), (18, (s5.1 0)), (19, (s5.1 5)), (20, v11), (21, v12), (22, v13), (23, (s5.1 1)), (24, (s5.1 5)), (25, v14), (26, v15), (27, v16), (28, v17), (29, v17), (30, v19), (31, v21), (32, v23), (33, v25), (34, v27), (35, v29), (36, v31), (37, v33), (38, v35), (39, v37), (40, v39), (41, v41), (42, v41), (43, v43), (44, v45), (45, v47), (46, v49), (47, v51), (48, v53), (49, v55), (50, v57), (51, v59), (52, v61), (53, v63), (54, v65), (55, v65), (56, v67), (57, v69), (58, v71), (59, v73), (60, v75), (61, v77), (62, v79), (63, v81), (64, v83), (65, v85), (66, v87), (67, v89), (68, v91), (69, v93), (6, (.int .i64 0))]), s5.2)).bind fun r96 => match r96.1 with
 | .normal => none
 | .exit j97 => if j97 = 2 then
 ((aBin Tryd.prog .add 3 (r96.2.1 5) (.int .i64 1)).bind fun v117 =>
 some (.normal, (updL r96.2.1 [(16, (r96.2.1 5)), (17, v117), (5, v117)]), r96.2.2))
 else
 (if j97 = 1 then
 ((aBin Tryd.prog .add 3 (r96.2.1 5) (.int .i64 1)).bind fun v118 =>
 some (.normal, (updL r96.2.1 [(16, (r96.2.1 5)), (17, v118), (5, v118)]), r96.2.2))
 else
 (some (.exit j97, r96.2.1, r96.2.2)))
 | .ret => some (.ret, r96.2.1, r96.2.2)))
 else
 (some (.exit 0, (updL s5.1 [(12, (s5.1 5)), (13, (s5.1 0)), (14, v8), (15, v9)]), s5.2))
noncomputable def F35 (call : CallF) (it : ItF) (x0 : AV) (x1 : AV) (H : AH) : Option (AV × AH) :=
 (aLen Tryd.prog 36 x0).bind fun v1 =>
 (aLen Tryd.prog 36 x1).bind fun v2 =>
 (aBin Tryd.prog .neq 3 v1 v2).bind fun v3 =>
 (asB v3).bind fun b4 => if b4 = true then
 (some ((.bool false), H))
 else
 ((it (F35_L1 call it) ((updL (T0 [x0, x1]) [(4, (.bool false)), (7, x0), (8, v1), (9, x1), (10, v2), (11, v3), (5, (.int .i64 0))]), H)).bind fun r6 => match r6.1 with
 | .normal => none
 | .exit j7 => if j7 = 0 then
 (some ((.bool true), r6.2.2))
 else
 (none)
 | .ret => some ((r6.2.1 4), r6.2.2))
theorem F35_eq (call : CallF) (it : ItF) (x0 : AV) (x1 : AV) (H : AH) : aFun Tryd.prog (drawA Tryd.prog) call it 35 [x0, x1] H = F35 call it x0 x1 H :=
 (aFun_eq Tryd.func35 rfl (by kernel_rfl) _ H (Nat.le_of_ble_eq_true (by kernel_rfl))).trans (by kernel_rfl)

end Go.Proofs.YthiflgncldmkjaaDoor
set_option linter.unusedVariables false
set_option maxRecDepth 100000
namespace Go.Proofs.YthiflgncldmkjaaDoor
open Go.Ri

noncomputable def F36_L0 (call : CallF) (it : ItF) (s54 : St) : Option (Ex × St) :=
 (aLen Tryd.prog 36 (s54.1 0)).bind fun v57 =>
 (aBin Tryd.prog .lss 3 (s54.1 5) v57).bind fun v58 =>
 (asB v58).bind fun b59 => if b59 = true then
 ((call 29 [(s54.1 0), (s54.1 5)] s54.2).bind fun r60 =>
 (aExtract r60.1 0).bind fun v61 =>
 (aExtract r60.1 1).bind fun v62 =>
 (aUn .not v62).bind fun v63 =>
 (asB v63).bind fun b64 => if b64 = true then
 (some (.ret, (updL s54.1 [(41, (s54.1 5)), (42, (s54.1 0)), (43, v57), (44, v58), (48, (s54.1 0)), (49, (s54.1 5)), (50, r60.1), (47, r60.1), (51, v61), (52, v62), (6, v61), (7, v62), (53, v62), (54, v63), (4, (.bool false))]), r60.2))
 else
 ((aBin Tryd.prog .add 3 (s54.1 5) (.int .i64 1)).bind fun v65 =>
 some (.normal, (updL s54.1 [(41, (s54.1 5)), (42, (s54.1 0)), (43, v57), (44, v58), (48, (s54.1 0)), (49, (s54.1 5)), (50, r60.1), (47, r60.1), (51, v61), (52, v62), (6, v61), (7, v62), (53, v62), (54, v63), (45, (s54.1 5)), (46, v65), (5, v65)]), r60.2)))
 else
 (some (.exit 0, (updL s54.1 [(41, (s54.1 5)), (42, (s54.1 0)), (43, v57), (44, v58)]), s54.2))
noncomputable def F36 (call : CallF) (it : ItF) (x0 : AV) (x1 : AV) (H : AH) : Option (AV × AH) :=
 (aLen Tryd.prog 36 x0).bind fun v1 =>
 (aBin Tryd.prog .eql 3 v1 (.int .i64 0)).bind fun v2 =>
 ((gdv v2 false).bind fun g3 => if g3 = true then (some x0) else some (.tuple [])).bind fun v4 =>
 ((gdv v2 false).bind fun g5 => if g5 = true then (aLen Tryd.prog 36 v4) else some (.tuple [])).bind fun v6 =>
 ((gdv v2 false).bind fun g7 => if g7 = true then (aBin Tryd.prog .gtr 3 v6 (.int .i64 40)) else some (.tuple [])).bind fun v8 =>
 ((asB v2).bind fun b9 => if b9 = true then some (.bool true) else some v8).bind fun v10 =>
 ((gdv v10 false).bind fun g11 => if g11 = true then (some x1) else some (.tuple [])).bind fun v12 =>
 ((gdv v10 false).bind fun g13 => if g13 = true then (aBin Tryd.prog .lss 3 v12 (.int .i64 0)) else some (.tuple [])).bind fun v14 =>
 ((asB v10).bind fun b15 => if b15 = true then some (.bool true) else some v14).bind fun v16 =>
 ((gdv v16 false).bind fun g17 => if g17 = true then (some x1) else some (.tuple [])).bind fun v18 =>
 ((gdv v16 false).bind fun g19 => if g19 = true then (some x0) else some (.tuple [])).bind fun v20 =>
 ((gdv v16 false).bind fun g21 => if g21 = true then (aLen Tryd.prog 36 v20) else some (.tuple [])).bind fun v22 =>
 ((gdv v16 false).bind fun g23 => if g23 = true then (aBin Tryd.prog .geq 3 v18 v22) else some (.tuple [])).bind fun v24 =>
 ((asB v16).bind fun b25 => if b25 = true then some (.bool true) else some v24).bind fun v26 =>
 ((gdv v26 false).bind fun g27 => if g27 = true then (some x0) else some (.tuple [])).bind fun v28 =>
 ((gdv v26 false).bind fun g29 => if g29 = true then (some x1) else some (.tuple [])).bind fun v30 =>
 ((gdv v26 false).bind fun g31 => if g31 = true then (idxSl v28 v30 4) else some (.tuple [])).bind fun v32 =>
 ((gdv v26 false).bind fun g33 => if g33 = true then (ptrAdd v32 2) else some (.tuple [])).bind fun v34 =>
 ((gdv v26 false).bind fun g35 => if g35 = true then (ldOne v34 H) else some (.tuple [])).bind fun v36 =>
 ((gdv v26 false).bind fun g37 => if g37 = true then (aBin Tryd.prog .neq 3 v36 (.int .i64 0)) else some (.tuple [])).bind fun v38 =>
 ((asB v26).bind fun b39 => if b39 = true then some (.bool true) else some v38).bind fun v40 =>
 ((gdv v40 false).bind fun g41 => if g41 = true then (some x0) else some (.tuple [])).bind fun v42 =>
 ((gdv v40 false).bind fun g43 => if g43 = true then (some x1) else some (.tuple [])).bind fun v44 =>
 ((gdv v40 false).bind fun g45 => if g45 = true then (idxSl v42 v44 4) else some (.tuple [])).bind fun v46 =>
 ((gdv v40 false).bind fun g47 => if g47 = true then (ptrAdd v46 3) else some (.tuple [])).bind fun v48 =>
 ((gdv v40 false).bind fun g49 => if g49 = true then (ldOne v48 H) else some (.tuple [])).bind fun v50 =>
 ((asB v40).bind fun b51 => if b51 = true then some (.bool true) else some v50).bind fun v52 =>
 (asB v52).bind fun b53 => if b53 = true then
 (some ((.bool false), H))
 else
 ((it (F36_L0 call it) ((updL (T0 [x0, x1]) [(4, (.bool false)), (8, x0), (9, v1), (10, v2), (11, v2), (12, v4), (13, v6), (14, v8), (15, v10), (16, v10), (17, v12), (18, v14), (19, v16), (20, v16), (21, v18), (22, v20), (23, v22), (24, v24), (25, v26), (26, v26), (27, v28), (28, v30), (29, v32), (30, v34), (31, v36), (32, v38), (33, v40), (34, v40), (35, v42), (36, v44), (37, v46), (38, v48), (39, v50), (40, v52), (5, (.int .i64 0))]), H)).bind fun r55 => match r55.1 with
 | .normal => none
 | .exit j56 => if j56 = 0 then
 (some ((.bool true), r55.2.2))
 else
 (none)
 | .ret => some ((r55.2.1 4), r55.2.2))
theorem F36_eq (call : CallF) (it : ItF) (x0 : AV) (x1 : AV) (H : AH) : aFun Tryd.prog (drawA Tryd.prog) call it 36 [x0, x1] H = F36 call it x0 x1 H :=
 (aFun_eq Tryd.func36 rfl (by kernel_rfl) _ H (Nat.le_of_ble_eq_true (by kernel_rfl))).trans (by kernel_rfl)

end Go.Proofs.YthiflgncldmkjaaDoor
set_option linter.unusedVariables false
set_option maxRecDepth 100000
namespace Go.Proofs.YthiflgncldmkjaaDoor
open Go.Ri

noncomputable def F62 (call : CallF) (it : ItF) (x0 : AV) (H : AH) : Option (AV × AH) :=
 (nAlloc Tryd.prog 130).bind fun nb1 =>
 (cvInt .u64 x0).bind fun v2 =>
 jn (
 (aBin Tryd.prog .lss 2 x0 (.int .i64 0)).bind fun v3 =>
 (asB v3).bind fun b4 => if b4 = true then
 ((aUn .neg v2).bind fun v5 =>
 some (.inl ((updL (T0 [x0]) [(2, (.str ⟨#[]⟩)), (3, (nb1.val H.next)), (4, (.int .i64 20)), (6, x0), (7, v2), (5, v2), (8, x0), (9, v3), (10, v2), (11, v5), (5, v5)]), (H.new nb1.cells nb1.elem))))
 else
 (some (.inl ((updL (T0 [x0]) [(2, (.str ⟨#[]⟩)), (3, (nb1.val H.next)), (4, (.int .i64 20)), (6, x0), (7, v2), (5, v2), (8, x0), (9, v3)]), (H.new nb1.cells nb1.elem)))))
 fun T6 H7 =>
 (it (fun s8 =>
 (aBin Tryd.prog .sub 3 (s8.1 4) (.int .i64 1)).bind fun v11 =>
 (aBin Tryd.prog .rem 131 (s8.1 5) (.int .u64 10)).bind fun v12 =>
 (aBin Tryd.prog .add 131 (.int .u64 48) v12).bind fun v13 =>
 (cvInt .u8 v13).bind fun v14 =>
 (idxPtr (s8.1 3) v11 20 1).bind fun v15 =>
 ((aStore Tryd.prog 5 v15 v14 s8.2).map fun H' => ((.tuple [] : AV), H')).bind fun r16 =>
 (aBin Tryd.prog .quo 131 (s8.1 5) (.int .u64 10)).bind fun v17 =>
 (aBin Tryd.prog .eql 131 v17 (.int .u64 0)).bind fun v18 =>
 (asB v18).bind fun b19 => if b19 = true then
 (some (.exit 0, (updL s8.1 [(12, (s8.1 4)), (13, v11), (4, v11), (14, v11), (15, (s8.1 5)), (16, v12), (17, v13), (18, v14), (19, v15), (20, (s8.1 5)), (21, v17), (5, v17), (22, v17), (23, v18)]), r16.2))
 else
 (some (.normal, (updL s8.1 [(12, (s8.1 4)), (13, v11), (4, v11), (14, v11), (15, (s8.1 5)), (16, v12), (17, v13), (18, v14), (19, v15), (20, (s8.1 5)), (21, v17), (5, v17), (22, v17), (23, v18)]), r16.2))) (T6, H7)).bind fun r9 => match r9.1 with
 | .normal => none
 | .exit j10 => if j10 = 0 then
 (jn (
 (aBin Tryd.prog .lss 2 (r9.2.1 0) (.int .i64 0)).bind fun v20 =>
 (asB v20).bind fun b21 => if b21 = true then
 ((aBin Tryd.prog .sub 3 (r9.2.1 4) (.int .i64 1)).bind fun v22 =>
 (idxPtr (r9.2.1 3) v22 20 1).bind fun v23 =>
 ((aStore Tryd.prog 5 v23 (.int .u8 45) r9.2.2).map fun H' => ((.tuple [] : AV), H')).bind fun r24 =>
 some (.inl ((updL r9.2.1 [(24, (r9.2.1 0)), (25, v20), (26, (r9.2.1 4)), (27, v22), (4, v22), (28, v22), (29, v23)]), r24.2)))
 else
 (some (.inl ((updL r9.2.1 [(24, (r9.2.1 0)), (25, v20)]), r9.2.2))))
 fun T25 H26 =>
 (slArr (T25 3) 20 1 (some (T25 4)) none none).bind fun v27 =>
 (cvBytes v27 H26).bind fun v28 =>
 some (v28, H26))
 else
 (none)
 | .ret => some ((r9.2.1 2), r9.2.2)
theorem F62_eq (call : CallF) (it : ItF) (x0 : AV) (H : AH) : aFun Tryd.prog (drawA Tryd.prog) call it 62 [x0] H = F62 call it x0 H :=
 (aFun_eq Tryd.func62 rfl (by kernel_rfl) _ H (Nat.le_of_ble_eq_true (by kernel_rfl))).trans (by kernel_rfl)

noncomputable def F63_J0 (call : CallF) (it : ItF) (T71 : Tm) (H72 : AH) : Option (AV × AH) :=
 some ((.tuple [(T71 5), (.int .i64 0)]), H72)
noncomputable def F63_J1 (call : CallF) (it : ItF) (T60 : Tm) (H61 : AH) : Option (AV × AH) :=
 jn (
 (ptrAdd (T60 4) 1).bind fun v62 =>
 (ldOne v62 H61).bind fun v63 =>
 (aBin Tryd.prog .gtr 3 v63 (.int .i64 1)).bind fun v64 =>
 (asB v64).bind fun b65 => if b65 = true then
 ((aBin Tryd.prog .add 9 (T60 5) (.str ⟨#[32]⟩)).bind fun v66 =>
 (ptrAdd (T60 1) 2).bind fun v67 =>
 (ldOne v67 H61).bind fun v68 =>
 (call 64 [v68] H61).bind fun r69 =>
 (aBin Tryd.prog .add 9 v66 r69.1).bind fun v70 =>
 some (.inl ((updL T60 [(43, v62), (44, v63), (45, v64), (46, (T60 5)), (47, v66), (48, v67), (49, v68), (50, r69.1), (51, v70), (5, v70)]), r69.2)))
 else
 (some (.inl ((updL T60 [(43, v62), (44, v63), (45, v64)]), H61))))
 (F63_J0 call it)
noncomputable def F63 (call : CallF) (it : ItF) (x0 : AV) (H : AH) : Option (AV × AH) :=
 (nBox 29 x0).bind fun nb1 =>
 (ptrAdd (nb1.val H.next) 0).bind fun v2 =>
 (ldOne v2 (H.new nb1.cells nb1.elem)).bind fun v3 =>
 (call 92 [v3] (H.new nb1.cells nb1.elem)).bind fun r4 =>
 (nAlloc Tryd.prog 133).bind fun nb5 =>
 ((aStore Tryd.prog 133 (nb5.val r4.2.next) r4.1 (r4.2.new nb5.cells nb5.elem)).map fun H' => ((.tuple [] : AV), H')).bind fun r6 =>
 (ptrAdd (nb5.val r4.2.next) 0).bind fun v7 =>
 (ldOne v7 r6.2).bind fun v8 =>
 (aBin Tryd.prog .eql 9 v8 (.str ⟨#[]⟩)).bind fun v9 =>
 ((gdv v9 false).bind fun g10 => if g10 = true then (ptrAdd (nb5.val r4.2.next) 1) else some (.tuple [])).bind fun v11 =>
 ((gdv v9 false).bind fun g12 => if g12 = true then (ldOne v11 r6.2) else some (.tuple [])).bind fun v13 =>
 ((gdv v9 false).bind fun g14 => if g14 = true then (aBin Tryd.prog .lss 3 v13 (.int .i64 1)) else some (.tuple [])).bind fun v15 =>
 ((gdv v9 false).bind fun g16 => if g16 = true then (some v15) else some (.tuple [])).bind fun v17 =>
 ((gdv v17 true).bind fun g18 => if g18 = true then (ptrAdd (nb1.val H.next) 1) else some (.tuple [])).bind fun v19 =>
 ((gdv v17 true).bind fun g20 => if g20 = true then (ldOne v19 r6.2) else some (.tuple [])).bind fun v21 =>
 ((gdv v17 true).bind fun g22 => if g22 = true then (aBin Tryd.prog .neq 2 v21 (.int .i64 0)) else some (.tuple [])).bind fun v23 =>
 ((gdv v9 false).bind fun g25 => if g25 = true then ((asB v17).bind fun b24 => if b24 = true then some v23 else some (.bool false)) else some (.tuple [])).bind fun v26 =>
 ((asB v9).bind fun b27 => if b27 = true then some (.bool true) else some v26).bind fun v28 =>
 ((gdv v28 false).bind fun g29 => if g29 = true then (ptrAdd (nb5.val r4.2.next) 1) else some (.tuple [])).bind fun v30 =>
 ((gdv v28 false).bind fun g31 => if g31 = true then (ldOne v30 r6.2) else some (.tuple [])).bind fun v32 =>
 ((gdv v28 false).bind fun g33 => if g33 = true then (aBin Tryd.prog .lss 3 v32 (.int .i64 2)) else some (.tuple [])).bind fun v34 =>
 ((gdv v28 false).bind fun g35 => if g35 = true then (some v34) else some (.tuple [])).bind fun v36 =>
 ((gdv v36 true).bind fun g37 => if g37 = true then (ptrAdd (nb1.val H.next) 2) else some (.tuple [])).bind fun v38 =>
 ((gdv v36 true).bind fun g39 => if g39 = true then (ldOne v38 r6.2) else some (.tuple [])).bind fun v40 =>
 ((gdv v36 true).bind fun g41 => if g41 = true then (aBin Tryd.prog .neq 2 v40 (.int .i64 0)) else some (.tuple [])).bind fun v42 =>
 ((gdv v28 false).bind fun g44 => if g44 = true then ((asB v36).bind fun b43 => if b43 = true then some v42 else some (.bool false)) else some (.tuple [])).bind fun v45 =>
 ((asB v28).bind fun b46 => if b46 = true then some (.bool true) else some v45).bind fun v47 =>
 (asB v47).bind fun b48 => if b48 = true then
 (some ((.tuple [(.str ⟨#[]⟩), (.int .i64 61)]), r6.2))
 else
 ((ptrAdd (nb5.val r4.2.next) 0).bind fun v49 =>
 (ldOne v49 r6.2).bind fun v50 =>
 jn (
 (ptrAdd (nb5.val r4.2.next) 1).bind fun v51 =>
 (ldOne v51 r6.2).bind fun v52 =>
 (aBin Tryd.prog .gtr 3 v52 (.int .i64 0)).bind fun v53 =>
 (asB v53).bind fun b54 => if b54 = true then
 ((aBin Tryd.prog .add 9 v50 (.str ⟨#[32]⟩)).bind fun v55 =>
 (ptrAdd (nb1.val H.next) 1).bind fun v56 =>
 (ldOne v56 r6.2).bind fun v57 =>
 (call 64 [v57] r6.2).bind fun r58 =>
 (aBin Tryd.prog .add 9 v55 r58.1).bind fun v59 =>
 some (.inl ((updL (T0 [x0]) [(1, (nb1.val H.next)), (2, (.str ⟨#[]⟩)), (3, (.int .i64 0)), (6, v2), (7, v3), (8, r4.1), (4, (nb5.val r4.2.next)), (9, v7), (10, v8), (11, v9), (12, v9), (13, v11), (14, v13), (15, v15), (16, v17), (17, v19), (18, v21), (19, v23), (20, v26), (21, v28), (22, v28), (23, v30), (24, v32), (25, v34), (26, v36), (27, v38), (28, v40), (29, v42), (30, v45), (31, v47), (32, v49), (33, v50), (5, v50), (34, v51), (35, v52), (36, v53), (37, v50), (38, v55), (39, v56), (40, v57), (41, r58.1), (42, v59), (5, v59)]), r58.2)))
 else
 (some (.inl ((updL (T0 [x0]) [(1, (nb1.val H.next)), (2, (.str ⟨#[]⟩)), (3, (.int .i64 0)), (6, v2), (7, v3), (8, r4.1), (4, (nb5.val r4.2.next)), (9, v7), (10, v8), (11, v9), (12, v9), (13, v11), (14, v13), (15, v15), (16, v17), (17, v19), (18, v21), (19, v23), (20, v26), (21, v28), (22, v28), (23, v30), (24, v32), (25, v34), (26, v36), (27, v38), (28, v40), (29, v42), (30, v45), (31, v47), (32, v49), (33, v50), (5, v50), (34, v51), (35, v52), (36, v53)]), r6.2))))
 (F63_J1 call it))
theorem F63_eq (call : CallF) (it : ItF) (x0 : AV) (H : AH) : aFun Tryd.prog (drawA Tryd.prog) call it 63 [x0] H = F63 call it x0 H :=
 (aFun_eq Tryd.func63 rfl (by kernel_rfl) _ H (Nat.le_of_ble_eq_true (by kernel_rfl))).trans (by kernel_rfl)

noncomputable def F64 (call : CallF) (it : ItF) (x0 : AV) (H : AH) : Option (AV × AH) :=
 (call 93 [x0] H).bind fun r1 =>
 (it (fun s2 =>
 (aBin Tryd.prog .eql 9 (s2.1 3) (.str ⟨#[]⟩)).bind fun v5 =>
 ((gdv v5 false).bind fun g6 => if g6 = true then (some (s2.1 4)) else some (.tuple [])).bind fun v7 =>
 ((gdv v5 false).bind fun g8 => if g8 = true then (aBin Tryd.prog .gtr 131 v7 (.int .u64 0)) else some (.tuple [])).bind fun v9 =>
 ((asB v5).bind fun b10 => if b10 = true then some (.bool true) else some v9).bind fun v11 =>
 (asB v11).bind fun b12 => if b12 = true then
 ((aBin Tryd.prog .rem 131 (s2.1 4) (.int .u64 10)).bind fun v13 =>
 (aBin Tryd.prog .add 131 (.int .u64 48) v13).bind fun v14 =>
 (cvInt .u8 v14).bind fun v15 =>
 (nBuildSlice Tryd.prog 87 1 [(0, v15)]).bind fun nb16 =>
 (cvBytes (nb16.val s2.2.next) (s2.2.new nb16.cells nb16.elem)).bind fun v17 =>
 (aBin Tryd.prog .add 9 v17 (s2.1 3)).bind fun v18 =>
 (aBin Tryd.prog .quo 131 (s2.1 4) (.int .u64 10)).bind fun v19 =>
 some (.normal, (updL s2.1 [(7, (s2.1 3)), (8, v5), (9, v5), (10, v7), (11, v9), (12, v11), (13, (s2.1 4)), (14, v13), (15, v14), (16, v15), (17, (nb16.val s2.2.next)), (18, v17), (19, (s2.1 3)), (20, v18), (3, v18), (21, (s2.1 4)), (22, v19), (4, v19)]), (s2.2.new nb16.cells nb16.elem)))
 else
 (some (.exit 0, (updL s2.1 [(7, (s2.1 3)), (8, v5), (9, v5), (10, v7), (11, v9), (12, v11)]), s2.2))) ((updL (T0 [x0]) [(2, (.str ⟨#[]⟩)), (3, (.str ⟨#[]⟩)), (5, x0), (6, r1.1), (4, r1.1)]), r1.2)).bind fun r3 => match r3.1 with
 | .normal => none
 | .exit j4 => if j4 = 0 then
 (jn (
 (aBin Tryd.prog .lss 2 (r3.2.1 0) (.int .i64 0)).bind fun v20 =>
 (asB v20).bind fun b21 => if b21 = true then
 ((aBin Tryd.prog .add 9 (.str ⟨#[45]⟩) (r3.2.1 3)).bind fun v22 =>
 some (.inl ((updL r3.2.1 [(23, (r3.2.1 0)), (24, v20), (25, (r3.2.1 3)), (26, v22), (3, v22)]), r3.2.2)))
 else
 (some (.inl ((updL r3.2.1 [(23, (r3.2.1 0)), (24, v20)]), r3.2.2))))
 fun T23 H24 =>
 some ((T23 3), H24))
 else
 (none)
 | .ret => some ((r3.2.1 2), r3.2.2)
theorem F64_eq (call : CallF) (it : ItF) (x0 : AV) (H : AH) : aFun Tryd.prog (drawA Tryd.prog) call it 64 [x0] H = F64 call it x0 H :=
 (aFun_eq Tryd.func64 rfl (by kernel_rfl) _ H (Nat.le_of_ble_eq_true (by kernel_rfl))).trans (by kernel_rfl)

noncomputable def F65 (call : CallF) (it : ItF) (x0 : AV) (H : AH) : Option (AV × AH) :=
 jn (
 (aBin Tryd.prog .eql 3 x0 (.int .i64 4)).bind fun v1 =>
 (asB v1).bind fun b2 => if b2 = true then
 (some (.inl ((updL (T0 [x0]) [(2, (.int .i64 0)), (3, x0), (5, v1), (4, v1)]), H)))
 else
 ((aBin Tryd.prog .eql 3 x0 (.int .i64 5)).bind fun v3 =>
 (asB v3).bind fun b4 => if b4 = true then
 (some (.inl ((updL (T0 [x0]) [(2, (.int .i64 0)), (3, x0), (5, v1), (4, v1), (6, v3), (4, v3)]), H)))
 else
 ((aBin Tryd.prog .eql 3 x0 (.int .i64 6)).bind fun v5 =>
 (asB v5).bind fun b6 => if b6 = true then
 (some (.inl ((updL (T0 [x0]) [(2, (.int .i64 0)), (3, x0), (5, v1), (4, v1), (6, v3), (4, v3), (7, v5), (4, v5)]), H)))
 else
 ((aBin Tryd.prog .eql 3 x0 (.int .i64 19)).bind fun v7 =>
 (asB v7).bind fun b8 => if b8 = true then
 (some (.inl ((updL (T0 [x0]) [(2, (.int .i64 0)), (3, x0), (5, v1), (4, v1), (6, v3), (4, v3), (7, v5), (4, v5), (8, v7), (4, v7)]), H)))
 else
 ((aBin Tryd.prog .eql 3 x0 (.int .i64 24)).bind fun v9 =>
 some (.inl ((updL (T0 [x0]) [(2, (.int .i64 0)), (3, x0), (5, v1), (4, v1), (6, v3), (4, v3), (7, v5), (4, v5), (8, v7), (4, v7), (9, v9), (4, v9)]), H)))))))
 fun T10 H11 =>
 (asB (T10 4)).bind fun b12 => if b12 = true then
 (some ((.int .i64 2), H11))
 else
 (jn (
 (aBin Tryd.prog .eql 3 (T10 3) (.int .i64 1)).bind fun v13 =>
 (asB v13).bind fun b14 => if b14 = true then
 (some (.inl ((updL T10 [(11, v13), (10, v13)]), H11)))
 else
 ((aBin Tryd.prog .eql 3 (T10 3) (.int .i64 2)).bind fun v15 =>
 (asB v15).bind fun b16 => if b16 = true then
 (some (.inl ((updL T10 [(11, v13), (10, v13), (12, v15), (10, v15)]), H11)))
 else
 ((aBin Tryd.prog .eql 3 (T10 3) (.int .i64 3)).bind fun v17 =>
 (asB v17).bind fun b18 => if b18 = true then
 (some (.inl ((updL T10 [(11, v13), (10, v13), (12, v15), (10, v15), (13, v17), (10, v17)]), H11)))
 else
 ((aBin Tryd.prog .eql 3 (T10 3) (.int .i64 17)).bind fun v19 =>
 (asB v19).bind fun b20 => if b20 = true then
 (some (.inl ((updL T10 [(11, v13), (10, v13), (12, v15), (10, v15), (13, v17), (10, v17), (14, v19), (10, v19)]), H11)))
 else
 ((aBin Tryd.prog .eql 3 (T10 3) (.int .i64 18)).bind fun v21 =>
 (asB v21).bind fun b22 => if b22 = true then
 (some (.inl ((updL T10 [(11, v13), (10, v13), (12, v15), (10, v15), (13, v17), (10, v17), (14, v19), (10, v19), (15, v21), (10, v21)]), H11)))
 else
 ((aBin Tryd.prog .eql 3 (T10 3) (.int .i64 20)).bind fun v23 =>
 some (.inl ((updL T10 [(11, v13), (10, v13), (12, v15), (10, v15), (13, v17), (10, v17), (14, v19), (10, v19), (15, v21), (10, v21), (16, v23), (10, v23)]), H11))))))))
 fun T24 H25 =>
 (asB (T24 10)).bind fun b26 => if b26 = true then
 (some ((.int .i64 1), H25))
 else
 (some ((.int .i64 0), H25)))
theorem F65_eq (call : CallF) (it : ItF) (x0 : AV) (H : AH) : aFun Tryd.prog (drawA Tryd.prog) call it 65 [x0] H = F65 call it x0 H :=
 (aFun_eq Tryd.func65 rfl (by kernel_rfl) _ H (Nat.le_of_ble_eq_true (by kernel_rfl))).trans (by kernel_rfl)

noncomputable def F66 (call : CallF) (it : ItF) (x0 : AV) (H : AH) : Option (AV × AH) :=
 (aLen Tryd.prog 90 x0).bind fun v1 =>
 (it (fun s2 =>
 (aBin Tryd.prog .lss 3 (s2.1 8) (s2.1 7)).bind fun v5 =>
 (asB v5).bind fun b6 => if b6 = true then
 ((idxSl (s2.1 6) (s2.1 8) 1).bind fun v7 =>
 (ldOne v7 s2.2).bind fun v8 =>
 jn (
 (aBin Tryd.prog .gtr 3 (s2.1 8) (.int .i64 0)).bind fun v9 =>
 (asB v9).bind fun b10 => if b10 = true then
 ((nBuildSlice Tryd.prog 87 1 [(0, (.int .u8 32))]).bind fun nb11 =>
 (aAppend Tryd.prog 87 87 (s2.1 3) (nb11.val s2.2.next) (s2.2.new nb11.cells nb11.elem)).bind fun r12 =>
 some (.inl ((updL s2.1 [(9, v5), (10, (s2.1 8)), (11, v7), (12, v8), (4, (s2.1 8)), (5, v8), (13, (s2.1 8)), (14, v9), (15, (s2.1 3)), (16, (nb11.val s2.2.next)), (17, r12.1), (3, r12.1)]), r12.2)))
 else
 (some (.inl ((updL s2.1 [(9, v5), (10, (s2.1 8)), (11, v7), (12, v8), (4, (s2.1 8)), (5, v8), (13, (s2.1 8)), (14, v9)]), s2.2))))
 fun T13 H14 =>
 (aAppend Tryd.prog 87 9 (T13 3) (T13 5) H14).bind fun r15 =>
 (aBin Tryd.prog .add 3 (T13 8) (.int .i64 1)).bind fun v16 =>
 some (.normal, (updL T13 [(18, (T13 3)), (19, (T13 5)), (20, r15.1), (3, r15.1), (21, v16), (8, v16)]), r15.2))
 else
 (some (.exit 0, (updL s2.1 [(9, v5)]), s2.2))) ((updL (T0 [x0]) [(2, (.str ⟨#[]⟩)), (3, (.slice none 0 (.kn 0))), (6, x0), (7, v1), (8, (.int .i64 0))]), H)).bind fun r3 => match r3.1 with
 | .normal => none
 | .exit j4 => if j4 = 0 then
 ((cvBytes (r3.2.1 3) r3.2.2).bind fun v17 =>
 some (v17, r3.2.2))
 else
 (none)
 | .ret => some ((r3.2.1 2), r3.2.2)
theorem F66_eq (call : CallF) (it : ItF) (x0 : AV) (H : AH) : aFun Tryd.prog (drawA Tryd.prog) call it 66 [x0] H = F66 call it x0 H :=
 (aFun_eq Tryd.func66 rfl (by kernel_rfl) _ H (Nat.le_of_ble_eq_true (by kernel_rfl))).trans (by kernel_rfl)

noncomputable def F69_L0 (call : CallF) (it : ItF) (s68 : St) : Option (Ex × St) :=
 (aBin Tryd.prog .lss 3 (s68.1 50) (s68.1 49)).bind fun v71 =>
 (asB v71).bind fun b72 => if b72 = true then
 ((idxSl (s68.1 48) (s68.1 50) 3).bind fun v73 =>
 (ldAgg v73 3 s68.2).bind fun v74 =>
 (nAlloc Tryd.prog 29).bind fun nb75 =>
 ((aStore Tryd.prog 29 (nb75.val s68.2.next) v74 (s68.2.new nb75.cells nb75.elem)).map fun H' => ((.tuple [] : AV), H')).bind fun r76 =>
 (ldAgg (nb75.val s68.2.next) 3 r76.2).bind fun v77 =>
 (call 94 [(s68.1 0), v77] r76.2).bind fun r78 =>
 (aUn .not r78.1).bind fun v79 =>
 (asB v79).bind fun b80 => if b80 = true then
 (some (.ret, (updL s68.1 [(51, v71), (52, v73), (53, v74), (5, (nb75.val s68.2.next)), (54, (s68.1 0)), (55, v77), (56, r78.1), (57, v79), (2, (.bool false))]), r78.2))
 else
 ((aBin Tryd.prog .add 3 (s68.1 50) (.int .i64 1)).bind fun v81 =>
 some (.normal, (updL s68.1 [(51, v71), (52, v73), (53, v74), (5, (nb75.val s68.2.next)), (54, (s68.1 0)), (55, v77), (56, r78.1), (57, v79), (58, v81), (50, v81)]), r78.2)))
 else
 (some (.exit 0, (updL s68.1 [(51, v71)]), s68.2))
noncomputable def F69 (call : CallF) (it : ItF) (x0 : AV) (H : AH) : Option (AV × AH) :=
 (nilC x0).bind fun v1 =>
 (ptrAdd v1 1).bind fun v2 =>
 (ldAgg v2 4 H).bind fun v3 =>
 (nAlloc Tryd.prog 24).bind fun nb4 =>
 ((aStore Tryd.prog 24 (nb4.val H.next) v3 (H.new nb4.cells nb4.elem)).map fun H' => ((.tuple [] : AV), H')).bind fun r5 =>
 (ptrAdd (nb4.val H.next) 0).bind fun v6 =>
 (ldOne v6 r5.2).bind fun v7 =>
 (aLen Tryd.prog 22 v7).bind fun v8 =>
 (aBin Tryd.prog .lss 3 v8 (.int .i64 1)).bind fun v9 =>
 ((gdv v9 false).bind fun g10 => if g10 = true then (ptrAdd (nb4.val H.next) 0) else some (.tuple [])).bind fun v11 =>
 ((gdv v9 false).bind fun g12 => if g12 = true then (ldOne v11 r5.2) else some (.tuple [])).bind fun v13 =>
 ((gdv v9 false).bind fun g14 => if g14 = true then (aLen Tryd.prog 22 v13) else some (.tuple [])).bind fun v15 =>
 ((gdv v9 false).bind fun g16 => if g16 = true then (aBin Tryd.prog .gtr 3 v15 (.int .i64 65536)) else some (.tuple [])).bind fun v17 =>
 ((asB v9).bind fun b18 => if b18 = true then some (.bool true) else some v17).bind fun v19 =>
 ((gdv v19 false).bind fun g20 => if g20 = true then (ptrAdd (nb4.val H.next) 1) else some (.tuple [])).bind fun v21 =>
 ((gdv v19 false).bind fun g22 => if g22 = true then (ldOne v21 r5.2) else some (.tuple [])).bind fun v23 =>
 ((gdv v19 false).bind fun g24 => if g24 = true then (aBin Tryd.prog .lss 3 v23 (.int .i64 0)) else some (.tuple [])).bind fun v25 =>
 ((asB v19).bind fun b26 => if b26 = true then some (.bool true) else some v25).bind fun v27 =>
 ((gdv v27 false).bind fun g28 => if g28 = true then (ptrAdd (nb4.val H.next) 1) else some (.tuple [])).bind fun v29 =>
 ((gdv v27 false).bind fun g30 => if g30 = true then (ldOne v29 r5.2) else some (.tuple [])).bind fun v31 =>
 ((gdv v27 false).bind fun g32 => if g32 = true then (aBin Tryd.prog .gtr 3 v31 (.int .i64 65536)) else some (.tuple [])).bind fun v33 =>
 ((asB v27).bind fun b34 => if b34 = true then some (.bool true) else some v33).bind fun v35 =>
 ((gdv v35 false).bind fun g36 => if g36 = true then (ptrAdd (nb4.val H.next) 2) else some (.tuple [])).bind fun v37 =>
 ((gdv v35 false).bind fun g38 => if g38 = true then (ldOne v37 r5.2) else some (.tuple [])).bind fun v39 =>
 ((gdv v35 false).bind fun g40 => if g40 = true then (aBin Tryd.prog .lss 3 v39 (.int .i64 0)) else some (.tuple [])).bind fun v41 =>
 ((asB v35).bind fun b42 => if b42 = true then some (.bool true) else some v41).bind fun v43 =>
 ((gdv v43 false).bind fun g44 => if g44 = true then (ptrAdd (nb4.val H.next) 2) else some (.tuple [])).bind fun v45 =>
 ((gdv v43 false).bind fun g46 => if g46 = true then (ldOne v45 r5.2) else some (.tuple [])).bind fun v47 =>
 ((gdv v43 false).bind fun g48 => if g48 = true then (aBin Tryd.prog .gtr 3 v47 (.int .i64 8)) else some (.tuple [])).bind fun v49 =>
 ((asB v43).bind fun b50 => if b50 = true then some (.bool true) else some v49).bind fun v51 =>
 ((gdv v51 false).bind fun g52 => if g52 = true then (ptrAdd (nb4.val H.next) 2) else some (.tuple [])).bind fun v53 =>
 ((gdv v51 false).bind fun g54 => if g54 = true then (ldOne v53 r5.2) else some (.tuple [])).bind fun v55 =>
 ((gdv v51 false).bind fun g56 => if g56 = true then (ptrAdd (nb4.val H.next) 1) else some (.tuple [])).bind fun v57 =>
 ((gdv v51 false).bind fun g58 => if g58 = true then (ldOne v57 r5.2) else some (.tuple [])).bind fun v59 =>
 ((gdv v51 false).bind fun g60 => if g60 = true then (aBin Tryd.prog .gtr 3 v55 v59) else some (.tuple [])).bind fun v61 =>
 ((asB v51).bind fun b62 => if b62 = true then some (.bool true) else some v61).bind fun v63 =>
 (asB v63).bind fun b64 => if b64 = true then
 (some ((.bool false), r5.2))
 else
 ((ptrAdd (nb4.val H.next) 0).bind fun v65 =>
 (ldOne v65 r5.2).bind fun v66 =>
 (aLen Tryd.prog 22 v66).bind fun v67 =>
 (it (F69_L0 call it) ((updL (T0 [x0]) [(2, (.bool false)), (6, x0), (7, v1), (8, v2), (9, v3), (3, (nb4.val H.next)), (10, v6), (11, v7), (12, v8), (13, v9), (14, v9), (15, v11), (16, v13), (17, v15), (18, v17), (19, v19), (20, v19), (21, v21), (22, v23), (23, v25), (24, v27), (25, v27), (26, v29), (27, v31), (28, v33), (29, v35), (30, v35), (31, v37), (32, v39), (33, v41), (34, v43), (35, v43), (36, v45), (37, v47), (38, v49), (39, v51), (40, v51), (41, v53), (42, v55), (43, v57), (44, v59), (45, v61), (46, v63), (47, v65), (48, v66), (49, v67), (50, (.int .i64 0))]), r5.2)).bind fun r69 => match r69.1 with
 | .normal => none
 | .exit j70 => if j70 = 0 then
 ((call 95 [(r69.2.1 0)] r69.2.2).bind fun r82 =>
 some (r82.1, r82.2))
 else
 (none)
 | .ret => some ((r69.2.1 2), r69.2.2))
theorem F69_eq (call : CallF) (it : ItF) (x0 : AV) (H : AH) : aFun Tryd.prog (drawA Tryd.prog) call it 69 [x0] H = F69 call it x0 H :=
 (aFun_eq Tryd.func69 rfl (by kernel_rfl) _ H (Nat.le_of_ble_eq_true (by kernel_rfl))).trans (by kernel_rfl)

noncomputable def F70_L0 (call : CallF) (it : ItF) (s57 : St) : Option (Ex × St) :=
 (aBin Tryd.prog .lss 3 (s57.1 6) (s57.1 5)).bind fun v60 =>
 (asB v60).bind fun b61 => if b61 = true then
 ((ldAgg (s57.1 3) 4 s57.2).bind fun v62 =>
 (ptrAdd (s57.1 3) 0).bind fun v63 =>
 (ldOne v63 s57.2).bind fun v64 =>
 (idxSl v64 (s57.1 6) 3).bind fun v65 =>
 (ldAgg v65 3 s57.2).bind fun v66 =>
 (call 96 [(s57.1 0), v62, v66] s57.2).bind fun r67 =>
 (aUn .not r67.1).bind fun v68 =>
 (asB v68).bind fun b69 => if b69 = true then
 (some (.ret, (updL s57.1 [(43, (s57.1 6)), (44, (s57.1 5)), (45, v60), (48, (s57.1 0)), (49, v62), (50, v63), (51, v64), (52, (s57.1 6)), (53, v65), (54, v66), (55, r67.1), (56, v68), (4, (.bool false))]), r67.2))
 else
 ((aBin Tryd.prog .add 3 (s57.1 6) (.int .i64 1)).bind fun v70 =>
 some (.normal, (updL s57.1 [(43, (s57.1 6)), (44, (s57.1 5)), (45, v60), (48, (s57.1 0)), (49, v62), (50, v63), (51, v64), (52, (s57.1 6)), (53, v65), (54, v66), (55, r67.1), (56, v68), (46, (s57.1 6)), (47, v70), (6, v70)]), r67.2)))
 else
 (some (.exit 0, (updL s57.1 [(43, (s57.1 6)), (44, (s57.1 5)), (45, v60)]), s57.2))
noncomputable def F70 (call : CallF) (it : ItF) (x0 : AV) (x1 : AV) (H : AH) : Option (AV × AH) :=
 (nBox 24 x1).bind fun nb1 =>
 (ptrAdd (nb1.val H.next) 0).bind fun v2 =>
 (ldOne v2 (H.new nb1.cells nb1.elem)).bind fun v3 =>
 (aLen Tryd.prog 22 v3).bind fun v4 =>
 (aBin Tryd.prog .eql 3 v4 (.int .i64 0)).bind fun v5 =>
 ((gdv v5 false).bind fun g6 => if g6 = true then (some v4) else some (.tuple [])).bind fun v7 =>
 ((gdv v5 false).bind fun g8 => if g8 = true then (aBin Tryd.prog .gtr 3 v7 (.int .i64 65536)) else some (.tuple [])).bind fun v9 =>
 ((asB v5).bind fun b10 => if b10 = true then some (.bool true) else some v9).bind fun v11 =>
 ((gdv v11 false).bind fun g12 => if g12 = true then (ptrAdd (nb1.val H.next) 1) else some (.tuple [])).bind fun v13 =>
 ((gdv v11 false).bind fun g14 => if g14 = true then (ldOne v13 (H.new nb1.cells nb1.elem)) else some (.tuple [])).bind fun v15 =>
 ((gdv v11 false).bind fun g16 => if g16 = true then (aBin Tryd.prog .lss 3 v15 (.int .i64 0)) else some (.tuple [])).bind fun v17 =>
 ((asB v11).bind fun b18 => if b18 = true then some (.bool true) else some v17).bind fun v19 =>
 ((gdv v19 false).bind fun g20 => if g20 = true then (ptrAdd (nb1.val H.next) 1) else some (.tuple [])).bind fun v21 =>
 ((gdv v19 false).bind fun g22 => if g22 = true then (ldOne v21 (H.new nb1.cells nb1.elem)) else some (.tuple [])).bind fun v23 =>
 ((gdv v19 false).bind fun g24 => if g24 = true then (aBin Tryd.prog .gtr 3 v23 (.int .i64 65536)) else some (.tuple [])).bind fun v25 =>
 ((asB v19).bind fun b26 => if b26 = true then some (.bool true) else some v25).bind fun v27 =>
 ((gdv v27 false).bind fun g28 => if g28 = true then (ptrAdd (nb1.val H.next) 2) else some (.tuple [])).bind fun v29 =>
 ((gdv v27 false).bind fun g30 => if g30 = true then (ldOne v29 (H.new nb1.cells nb1.elem)) else some (.tuple [])).bind fun v31 =>
 ((gdv v27 false).bind fun g32 => if g32 = true then (aBin Tryd.prog .lss 3 v31 (.int .i64 0)) else some (.tuple [])).bind fun v33 =>
 ((asB v27).bind fun b34 => if b34 = true then some (.bool true) else some v33).bind fun v35 =>
 ((gdv v35 false).bind fun g36 => if g36 = true then (ptrAdd (nb1.val H.next) 2) else some (.tuple [])).bind fun v37 =>
 ((gdv v35 false).bind fun g38 => if g38 = true then (ldOne v37 (H.new nb1.cells nb1.elem)) else some (.tuple [])).bind fun v39 =>
 ((gdv v35 false).bind fun g40 => if g40 = true then (aBin Tryd.prog .gtr 3 v39 (.int .i64 8)) else some (.tuple [])).bind fun v41 =>
 ((asB v35).bind fun b42 => if b42 = true then some (.bool true) else some v41).bind fun v43 =>
 ((gdv v43 false).bind fun g44 => if g44 = true then (ptrAdd (nb1.val H.next) 2) else some (.tuple [])).bind fun v45 =>
 ((gdv v43 false).bind fun g46 => if g46 = true then (ldOne v45 (H.new nb1.cells nb1.elem)) else some (.tuple [])).bind fun v47 =>
 ((gdv v43 false).bind fun g48 => if g48 = true then (ptrAdd (nb1.val H.next) 1) else some (.tuple [])).bind fun v49 =>
 ((gdv v43 false).bind fun g50 => if g50 = true then (ldOne v49 (H.new nb1.cells nb1.elem)) else some (.tuple [])).bind fun v51 =>
 ((gdv v43 false).bind fun g52 => if g52 = true then (aBin Tryd.prog .gtr 3 v47 v51) else some (.tuple [])).bind fun v53 =>
 ((asB v43).bind fun b54 => if b54 = true then some (.bool true) else some v53).bind fun v55 =>
 (asB v55).bind fun b56 => if b56 = true then
 (some ((.bool false), (H.new nb1.cells nb1.elem)))
 else
 ((it (F70_L0 call it) ((updL (T0 [x0, x1]) [(3, (nb1.val H.next)), (4, (.bool false)), (7, v2), (8, v3), (9, v4), (5, v4), (10, v4), (11, v5), (12, v5), (13, v7), (14, v9), (15, v11), (16, v11), (17, v13), (18, v15), (19, v17), (20, v19), (21, v19), (22, v21), (23, v23), (24, v25), (25, v27), (26, v27), (27, v29), (28, v31), (29, v33), (30, v35), (31, v35), (32, v37), (33, v39), (34, v41), (35, v43), (36, v43), (37, v45), (38, v47), (39, v49), (40, v51), (41, v53), (42, v55), (6, (.int .i64 0))]), (H.new nb1.cells nb1.elem))).bind fun r58 => match r58.1 with
 | .normal => none
 | .exit j59 => if j59 = 0 then
 (some ((.bool true), r58.2.2))
 else
 (none)
 | .ret => some ((r58.2.1 4), r58.2.2))
theorem F70_eq (call : CallF) (it : ItF) (x0 : AV) (x1 : AV) (H : AH) : aFun Tryd.prog (drawA Tryd.prog) call it 70 [x0, x1] H = F70 call it x0 x1 H :=
 (aFun_eq Tryd.func70 rfl (by kernel_rfl) _ H (Nat.le_of_ble_eq_true (by kernel_rfl))).trans (by kernel_rfl)

noncomputable def F71 (call : CallF) (it : ItF) (x0 : AV) (x1 : AV) (H : AH) : Option (AV × AH) :=
 (nBox 29 x1).bind fun nb1 =>
 (ptrAdd (nb1.val H.next) 0).bind fun v2 =>
 (ldOne v2 (H.new nb1.cells nb1.elem)).bind fun v3 =>
 (call 92 [v3] (H.new nb1.cells nb1.elem)).bind fun r4 =>
 (nAlloc Tryd.prog 133).bind fun nb5 =>
 ((aStore Tryd.prog 133 (nb5.val r4.2.next) r4.1 (r4.2.new nb5.cells nb5.elem)).map fun H' => ((.tuple [] : AV), H')).bind fun r6 =>
 (ptrAdd (nb1.val H.next) 0).bind fun v7 =>
 (ldOne v7 r6.2).bind fun v8 =>
 (aBin Tryd.prog .eql 3 v8 (.int .i64 20)).bind fun v9 =>
 (asB v9).bind fun b10 => if b10 = true then
 ((ptrAdd (nb1.val H.next) 1).bind fun v11 =>
 (ldOne v11 r6.2).bind fun v12 =>
 some ((.tuple [v12, (.int .i64 0)]), r6.2))
 else
 ((ptrAdd (nb1.val H.next) 0).bind fun v13 =>
 (ldOne v13 r6.2).bind fun v14 =>
 (aBin Tryd.prog .neq 3 v14 (.int .i64 19)).bind fun v15 =>
 (asB v15).bind fun b16 => if b16 = true then
 ((ptrAdd (nb5.val r4.2.next) 2).bind fun v17 =>
 (ldOne v17 r6.2).bind fun v18 =>
 (ptrAdd (nb5.val r4.2.next) 3).bind fun v19 =>
 (ldOne v19 r6.2).bind fun v20 =>
 some ((.tuple [v18, v20]), r6.2))
 else
 ((ptrAdd (nb1.val H.next) 1).bind fun v21 =>
 (ldOne v21 r6.2).bind fun v22 =>
 (idxSl x0 v22 4).bind fun v23 =>
 (ptrAdd v23 3).bind fun v24 =>
 (ldOne v24 r6.2).bind fun v25 =>
 (asB v25).bind fun b26 => if b26 = true then
 ((ptrAdd (nb1.val H.next) 2).bind fun v27 =>
 (ldOne v27 r6.2).bind fun v28 =>
 some ((.tuple [v28, (.int .i64 1)]), r6.2))
 else
 ((ptrAdd (nb1.val H.next) 2).bind fun v29 =>
 (ldOne v29 r6.2).bind fun v30 =>
 some ((.tuple [v30, (.int .i64 0)]), r6.2))))
theorem F71_eq (call : CallF) (it : ItF) (x0 : AV) (x1 : AV) (H : AH) : aFun Tryd.prog (drawA Tryd.prog) call it 71 [x0, x1] H = F71 call it x0 x1 H :=
 (aFun_eq Tryd.func71 rfl (by kernel_rfl) _ H (Nat.le_of_ble_eq_true (by kernel_rfl))).trans (by kernel_rfl)

noncomputable def F72_J0 (call : CallF) (it : ItF) (T23 : Tm) (H24 : AH) : Option (AV × AH) :=
 some ((T23 5), H24)
noncomputable def F72 (call : CallF) (it : ItF) (x0 : AV) (x1 : AV) (H : AH) : Option (AV × AH) :=
 (nBox 29 x0).bind fun nb1 =>
 (ptrAdd (nb1.val H.next) 0).bind fun v2 =>
 (ldOne v2 (H.new nb1.cells nb1.elem)).bind fun v3 =>
 (aBin Tryd.prog .eql 3 v3 (.int .i64 20)).bind fun v4 =>
 (asB v4).bind fun b5 => if b5 = true then
 (some ((.slice none 0 (.kn 0)), (H.new nb1.cells nb1.elem)))
 else
 ((ptrAdd (nb1.val H.next) 0).bind fun v6 =>
 (ldOne v6 (H.new nb1.cells nb1.elem)).bind fun v7 =>
 (aBin Tryd.prog .eql 3 v7 (.int .i64 17)).bind fun v8 =>
 (asB v8).bind fun b9 => if b9 = true then
 ((ptrAdd (nb1.val H.next) 1).bind fun v10 =>
 (ldOne v10 (H.new nb1.cells nb1.elem)).bind fun v11 =>
 (nBuildSlice Tryd.prog 40 1 [(0, v11)]).bind fun nb12 =>
 some ((nb12.val (H.new nb1.cells nb1.elem).next), ((H.new nb1.cells nb1.elem).new nb12.cells nb12.elem)))
 else
 ((aBin Tryd.prog .add 3 x1 (.int .i64 1)).bind fun v13 =>
 (nBuildSlice Tryd.prog 40 1 [(0, v13)]).bind fun nb14 =>
 jn (
 (ptrAdd (nb1.val H.next) 0).bind fun v15 =>
 (ldOne v15 ((H.new nb1.cells nb1.elem).new nb14.cells nb14.elem)).bind fun v16 =>
 (aBin Tryd.prog .eql 3 v16 (.int .i64 18)).bind fun v17 =>
 (asB v17).bind fun b18 => if b18 = true then
 ((ptrAdd (nb1.val H.next) 1).bind fun v19 =>
 (ldOne v19 ((H.new nb1.cells nb1.elem).new nb14.cells nb14.elem)).bind fun v20 =>
 (nBuildSlice Tryd.prog 40 1 [(0, v20)]).bind fun nb21 =>
 (aAppend Tryd.prog 40 40 (nb14.val (H.new nb1.cells nb1.elem).next) (nb21.val ((H.new nb1.cells nb1.elem).new nb14.cells nb14.elem).next) (((H.new nb1.cells nb1.elem).new nb14.cells nb14.elem).new nb21.cells nb21.elem)).bind fun r22 =>
 some (.inl ((updL (T0 [x0, x1]) [(2, (nb1.val H.next)), (4, (.slice none 0 (.kn 0))), (6, v2), (7, v3), (8, v4), (9, v6), (10, v7), (11, v8), (15, x1), (16, v13), (17, (nb14.val (H.new nb1.cells nb1.elem).next)), (5, (nb14.val (H.new nb1.cells nb1.elem).next)), (18, v15), (19, v16), (20, v17), (21, (nb14.val (H.new nb1.cells nb1.elem).next)), (22, v19), (23, v20), (24, (nb21.val ((H.new nb1.cells nb1.elem).new nb14.cells nb14.elem).next)), (25, r22.1), (5, r22.1)]), r22.2)))
 else
 (some (.inl ((updL (T0 [x0, x1]) [(2, (nb1.val H.next)), (4, (.slice none 0 (.kn 0))), (6, v2), (7, v3), (8, v4), (9, v6), (10, v7), (11, v8), (15, x1), (16, v13), (17, (nb14.val (H.new nb1.cells nb1.elem).next)), (5, (nb14.val (H.new nb1.cells nb1.elem).next)), (18, v15), (19, v16), (20, v17)]), ((H.new nb1.cells nb1.elem).new nb14.cells nb14.elem)))))
 (F72_J0 call it)))
theorem F72_eq (call : CallF) (it : ItF) (x0 : AV) (x1 : AV) (H : AH) : aFun Tryd.prog (drawA Tryd.prog) call it 72 [x0, x1] H = F72 call it x0 x1 H :=
 (aFun_eq Tryd.func72 rfl (by kernel_rfl) _ H (Nat.le_of_ble_eq_true (by kernel_rfl))).trans (by kernel_rfl)

noncomputable def F73_L0 (call : CallF) (it : ItF) (s4 : St) : Option (Ex × St) :=
 (aBin Tryd.prog .lss 3 (s4.1 12) (s4.1 11)).bind fun v7 =>
 (asB v7).bind fun b8 => if b8 = true then
 ((call 76 [(s4.1 4), (s4.1 12)] s4.2).bind fun r9 =>
 ((aStore Tryd.prog 108 (s4.1 5) r9.1 r9.2).map fun H' => ((.tuple [] : AV), H')).bind fun r10 =>
 (ptrAdd (s4.1 5) 0).bind fun v11 =>
 (ldOne v11 r10.2).bind fun v12 =>
 (aBin Tryd.prog .gtr 3 v12 (.int .i64 0)).bind fun v13 =>
 (asB v13).bind fun b14 => if b14 = true then
 (some (.exit 0, (updL s4.1 [(13, v7), (14, (s4.1 12)), (7, (s4.1 12)), (15, (s4.1 4)), (16, (s4.1 12)), (17, r9.1), (18, v11), (19, v12), (20, v13), (21, (s4.1 12)), (6, (s4.1 12))]), r10.2))
 else
 ((aBin Tryd.prog .add 3 (s4.1 12) (.int .i64 1)).bind fun v15 =>
 some (.normal, (updL s4.1 [(13, v7), (14, (s4.1 12)), (7, (s4.1 12)), (15, (s4.1 4)), (16, (s4.1 12)), (17, r9.1), (18, v11), (19, v12), (20, v13), (22, v15), (12, v15)]), r10.2)))
 else
 (some (.exit 0, (updL s4.1 [(13, v7)]), s4.2))
noncomputable def F73 (call : CallF) (it : ItF) (x0 : AV) (H : AH) : Option (AV × AH) :=
 (call 75 [x0] H).bind fun r1 =>
 (nAlloc Tryd.prog 108).bind fun nb2 =>
 (aLen Tryd.prog 22 x0).bind fun v3 =>
 (it (F73_L0 call it) ((updL (T0 [x0]) [(2, (.slice none 0 (.kn 0))), (3, (.bool false)), (8, x0), (9, r1.1), (4, r1.1), (5, (nb2.val r1.2.next)), (6, (.int .i64 0)), (10, x0), (11, v3), (12, (.int .i64 0))]), (r1.2.new nb2.cells nb2.elem))).bind fun r5 => match r5.1 with
 | .normal => none
 | .exit j6 => if j6 = 0 then
 ((ptrAdd (r5.2.1 5) 0).bind fun v16 =>
 (ldOne v16 r5.2.2).bind fun v17 =>
 (aBin Tryd.prog .eql 3 v17 (.int .i64 0)).bind fun v18 =>
 (asB v18).bind fun b19 => if b19 = true then
 (some ((.tuple [(r5.2.1 0), (.bool false)]), r5.2.2))
 else
 ((ldAgg (r5.2.1 5) 3 r5.2.2).bind fun v20 =>
 (call 97 [(r5.2.1 4), (r5.2.1 6), v20] r5.2.2).bind fun r21 =>
 some ((.tuple [r21.1, (.bool true)]), r21.2)))
 else
 (none)
 | .ret => some ((.tuple [(r5.2.1 2), (r5.2.1 3)]), r5.2.2)
theorem F73_eq (call : CallF) (it : ItF) (x0 : AV) (H : AH) : aFun Tryd.prog (drawA Tryd.prog) call it 73 [x0] H = F73 call it x0 H :=
 (aFun_eq Tryd.func73 rfl (by kernel_rfl) _ H (Nat.le_of_ble_eq_true (by kernel_rfl))).trans (by kernel_rfl)

end Go.Proofs.YthiflgncldmkjaaDoor
set_option linter.unusedVariables false
set_option maxRecDepth 100000
namespace Go.Proofs.YthiflgncldmkjaaDoor
open Go.Ri

noncomputable def F74_J0 (call : CallF) (it : ItF) (T70 : Tm) (H71 : AH) : Option (Ex × St) :=
 (ldAgg (T70 16) 3 H71).bind fun v72 =>
 (nBuildSlice Tryd.prog 22 1 [(0, v72)]).bind fun nb73 =>
 (aAppend Tryd.prog 22 22 (T70 14) (nb73.val H71.next) (H71.new nb73.cells nb73.elem)).bind fun r74 =>
 (aBin Tryd.prog .add 3 (T70 15) (.int .i64 1)).bind fun v75 =>
 some (.normal, (updL T70 [(89, (T70 14)), (90, v72), (91, (nb73.val H71.next)), (92, r74.1), (14, r74.1), (67, (T70 15)), (68, v75), (15, v75)]), r74.2)
noncomputable def F74_L1 (call : CallF) (it : ItF) (s42 : St) : Option (Ex × St) :=
 (aLen Tryd.prog 22 (s42.1 13)).bind fun v45 =>
 (aBin Tryd.prog .lss 3 (s42.1 15) v45).bind fun v46 =>
 (asB v46).bind fun b47 => if b47 = true then
 ((idxSl (s42.1 13) (s42.1 15) 3).bind fun v48 =>
 (ldAgg v48 3 s42.2).bind fun v49 =>
 (nAlloc Tryd.prog 29).bind fun nb50 =>
 ((aStore Tryd.prog 29 (nb50.val s42.2.next) v49 (s42.2.new nb50.cells nb50.elem)).map fun H' => ((.tuple [] : AV), H')).bind fun r51 =>
 jn (
 (ptrAdd (nb50.val s42.2.next) 0).bind fun v52 =>
 (ldOne v52 r51.2).bind fun v53 =>
 (aBin Tryd.prog .eql 3 v53 (.int .i64 17)).bind fun v54 =>
 ((gdv v54 false).bind fun g55 => if g55 = true then (ptrAdd (nb50.val s42.2.next) 0) else some (.tuple [])).bind fun v56 =>
 ((gdv v54 false).bind fun g57 => if g57 = true then (ldOne v56 r51.2) else some (.tuple [])).bind fun v58 =>
 ((gdv v54 false).bind fun g59 => if g59 = true then (aBin Tryd.prog .eql 3 v58 (.int .i64 18)) else some (.tuple [])).bind fun v60 =>
 ((asB v54).bind fun b61 => if b61 = true then some (.bool true) else some v60).bind fun v62 =>
 (asB v62).bind fun b63 => if b63 = true then
 ((ptrAdd (nb50.val s42.2.next) 1).bind fun v64 =>
 (ldOne v64 r51.2).bind fun v65 =>
 (aLen Tryd.prog 22 (s42.1 12)).bind fun v66 =>
 (call 100 [v65, (s42.1 9), (s42.1 11), v66] r51.2).bind fun r67 =>
 (ptrAdd (nb50.val s42.2.next) 1).bind fun v68 =>
 ((aStore Tryd.prog 2 v68 r67.1 r67.2).map fun H' => ((.tuple [] : AV), H')).bind fun r69 =>
 some (.inl ((updL s42.1 [(63, (s42.1 15)), (64, (s42.1 13)), (65, v45), (66, v46), (69, (s42.1 13)), (70, (s42.1 15)), (71, v48), (72, v49), (16, (nb50.val s42.2.next)), (73, v52), (74, v53), (75, v54), (76, v54), (77, v56), (78, v58), (79, v60), (80, v62), (81, v64), (82, v65), (83, (s42.1 9)), (84, (s42.1 11)), (85, (s42.1 12)), (86, v66), (87, r67.1), (88, v68)]), r69.2)))
 else
 (some (.inl ((updL s42.1 [(63, (s42.1 15)), (64, (s42.1 13)), (65, v45), (66, v46), (69, (s42.1 13)), (70, (s42.1 15)), (71, v48), (72, v49), (16, (nb50.val s42.2.next)), (73, v52), (74, v53), (75, v54), (76, v54), (77, v56), (78, v58), (79, v60), (80, v62)]), r51.2))))
 (F74_J0 call it))
 else
 (some (.exit 2, (updL s42.1 [(63, (s42.1 15)), (64, (s42.1 13)), (65, v45), (66, v46)]), s42.2))
noncomputable def F74_L2 (call : CallF) (it : ItF) (s16 : St) : Option (Ex × St) :=
 (ptrAdd (s16.1 6) 0).bind fun v19 =>
 (ldOne v19 s16.2).bind fun v20 =>
 (aLen Tryd.prog 22 v20).bind fun v21 =>
 (aBin Tryd.prog .lss 3 (s16.1 9) v21).bind fun v22 =>
 (asB v22).bind fun b23 => if b23 = true then
 ((ldAgg (s16.1 6) 3 s16.2).bind fun v24 =>
 (call 99 [v24, (s16.1 9)] s16.2).bind fun r25 =>
 (aExtract r25.1 0).bind fun v26 =>
 (aExtract r25.1 1).bind fun v27 =>
 (aExtract r25.1 2).bind fun v28 =>
 (aBin Tryd.prog .eql 3 v26 (.int .i64 0)).bind fun v29 =>
 (asB v29).bind fun b30 => if b30 = true then
 ((aBin Tryd.prog .add 3 (s16.1 9) (.int .i64 1)).bind fun v31 =>
 some (.normal, (updL s16.1 [(30, (s16.1 9)), (31, v19), (32, v20), (33, v21), (34, v22), (38, v24), (39, (s16.1 9)), (40, r25.1), (37, r25.1), (41, v26), (42, v27), (43, v28), (10, v26), (11, v27), (12, v28), (44, v26), (45, v29), (35, (s16.1 9)), (36, v31), (9, v31)]), r25.2))
 else
 ((ptrAdd (s16.1 6) 0).bind fun v32 =>
 (ldOne v32 r25.2).bind fun v33 =>
 (slSl v33 3 none (some (s16.1 9)) none).bind fun v34 =>
 (aAppend Tryd.prog 22 22 (.slice none 0 (.kn 0)) v34 r25.2).bind fun r35 =>
 (aAppend Tryd.prog 22 22 r35.1 v28 r35.2).bind fun r36 =>
 (ptrAdd (s16.1 6) 0).bind fun v37 =>
 (ldOne v37 r36.2).bind fun v38 =>
 (aBin Tryd.prog .add 3 (s16.1 9) v27).bind fun v39 =>
 (slSl v38 3 (some v39) none none).bind fun v40 =>
 (aAppend Tryd.prog 22 22 r36.1 v40 r36.2).bind fun r41 =>
 (it (F74_L1 call it) ((updL s16.1 [(30, (s16.1 9)), (31, v19), (32, v20), (33, v21), (34, v22), (38, v24), (39, (s16.1 9)), (40, r25.1), (37, r25.1), (41, v26), (42, v27), (43, v28), (10, v26), (11, v27), (12, v28), (44, v26), (45, v29), (13, (.slice none 0 (.kn 0))), (14, (.slice none 0 (.kn 0))), (46, (.slice none 0 (.kn 0))), (47, v32), (48, v33), (49, (s16.1 9)), (50, v34), (51, r35.1), (13, r35.1), (52, r35.1), (53, v28), (54, r36.1), (13, r36.1), (55, r36.1), (56, v37), (57, v38), (58, (s16.1 9)), (59, v27), (60, v39), (61, v40), (62, r41.1), (13, r41.1), (15, (.int .i64 0))]), r41.2)).bind fun r43 => match r43.1 with
 | .normal => none
 | .exit j44 => if j44 = 2 then
 ((ptrAdd (r43.2.1 8) 0).bind fun v76 =>
 ((aStore Tryd.prog 22 v76 (r43.2.1 14) r43.2.2).map fun H' => ((.tuple [] : AV), H')).bind fun r77 =>
 (ldAgg (r43.2.1 8) 4 r77.2).bind fun v78 =>
 ((aStore Tryd.prog 24 (r43.2.1 4) v78 r77.2).map fun H' => ((.tuple [] : AV), H')).bind fun r79 =>
 some (.ret, (updL r43.2.1 [(93, (r43.2.1 14)), (94, v76), (95, v78), (5, (.bool true))]), r79.2))
 else
 (if j44 = 1 then
 ((aBin Tryd.prog .add 3 (r43.2.1 9) (.int .i64 1)).bind fun v80 =>
 some (.normal, (updL r43.2.1 [(35, (r43.2.1 9)), (36, v80), (9, v80)]), r43.2.2))
 else
 (some (.exit j44, r43.2.1, r43.2.2)))
 | .ret => some (.ret, r43.2.1, r43.2.2)))
 else
 (some (.exit 0, (updL s16.1 [(30, (s16.1 9)), (31, v19), (32, v20), (33, v21), (34, v22)]), s16.2))
noncomputable def F74 (call : CallF) (it : ItF) (x0 : AV) (x1 : AV) (H : AH) : Option (AV × AH) :=
 (nAlloc Tryd.prog 24).bind fun nb1 =>
 (call 98 [x0, x1] (H.new nb1.cells nb1.elem)).bind fun r2 =>
 (aExtract r2.1 0).bind fun v3 =>
 (aExtract r2.1 1).bind fun v4 =>
 (nAlloc Tryd.prog 141).bind fun nb5 =>
 ((aStore Tryd.prog 141 (nb5.val r2.2.next) v3 (r2.2.new nb5.cells nb5.elem)).map fun H' => ((.tuple [] : AV), H')).bind fun r6 =>
 (aUn .not v4).bind fun v7 =>
 (asB v7).bind fun b8 => if b8 = true then
 ((aBuild Tryd.prog 24 []).bind fun v9 =>
 ((aStore Tryd.prog 24 (nb1.val H.next) v9 r6.2).map fun H' => ((.tuple [] : AV), H')).bind fun r10 =>
 (((ldAgg (nb1.val H.next) 4 r10.2).bind fun v11 => some (v11 :: ((.bool false) :: []))).map oneOf).map fun v => (v, r10.2))
 else
 ((idxSl x0 x1 4).bind fun v12 =>
 (ldAgg v12 4 r6.2).bind fun v13 =>
 (nAlloc Tryd.prog 24).bind fun nb14 =>
 ((aStore Tryd.prog 24 (nb14.val r6.2.next) v13 (r6.2.new nb14.cells nb14.elem)).map fun H' => ((.tuple [] : AV), H')).bind fun r15 =>
 (it (F74_L2 call it) ((updL (T0 [x0, x1]) [(4, (nb1.val H.next)), (5, (.bool false)), (18, x0), (19, x1), (20, r2.1), (17, r2.1), (21, v3), (22, v4), (6, (nb5.val r2.2.next)), (7, v4), (23, v4), (24, v7), (26, x0), (27, x1), (28, v12), (29, v13), (8, (nb14.val r6.2.next)), (9, (.int .i64 0))]), r15.2)).bind fun r17 => match r17.1 with
 | .normal => none
 | .exit j18 => if j18 = 0 then
 ((ldAgg (r17.2.1 8) 4 r17.2.2).bind fun v81 =>
 ((aStore Tryd.prog 24 (r17.2.1 4) v81 r17.2.2).map fun H' => ((.tuple [] : AV), H')).bind fun r82 =>
 (((ldAgg (r17.2.1 4) 4 r82.2).bind fun v83 => some (v83 :: ((.bool false) :: []))).map oneOf).map fun v => (v, r82.2))
 else
 (none)
 | .ret => (((ldAgg (r17.2.1 4) 4 r17.2.2).bind fun v84 => some (v84 :: ((r17.2.1 5) :: []))).map oneOf).map fun v => (v, r17.2.2))
theorem F74_eq (call : CallF) (it : ItF) (x0 : AV) (x1 : AV) (H : AH) : aFun Tryd.prog (drawA Tryd.prog) call it 74 [x0, x1] H = F74 call it x0 x1 H :=
 (aFun_eq Tryd.func74 rfl (by kernel_rfl) _ H (Nat.le_of_ble_eq_true (by kernel_rfl))).trans (by kernel_rfl)

noncomputable def F75_J0 (call : CallF) (it : ItF) (T44 : Tm) (H45 : AH) : Option (St ⊕ (Ex × St)) :=
 (call 102 [(T44 3), (T44 5)] H45).bind fun r46 =>
 (aAppend Tryd.prog 40 40 (T44 4) r46.1 r46.2).bind fun r47 =>
 some (.inl ((updL T44 [(58, (T44 4)), (59, (T44 3)), (60, (T44 5)), (61, r46.1), (62, r47.1), (4, r47.1)]), r47.2))
noncomputable def F75_J1 (call : CallF) (it : ItF) (T48 : Tm) (H49 : AH) : Option (Ex × St) :=
 some (.normal, T48, H49)
noncomputable def F75_L2 (call : CallF) (it : ItF) (s8 : St) : Option (Ex × St) :=
 (aLen Tryd.prog 40 (s8.1 4)).bind fun v11 =>
 (aBin Tryd.prog .gtr 3 v11 (.int .i64 0)).bind fun v12 =>
 (asB v12).bind fun b13 => if b13 = true then
 (jn (
 (aLen Tryd.prog 40 (s8.1 4)).bind fun v14 =>
 (aBin Tryd.prog .sub 3 v14 (.int .i64 1)).bind fun v15 =>
 (idxSl (s8.1 4) v15 1).bind fun v16 =>
 (ldOne v16 s8.2).bind fun v17 =>
 (aLen Tryd.prog 40 (s8.1 4)).bind fun v18 =>
 (aBin Tryd.prog .sub 3 v18 (.int .i64 1)).bind fun v19 =>
 (slSl (s8.1 4) 1 none (some v19) none).bind fun v20 =>
 (nilC (s8.1 3)).bind fun v21 =>
 (ptrAdd v21 1).bind fun v22 =>
 (ldOne v22 s8.2).bind fun v23 =>
 (idxSl v23 v17 1).bind fun v24 =>
 (ldOne v24 s8.2).bind fun v25 =>
 (asB v25).bind fun b26 => if b26 = true then
 (some (.inl ((updL s8.1 [(16, (s8.1 4)), (17, v11), (18, v12), (19, (s8.1 4)), (20, (s8.1 4)), (21, v14), (22, v15), (23, v16), (24, v17), (5, v17), (25, (s8.1 4)), (26, (s8.1 4)), (27, v18), (28, v19), (29, v20), (4, v20), (30, (s8.1 3)), (31, v21), (32, v22), (33, v23), (34, v17), (35, v24), (36, v25)]), s8.2)))
 else
 ((nilC (s8.1 3)).bind fun v27 =>
 (ptrAdd v27 1).bind fun v28 =>
 (ldOne v28 s8.2).bind fun v29 =>
 (idxSl v29 v17 1).bind fun v30 =>
 ((aStore Tryd.prog 4 v30 (.bool true) s8.2).map fun H' => ((.tuple [] : AV), H')).bind fun r31 =>
 jn (
 (idxSl (s8.1 0) v17 3).bind fun v32 =>
 (ldAgg v32 3 r31.2).bind fun v33 =>
 (call 101 [v33] r31.2).bind fun r34 =>
 (asB r34.1).bind fun b35 => if b35 = true then
 ((nilC (s8.1 3)).bind fun v36 =>
 (ptrAdd v36 2).bind fun v37 =>
 (ldOne v37 r34.2).bind fun v38 =>
 (idxSl (s8.1 0) v17 3).bind fun v39 =>
 (ptrAdd v39 1).bind fun v40 =>
 (ldOne v40 r34.2).bind fun v41 =>
 (idxSl v38 v41 1).bind fun v42 =>
 ((aStore Tryd.prog 4 v42 (.bool true) r34.2).map fun H' => ((.tuple [] : AV), H')).bind fun r43 =>
 some (.inl ((updL s8.1 [(16, (s8.1 4)), (17, v11), (18, v12), (19, (s8.1 4)), (20, (s8.1 4)), (21, v14), (22, v15), (23, v16), (24, v17), (5, v17), (25, (s8.1 4)), (26, (s8.1 4)), (27, v18), (28, v19), (29, v20), (4, v20), (30, (s8.1 3)), (31, v21), (32, v22), (33, v23), (34, v17), (35, v24), (36, v25), (37, (s8.1 3)), (38, v27), (39, v28), (40, v29), (41, v17), (42, v30), (43, (s8.1 0)), (44, v17), (45, v32), (46, v33), (47, r34.1), (48, (s8.1 3)), (49, v36), (50, v37), (51, v38), (52, (s8.1 0)), (53, v17), (54, v39), (55, v40), (56, v41), (57, v42)]), r43.2)))
 else
 (some (.inl ((updL s8.1 [(16, (s8.1 4)), (17, v11), (18, v12), (19, (s8.1 4)), (20, (s8.1 4)), (21, v14), (22, v15), (23, v16), (24, v17), (5, v17), (25, (s8.1 4)), (26, (s8.1 4)), (27, v18), (28, v19), (29, v20), (4, v20), (30, (s8.1 3)), (31, v21), (32, v22), (33, v23), (34, v17), (35, v24), (36, v25), (37, (s8.1 3)), (38, v27), (39, v28), (40, v29), (41, v17), (42, v30), (43, (s8.1 0)), (44, v17), (45, v32), (46, v33), (47, r34.1)]), r34.2))))
 (F75_J0 call it)))
 (F75_J1 call it))
 else
 (some (.exit 0, (updL s8.1 [(16, (s8.1 4)), (17, v11), (18, v12)]), s8.2))
noncomputable def F75 (call : CallF) (it : ItF) (x0 : AV) (H : AH) : Option (AV × AH) :=
 (aLen Tryd.prog 22 x0).bind fun v1 =>
 (nMakeSlice Tryd.prog 139 v1 v1).bind fun nb2 =>
 (aLen Tryd.prog 22 x0).bind fun v3 =>
 (nMakeSlice Tryd.prog 139 v3 v3).bind fun nb4 =>
 (aBuild Tryd.prog 148 [(0, x0), (1, (nb2.val H.next)), (2, (nb4.val (H.next + 1)))]).bind fun v5 =>
 (nBox 148 v5).bind fun nb6 =>
 (nBuildSlice Tryd.prog 40 1 [(0, (.int .i64 0))]).bind fun nb7 =>
 (it (F75_L2 call it) ((updL (T0 [x0]) [(2, (.ptr none)), (6, x0), (7, x0), (8, v1), (9, (nb2.val H.next)), (10, x0), (11, v3), (12, (nb4.val (H.next + 1))), (13, v5), (14, (nb6.val (H.next + 2))), (3, (nb6.val (H.next + 2))), (15, (nb7.val ((((H.res 3).put H.next ⟨nb2.cells, nb2.elem, true⟩).put (H.next + 1) ⟨nb4.cells, nb4.elem, true⟩).put (H.next + 2) ⟨nb6.cells, nb6.elem, true⟩).next)), (4, (nb7.val ((((H.res 3).put H.next ⟨nb2.cells, nb2.elem, true⟩).put (H.next + 1) ⟨nb4.cells, nb4.elem, true⟩).put (H.next + 2) ⟨nb6.cells, nb6.elem, true⟩).next))]), (((((H.res 3).put H.next ⟨nb2.cells, nb2.elem, true⟩).put (H.next + 1) ⟨nb4.cells, nb4.elem, true⟩).put (H.next + 2) ⟨nb6.cells, nb6.elem, true⟩).new nb7.cells nb7.elem))).bind fun r9 => match r9.1 with
 | .normal => none
 | .exit j10 => if j10 = 0 then
 (some ((r9.2.1 3), r9.2.2))
 else
 (none)
 | .ret => some ((r9.2.1 2), r9.2.2)
theorem F75_eq (call : CallF) (it : ItF) (x0 : AV) (H : AH) : aFun Tryd.prog (drawA Tryd.prog) call it 75 [x0] H = F75 call it x0 H :=
 (aFun_eq Tryd.func75 rfl (by kernel_rfl) _ H (Nat.le_of_ble_eq_true (by kernel_rfl))).trans (by kernel_rfl)

noncomputable def F76 (call : CallF) (it : ItF) (x0 : AV) (x1 : AV) (H : AH) : Option (AV × AH) :=
 (nAlloc Tryd.prog 108).bind fun nb1 =>
 (call 103 [x0, x1] (H.new nb1.cells nb1.elem)).bind fun r2 =>
 (nAlloc Tryd.prog 108).bind fun nb3 =>
 ((aStore Tryd.prog 108 (nb3.val r2.2.next) r2.1 (r2.2.new nb3.cells nb3.elem)).map fun H' => ((.tuple [] : AV), H')).bind fun r4 =>
 (ptrAdd (nb3.val r2.2.next) 0).bind fun v5 =>
 (ldOne v5 r4.2).bind fun v6 =>
 (aBin Tryd.prog .gtr 3 v6 (.int .i64 0)).bind fun v7 =>
 (asB v7).bind fun b8 => if b8 = true then
 ((ldAgg (nb3.val r2.2.next) 3 r4.2).bind fun v9 =>
 ((aStore Tryd.prog 108 (nb1.val H.next) v9 r4.2).map fun H' => ((.tuple [] : AV), H')).bind fun r10 =>
 (((ldAgg (nb1.val H.next) 3 r10.2).bind fun v11 => some (v11 :: [])).map oneOf).map fun v => (v, r10.2))
 else
 ((call 104 [x0, x1, (.int .i64 2)] r4.2).bind fun r12 =>
 (aBin Tryd.prog .eql 22 r12.1 (.slice none 0 (.kn 0))).bind fun v13 =>
 (asB v13).bind fun b14 => if b14 = true then
 ((aBuild Tryd.prog 108 []).bind fun v15 =>
 ((aStore Tryd.prog 108 (nb1.val H.next) v15 r12.2).map fun H' => ((.tuple [] : AV), H')).bind fun r16 =>
 (((ldAgg (nb1.val H.next) 3 r16.2).bind fun v17 => some (v17 :: [])).map oneOf).map fun v => (v, r16.2))
 else
 ((idxSl r12.1 (.int .i64 0) 3).bind fun v18 =>
 (ldAgg v18 3 (r12.2.res 1)).bind fun v19 =>
 (idxSl r12.1 (.int .i64 1) 3).bind fun v20 =>
 (ldAgg v20 3 (r12.2.res 1)).bind fun v21 =>
 (call 105 [v19, v21] (r12.2.res 1)).bind fun r22 =>
 (nAlloc Tryd.prog 108).bind fun nb23 =>
 ((aStore Tryd.prog 108 (nb23.val r12.2.next) r22.1 (r22.2.put r12.2.next ⟨nb23.cells, nb23.elem, true⟩)).map fun H' => ((.tuple [] : AV), H')).bind fun r24 =>
 (ptrAdd (nb23.val r12.2.next) 0).bind fun v25 =>
 (ldOne v25 r24.2).bind fun v26 =>
 (aBin Tryd.prog .gtr 3 v26 (.int .i64 0)).bind fun v27 =>
 (asB v27).bind fun b28 => if b28 = true then
 ((ldAgg (nb23.val r12.2.next) 3 r24.2).bind fun v29 =>
 ((aStore Tryd.prog 108 (nb1.val H.next) v29 r24.2).map fun H' => ((.tuple [] : AV), H')).bind fun r30 =>
 (((ldAgg (nb1.val H.next) 3 r30.2).bind fun v31 => some (v31 :: [])).map oneOf).map fun v => (v, r30.2))
 else
 ((call 106 [x0, x1] r24.2).bind fun r32 =>
 (nAlloc Tryd.prog 108).bind fun nb33 =>
 ((aStore Tryd.prog 108 (nb33.val r32.2.next) r32.1 (r32.2.new nb33.cells nb33.elem)).map fun H' => ((.tuple [] : AV), H')).bind fun r34 =>
 (ptrAdd (nb33.val r32.2.next) 0).bind fun v35 =>
 (ldOne v35 r34.2).bind fun v36 =>
 (aBin Tryd.prog .gtr 3 v36 (.int .i64 0)).bind fun v37 =>
 (asB v37).bind fun b38 => if b38 = true then
 ((ldAgg (nb33.val r32.2.next) 3 r34.2).bind fun v39 =>
 ((aStore Tryd.prog 108 (nb1.val H.next) v39 r34.2).map fun H' => ((.tuple [] : AV), H')).bind fun r40 =>
 (((ldAgg (nb1.val H.next) 3 r40.2).bind fun v41 => some (v41 :: [])).map oneOf).map fun v => (v, r40.2))
 else
 ((idxSl r12.1 (.int .i64 0) 3).bind fun v42 =>
 (ldAgg v42 3 r34.2).bind fun v43 =>
 (idxSl r12.1 (.int .i64 1) 3).bind fun v44 =>
 (ldAgg v44 3 r34.2).bind fun v45 =>
 (call 107 [v43, v45] r34.2).bind fun r46 =>
 (aBin Tryd.prog .gtr 3 r46.1 (.int .i64 0)).bind fun v47 =>
 (asB v47).bind fun b48 => if b48 = true then
 ((aBuild Tryd.prog 108 [(0, r46.1), (1, (.int .i64 2)), (2, (.slice none 0 (.kn 0)))]).bind fun v49 =>
 ((aStore Tryd.prog 108 (nb1.val H.next) v49 r46.2).map fun H' => ((.tuple [] : AV), H')).bind fun r50 =>
 (((ldAgg (nb1.val H.next) 3 r50.2).bind fun v51 => some (v51 :: [])).map oneOf).map fun v => (v, r50.2))
 else
 ((idxSl r12.1 (.int .i64 0) 3).bind fun v52 =>
 (ldAgg v52 3 r46.2).bind fun v53 =>
 (idxSl r12.1 (.int .i64 1) 3).bind fun v54 =>
 (ldAgg v54 3 r46.2).bind fun v55 =>
 (call 108 [v53, v55] r46.2).bind fun r56 =>
 ((aStore Tryd.prog 108 (nb1.val H.next) r56.1 r56.2).map fun H' => ((.tuple [] : AV), H')).bind fun r57 =>
 (((ldAgg (nb1.val H.next) 3 r57.2).bind fun v58 => some (v58 :: [])).map oneOf).map fun v => (v, r57.2))))))
theorem F76_eq (call : CallF) (it : ItF) (x0 : AV) (x1 : AV) (H : AH) : aFun Tryd.prog (drawA Tryd.prog) call it 76 [x0, x1] H = F76 call it x0 x1 H :=
 (aFun_eq Tryd.func76 rfl (by kernel_rfl) _ H (Nat.le_of_ble_eq_true (by kernel_rfl))).trans (by kernel_rfl)

end Go.Proofs.YthiflgncldmkjaaDoor
set_option linter.unusedVariables false
set_option maxRecDepth 100000
namespace Go.Proofs.YthiflgncldmkjaaDoor
open Go.Ri

noncomputable def F93 (call : CallF) (it : ItF) (x0 : AV) (H : AH) : Option (AV × AH) :=
 (aBin Tryd.prog .lss 2 x0 (.int .i64 0)).bind fun v1 =>
 (asB v1).bind fun b2 => if b2 = true then
 ((call 115 [x0] H).bind fun r3 =>
 (cvInt .u64 r3.1).bind fun v4 =>
 some (v4, r3.2))
 else
 ((cvInt .u64 x0).bind fun v5 =>
 some (v5, H))
theorem F93_eq (call : CallF) (it : ItF) (x0 : AV) (H : AH) : aFun Tryd.prog (drawA Tryd.prog) call it 93 [x0] H = F93 call it x0 H :=
 (aFun_eq Tryd.func93 rfl (by kernel_rfl) _ H (Nat.le_of_ble_eq_true (by kernel_rfl))).trans (by kernel_rfl)

noncomputable def F94_J0 (call : CallF) (it : ItF) (T47 : Tm) (H48 : AH) : Option (AV × AH) :=
 (asB (T47 38)).bind fun b49 => if b49 = true then
 ((ptrAdd (T47 3) 1).bind fun v50 =>
 (ldOne v50 H48).bind fun v51 =>
 (aBin Tryd.prog .geq 2 v51 (.int .i64 0)).bind fun v52 =>
 ((gdv v52 true).bind fun g53 => if g53 = true then (ptrAdd (T47 3) 1) else some (.tuple [])).bind fun v54 =>
 ((gdv v52 true).bind fun g55 => if g55 = true then (ldOne v54 H48) else some (.tuple [])).bind fun v56 =>
 ((gdv v52 true).bind fun g57 => if g57 = true then (some (T47 0)) else some (.tuple [])).bind fun v58 =>
 ((gdv v52 true).bind fun g59 => if g59 = true then (nilC v58) else some (.tuple [])).bind fun v60 =>
 ((gdv v52 true).bind fun g61 => if g61 = true then (ptrAdd v60 1) else some (.tuple [])).bind fun v62 =>
 ((gdv v52 true).bind fun g63 => if g63 = true then (ptrAdd v62 0) else some (.tuple [])).bind fun v64 =>
 ((gdv v52 true).bind fun g65 => if g65 = true then (ldOne v64 H48) else some (.tuple [])).bind fun v66 =>
 ((gdv v52 true).bind fun g67 => if g67 = true then (aLen Tryd.prog 22 v66) else some (.tuple [])).bind fun v68 =>
 ((gdv v52 true).bind fun g69 => if g69 = true then (aBin Tryd.prog .lss 2 v56 v68) else some (.tuple [])).bind fun v70 =>
 ((asB v52).bind fun b71 => if b71 = true then some v70 else some (.bool false)).bind fun v72 =>
 some (v72, H48))
 else
 ((aBin Tryd.prog .eql 3 (T47 15) (.int .i64 19)).bind fun v73 =>
 (asB v73).bind fun b74 => if b74 = true then
 ((ptrAdd (T47 3) 1).bind fun v75 =>
 (ldOne v75 H48).bind fun v76 =>
 (aBin Tryd.prog .geq 2 v76 (.int .i64 0)).bind fun v77 =>
 ((gdv v77 true).bind fun g78 => if g78 = true then (ptrAdd (T47 3) 1) else some (.tuple [])).bind fun v79 =>
 ((gdv v77 true).bind fun g80 => if g80 = true then (ldOne v79 H48) else some (.tuple [])).bind fun v81 =>
 ((gdv v77 true).bind fun g82 => if g82 = true then (some (T47 0)) else some (.tuple [])).bind fun v83 =>
 ((gdv v77 true).bind fun g84 => if g84 = true then (nilC v83) else some (.tuple [])).bind fun v85 =>
 ((gdv v77 true).bind fun g86 => if g86 = true then (ptrAdd v85 0) else some (.tuple [])).bind fun v87 =>
 ((gdv v77 true).bind fun g88 => if g88 = true then (ldOne v87 H48) else some (.tuple [])).bind fun v89 =>
 ((gdv v77 true).bind fun g90 => if g90 = true then (aLen Tryd.prog 36 v89) else some (.tuple [])).bind fun v91 =>
 ((gdv v77 true).bind fun g92 => if g92 = true then (aBin Tryd.prog .lss 2 v81 v91) else some (.tuple [])).bind fun v93 =>
 ((asB v77).bind fun b94 => if b94 = true then some v93 else some (.bool false)).bind fun v95 =>
 ((gdv v95 true).bind fun g96 => if g96 = true then (ptrAdd (T47 3) 2) else some (.tuple [])).bind fun v97 =>
 ((gdv v95 true).bind fun g98 => if g98 = true then (ldOne v97 H48) else some (.tuple [])).bind fun v99 =>
 ((gdv v95 true).bind fun g100 => if g100 = true then (aBin Tryd.prog .geq 2 v99 (.int .i64 0)) else some (.tuple [])).bind fun v101 =>
 ((asB v95).bind fun b102 => if b102 = true then some v101 else some (.bool false)).bind fun v103 =>
 ((gdv v103 true).bind fun g104 => if g104 = true then (ptrAdd (T47 3) 2) else some (.tuple [])).bind fun v105 =>
 ((gdv v103 true).bind fun g106 => if g106 = true then (ldOne v105 H48) else some (.tuple [])).bind fun v107 =>
 ((gdv v103 true).bind fun g108 => if g108 = true then (aBin Tryd.prog .leq 2 v107 (.int .i64 8)) else some (.tuple [])).bind fun v109 =>
 ((asB v103).bind fun b110 => if b110 = true then some v109 else some (.bool false)).bind fun v111 =>
 ((gdv v111 true).bind fun g112 => if g112 = true then (ptrAdd (T47 3) 2) else some (.tuple [])).bind fun v113 =>
 ((gdv v111 true).bind fun g114 => if g114 = true then (ldOne v113 H48) else some (.tuple [])).bind fun v115 =>
 ((gdv v111 true).bind fun g116 => if g116 = true then (some (T47 0)) else some (.tuple [])).bind fun v117 =>
 ((gdv v111 true).bind fun g118 => if g118 = true then (nilC v117) else some (.tuple [])).bind fun v119 =>
 ((gdv v111 true).bind fun g120 => if g120 = true then (ptrAdd v119 0) else some (.tuple [])).bind fun v121 =>
 ((gdv v111 true).bind fun g122 => if g122 = true then (ldOne v121 H48) else some (.tuple [])).bind fun v123 =>
 ((gdv v111 true).bind fun g124 => if g124 = true then (ptrAdd (T47 3) 1) else some (.tuple [])).bind fun v125 =>
 ((gdv v111 true).bind fun g126 => if g126 = true then (ldOne v125 H48) else some (.tuple [])).bind fun v127 =>
 ((gdv v111 true).bind fun g128 => if g128 = true then (idxSl v123 v127 4) else some (.tuple [])).bind fun v129 =>
 ((gdv v111 true).bind fun g130 => if g130 = true then (ptrAdd v129 2) else some (.tuple [])).bind fun v131 =>
 ((gdv v111 true).bind fun g132 => if g132 = true then (ldOne v131 H48) else some (.tuple [])).bind fun v133 =>
 ((gdv v111 true).bind fun g134 => if g134 = true then (aBin Tryd.prog .eql 2 v115 v133) else some (.tuple [])).bind fun v135 =>
 ((asB v111).bind fun b136 => if b136 = true then some v135 else some (.bool false)).bind fun v137 =>
 some (v137, H48))
 else
 ((aBin Tryd.prog .eql 3 (T47 15) (.int .i64 20)).bind fun v138 =>
 (asB v138).bind fun b139 => if b139 = true then
 ((ptrAdd (T47 3) 1).bind fun v140 =>
 (ldOne v140 H48).bind fun v141 =>
 (aBin Tryd.prog .eql 2 v141 (.int .i64 0)).bind fun v142 =>
 ((gdv v142 true).bind fun g143 => if g143 = true then (some (T47 0)) else some (.tuple [])).bind fun v144 =>
 ((gdv v142 true).bind fun g145 => if g145 = true then (nilC v144) else some (.tuple [])).bind fun v146 =>
 ((gdv v142 true).bind fun g147 => if g147 = true then (ptrAdd v146 1) else some (.tuple [])).bind fun v148 =>
 ((gdv v142 true).bind fun g149 => if g149 = true then (ptrAdd v148 3) else some (.tuple [])).bind fun v150 =>
 ((gdv v142 true).bind fun g151 => if g151 = true then (ldOne v150 H48) else some (.tuple [])).bind fun v152 =>
 ((gdv v142 true).bind fun g153 => if g153 = true then (aUn .not v152) else some (.tuple [])).bind fun v154 =>
 ((asB v142).bind fun b155 => if b155 = true then some v154 else some (.bool false)).bind fun v156 =>
 ((gdv v156 false).bind fun g157 => if g157 = true then (ptrAdd (T47 3) 1) else some (.tuple [])).bind fun v158 =>
 ((gdv v156 false).bind fun g159 => if g159 = true then (ldOne v158 H48) else some (.tuple [])).bind fun v160 =>
 ((gdv v156 false).bind fun g161 => if g161 = true then (aBin Tryd.prog .eql 2 v160 (.int .i64 1)) else some (.tuple [])).bind fun v162 =>
 ((gdv v156 false).bind fun g163 => if g163 = true then (some v162) else some (.tuple [])).bind fun v164 =>
 ((gdv v164 true).bind fun g165 => if g165 = true then (some (T47 0)) else some (.tuple [])).bind fun v166 =>
 ((gdv v164 true).bind fun g167 => if g167 = true then (nilC v166) else some (.tuple [])).bind fun v168 =>
 ((gdv v164 true).bind fun g169 => if g169 = true then (ptrAdd v168 1) else some (.tuple [])).bind fun v170 =>
 ((gdv v164 true).bind fun g171 => if g171 = true then (ptrAdd v170 3) else some (.tuple [])).bind fun v172 =>
 ((gdv v164 true).bind fun g173 => if g173 = true then (ldOne v172 H48) else some (.tuple [])).bind fun v174 =>
 ((gdv v156 false).bind fun g176 => if g176 = true then ((asB v164).bind fun b175 => if b175 = true then some v174 else some (.bool false)) else some (.tuple [])).bind fun v177 =>
 ((asB v156).bind fun b178 => if b178 = true then some (.bool true) else some v177).bind fun v179 =>
 some (v179, H48))
 else
 ((aBin Tryd.prog .eql 3 (T47 15) (.int .i64 24)).bind fun v180 =>
 (asB v180).bind fun b181 => if b181 = true then
 ((ptrAdd (T47 3) 1).bind fun v182 =>
 (ldOne v182 H48).bind fun v183 =>
 (aBin Tryd.prog .geq 2 v183 (.int .i64 0)).bind fun v184 =>
 ((gdv v184 true).bind fun g185 => if g185 = true then (ptrAdd (T47 3) 2) else some (.tuple [])).bind fun v186 =>
 ((gdv v184 true).bind fun g187 => if g187 = true then (ldOne v186 H48) else some (.tuple [])).bind fun v188 =>
 ((gdv v184 true).bind fun g189 => if g189 = true then (aBin Tryd.prog .geq 2 v188 (.int .i64 1)) else some (.tuple [])).bind fun v190 =>
 ((asB v184).bind fun b191 => if b191 = true then some v190 else some (.bool false)).bind fun v192 =>
 ((gdv v192 true).bind fun g193 => if g193 = true then (ptrAdd (T47 3) 2) else some (.tuple [])).bind fun v194 =>
 ((gdv v192 true).bind fun g195 => if g195 = true then (ldOne v194 H48) else some (.tuple [])).bind fun v196 =>
 ((gdv v192 true).bind fun g197 => if g197 = true then (aBin Tryd.prog .leq 2 v196 (.int .i64 3)) else some (.tuple [])).bind fun v198 =>
 ((asB v192).bind fun b199 => if b199 = true then some v198 else some (.bool false)).bind fun v200 =>
 some (v200, H48))
 else
 (some ((.bool true), H48)))))
noncomputable def F94_J1 (call : CallF) (it : ItF) (T24 : Tm) (H25 : AH) : Option (AV × AH) :=
 (asB (T24 23)).bind fun b26 => if b26 = true then
 ((ptrAdd (T24 3) 2).bind fun v27 =>
 (ldOne v27 H25).bind fun v28 =>
 (aBin Tryd.prog .leq 2 v28 (.int .i64 64)).bind fun v29 =>
 ((gdv v29 true).bind fun g30 => if g30 = true then (some (T24 0)) else some (.tuple [])).bind fun v31 =>
 ((gdv v29 true).bind fun g32 => if g32 = true then (ptrAdd (T24 3) 1) else some (.tuple [])).bind fun v33 =>
 ((gdv v29 true).bind fun g34 => if g34 = true then (ldOne v33 H25) else some (.tuple [])).bind fun v35 =>
 ((gdv v29 true).bind fun g36 => if g36 = true then (ptrAdd (T24 3) 2) else some (.tuple [])).bind fun v37 =>
 ((gdv v29 true).bind fun g38 => if g38 = true then (ldOne v37 H25) else some (.tuple [])).bind fun v39 =>
 ((gdv v29 true).bind fun g40 => if g40 = true then (call 116 [v31, v35, v39] H25) else some (.tuple [], H25)).bind fun r41 =>
 ((asB v29).bind fun b42 => if b42 = true then some r41.1 else some (.bool false)).bind fun v43 =>
 some (v43, r41.2))
 else
 (jn (
 (aBin Tryd.prog .eql 3 (T24 15) (.int .i64 17)).bind fun v44 =>
 (asB v44).bind fun b45 => if b45 = true then
 (some (.inl ((updL T24 [(39, v44), (38, v44)]), H25)))
 else
 ((aBin Tryd.prog .eql 3 (T24 15) (.int .i64 18)).bind fun v46 =>
 some (.inl ((updL T24 [(39, v44), (38, v44), (40, v46), (38, v46)]), H25))))
 (F94_J0 call it))
noncomputable def F94_J2 (call : CallF) (it : ItF) (T13 : Tm) (H14 : AH) : Option (AV × AH) :=
 (asB (T13 16)).bind fun b15 => if b15 = true then
 ((ptrAdd (T13 3) 1).bind fun v16 =>
 (ldOne v16 H14).bind fun v17 =>
 (call 116 [(T13 0), v17, (.int .i64 1)] H14).bind fun r18 =>
 some (r18.1, r18.2))
 else
 (jn (
 (aBin Tryd.prog .eql 3 (T13 15) (.int .i64 4)).bind fun v19 =>
 (asB v19).bind fun b20 => if b20 = true then
 (some (.inl ((updL T13 [(24, v19), (23, v19)]), H14)))
 else
 ((aBin Tryd.prog .eql 3 (T13 15) (.int .i64 5)).bind fun v21 =>
 (asB v21).bind fun b22 => if b22 = true then
 (some (.inl ((updL T13 [(24, v19), (23, v19), (25, v21), (23, v21)]), H14)))
 else
 ((aBin Tryd.prog .eql 3 (T13 15) (.int .i64 6)).bind fun v23 =>
 some (.inl ((updL T13 [(24, v19), (23, v19), (25, v21), (23, v21), (26, v23), (23, v23)]), H14)))))
 (F94_J1 call it))
noncomputable def F94 (call : CallF) (it : ItF) (x0 : AV) (x1 : AV) (H : AH) : Option (AV × AH) :=
 (nBox 29 x1).bind fun nb1 =>
 (ldAgg (nb1.val H.next) 3 (H.new nb1.cells nb1.elem)).bind fun v2 =>
 (call 23 [v2] (H.new nb1.cells nb1.elem)).bind fun r3 =>
 (aExtract r3.1 0).bind fun v4 =>
 (aExtract r3.1 1).bind fun v5 =>
 (aBin Tryd.prog .neq 30 v5 (.int .i64 0)).bind fun v6 =>
 (asB v6).bind fun b7 => if b7 = true then
 (some ((.bool false), r3.2))
 else
 ((ptrAdd (nb1.val H.next) 0).bind fun v8 =>
 (ldOne v8 r3.2).bind fun v9 =>
 jn (
 (aBin Tryd.prog .eql 3 v9 (.int .i64 2)).bind fun v10 =>
 (asB v10).bind fun b11 => if b11 = true then
 (some (.inl ((updL (T0 [x0, x1]) [(3, (nb1.val H.next)), (4, (.bool false)), (8, v2), (9, r3.1), (7, r3.1), (10, v4), (11, v5), (5, v4), (6, v5), (12, v5), (13, v6), (14, v8), (15, v9), (17, v10), (16, v10)]), r3.2)))
 else
 ((aBin Tryd.prog .eql 3 v9 (.int .i64 3)).bind fun v12 =>
 some (.inl ((updL (T0 [x0, x1]) [(3, (nb1.val H.next)), (4, (.bool false)), (8, v2), (9, r3.1), (7, r3.1), (10, v4), (11, v5), (5, v4), (6, v5), (12, v5), (13, v6), (14, v8), (15, v9), (17, v10), (16, v10), (18, v12), (16, v12)]), r3.2))))
 (F94_J2 call it))
theorem F94_eq (call : CallF) (it : ItF) (x0 : AV) (x1 : AV) (H : AH) : aFun Tryd.prog (drawA Tryd.prog) call it 94 [x0, x1] H = F94 call it x0 x1 H :=
 (aFun_eq Tryd.func94 rfl (by kernel_rfl) _ H (Nat.le_of_ble_eq_true (by kernel_rfl))).trans (by kernel_rfl)

noncomputable def F95_J0 (call : CallF) (it : ItF) (T141 : Tm) (H142 : AH) : Option (Ex × St) :=
 (aBin Tryd.prog .add 3 (T141 100) (.int .i64 1)).bind fun v143 =>
 some (.normal, (updL T141 [(150, v143), (100, v143)]), H142)
noncomputable def F95_L1 (call : CallF) (it : ItF) (s103 : St) : Option (Ex × St) :=
 (aBin Tryd.prog .lss 3 (s103.1 100) (s103.1 99)).bind fun v106 =>
 (asB v106).bind fun b107 => if b107 = true then
 (jn (
 (idxSl (s103.1 98) (s103.1 100) 1).bind fun v108 =>
 (ldOne v108 s103.2).bind fun v109 =>
 (nilC (s103.1 0)).bind fun v110 =>
 (ptrAdd v110 5).bind fun v111 =>
 (ldOne v111 s103.2).bind fun v112 =>
 (aLen Tryd.prog 40 v112).bind fun v113 =>
 (aBin Tryd.prog .geq 3 v109 v113).bind fun v114 =>
 (asB v114).bind fun b115 => if b115 = true then
 ((some (.ret, (updL s103.1 [(101, v106), (102, v108), (103, v109), (10, v109), (105, v109), (106, (s103.1 0)), (107, v110), (108, v111), (109, v112), (110, v113), (111, v114), (104, v114), (2, (.bool false))]), s103.2)).map .inr)
 else
 ((nilC (s103.1 0)).bind fun v116 =>
 (ptrAdd v116 5).bind fun v117 =>
 (ldOne v117 s103.2).bind fun v118 =>
 (idxSl v118 v109 1).bind fun v119 =>
 (ldOne v119 s103.2).bind fun v120 =>
 (aBin Tryd.prog .lss 3 v120 (.int .i64 0)).bind fun v121 =>
 (asB v121).bind fun b122 => if b122 = true then
 ((nilC (s103.1 0)).bind fun v123 =>
 (ptrAdd v123 5).bind fun v124 =>
 (ldOne v124 s103.2).bind fun v125 =>
 (aBin Tryd.prog .sub 3 (s103.1 6) (s103.1 7)).bind fun v126 =>
 (aBin Tryd.prog .add 3 v126 (s103.1 8)).bind fun v127 =>
 (idxSl v125 v109 1).bind fun v128 =>
 ((aStore Tryd.prog 3 v128 v127 s103.2).map fun H' => ((.tuple [] : AV), H')).bind fun r129 =>
 (nBuildSlice Tryd.prog 40 1 [(0, v109)]).bind fun nb130 =>
 (aAppend Tryd.prog 40 40 (s103.1 3) (nb130.val r129.2.next) (r129.2.new nb130.cells nb130.elem)).bind fun r131 =>
 some (.inl ((updL s103.1 [(101, v106), (102, v108), (103, v109), (10, v109), (105, v109), (106, (s103.1 0)), (107, v110), (108, v111), (109, v112), (110, v113), (111, v114), (104, v114), (113, (s103.1 0)), (114, v116), (115, v117), (116, v118), (117, v109), (118, v119), (119, v120), (120, v121), (112, v121), (121, (s103.1 0)), (122, v123), (123, v124), (124, v125), (125, v109), (126, (s103.1 6)), (127, (s103.1 7)), (128, v126), (129, (s103.1 8)), (130, v127), (131, v128), (132, (s103.1 3)), (133, v109), (134, (nb130.val r129.2.next)), (135, r131.1), (3, r131.1)]), r131.2)))
 else
 ((nilC (s103.1 0)).bind fun v132 =>
 (ptrAdd v132 5).bind fun v133 =>
 (ldOne v133 s103.2).bind fun v134 =>
 (idxSl v134 v109 1).bind fun v135 =>
 (ldOne v135 s103.2).bind fun v136 =>
 (aBin Tryd.prog .sub 3 (s103.1 6) (s103.1 7)).bind fun v137 =>
 (aBin Tryd.prog .add 3 v137 (s103.1 8)).bind fun v138 =>
 (aBin Tryd.prog .neq 3 v136 v138).bind fun v139 =>
 (asB v139).bind fun b140 => if b140 = true then
 ((some (.ret, (updL s103.1 [(101, v106), (102, v108), (103, v109), (10, v109), (105, v109), (106, (s103.1 0)), (107, v110), (108, v111), (109, v112), (110, v113), (111, v114), (104, v114), (113, (s103.1 0)), (114, v116), (115, v117), (116, v118), (117, v109), (118, v119), (119, v120), (120, v121), (112, v121), (137, (s103.1 0)), (138, v132), (139, v133), (140, v134), (141, v109), (142, v135), (143, v136), (144, (s103.1 6)), (145, (s103.1 7)), (146, v137), (147, (s103.1 8)), (148, v138), (149, v139), (136, v139), (2, (.bool false))]), s103.2)).map .inr)
 else
 (some (.inl ((updL s103.1 [(101, v106), (102, v108), (103, v109), (10, v109), (105, v109), (106, (s103.1 0)), (107, v110), (108, v111), (109, v112), (110, v113), (111, v114), (104, v114), (113, (s103.1 0)), (114, v116), (115, v117), (116, v118), (117, v109), (118, v119), (119, v120), (120, v121), (112, v121), (137, (s103.1 0)), (138, v132), (139, v133), (140, v134), (141, v109), (142, v135), (143, v136), (144, (s103.1 6)), (145, (s103.1 7)), (146, v137), (147, (s103.1 8)), (148, v138), (149, v139), (136, v139)]), s103.2))))))
 (F95_J0 call it))
 else
 (some (.exit 4, (updL s103.1 [(101, v106)]), s103.2))
noncomputable def F95_L2 (call : CallF) (it : ItF) (s26 : St) : Option (Ex × St) :=
 (aLen Tryd.prog 40 (s26.1 3)).bind fun v29 =>
 (aBin Tryd.prog .gtr 3 v29 (.int .i64 0)).bind fun v30 =>
 (asB v30).bind fun b31 => if b31 = true then
 ((aLen Tryd.prog 40 (s26.1 3)).bind fun v32 =>
 (aBin Tryd.prog .sub 3 v32 (.int .i64 1)).bind fun v33 =>
 (idxSl (s26.1 3) v33 1).bind fun v34 =>
 (ldOne v34 s26.2).bind fun v35 =>
 (aLen Tryd.prog 40 (s26.1 3)).bind fun v36 =>
 (aBin Tryd.prog .sub 3 v36 (.int .i64 1)).bind fun v37 =>
 (slSl (s26.1 3) 1 none (some v37) none).bind fun v38 =>
 (nilC (s26.1 0)).bind fun v39 =>
 (ptrAdd v39 1).bind fun v40 =>
 (ptrAdd v40 0).bind fun v41 =>
 (ldOne v41 (s26.2.res 1)).bind fun v42 =>
 (idxSl v42 v35 3).bind fun v43 =>
 (ldAgg v43 3 (s26.2.res 1)).bind fun v44 =>
 (nilC (s26.1 0)).bind fun v45 =>
 (ptrAdd v45 5).bind fun v46 =>
 (ldOne v46 (s26.2.res 1)).bind fun v47 =>
 (idxSl v47 v35 1).bind fun v48 =>
 (ldOne v48 (s26.2.res 1)).bind fun v49 =>
 (nAlloc Tryd.prog 29).bind fun nb50 =>
 ((aStore Tryd.prog 29 (nb50.val s26.2.next) v44 ((s26.2.res 1).put s26.2.next ⟨nb50.cells, nb50.elem, true⟩)).map fun H' => ((.tuple [] : AV), H')).bind fun r51 =>
 chkL [((ldOne v48 r51.2), some v49), ((ldOne v46 r51.2), some v47)] ((ldAgg (nb50.val s26.2.next) 3 r51.2).bind fun v52 =>
 (call 117 [(s26.1 0), v52] r51.2).bind fun r53 =>
 (aExtract r53.1 0).bind fun v54 =>
 (aExtract r53.1 1).bind fun v55 =>
 (aBin Tryd.prog .lss 3 v49 v54).bind fun v56 =>
 ((gdv v56 false).bind fun g57 => if g57 = true then (some v49) else some (.tuple [])).bind fun v58 =>
 ((gdv v56 false).bind fun g59 => if g59 = true then (aBin Tryd.prog .gtr 3 v58 (.int .i64 4096)) else some (.tuple [])).bind fun v60 =>
 ((asB v56).bind fun b61 => if b61 = true then some (.bool true) else some v60).bind fun v62 =>
 ((gdv v62 false).bind fun g63 => if g63 = true then (ptrAdd (nb50.val s26.2.next) 0) else some (.tuple [])).bind fun v64 =>
 ((gdv v62 false).bind fun g65 => if g65 = true then (ldOne v64 r53.2) else some (.tuple [])).bind fun v66 =>
 ((gdv v62 false).bind fun g67 => if g67 = true then (aBin Tryd.prog .eql 3 v66 (.int .i64 20)) else some (.tuple [])).bind fun v68 =>
 ((gdv v62 false).bind fun g69 => if g69 = true then (some v68) else some (.tuple [])).bind fun v70 =>
 ((gdv v70 true).bind fun g71 => if g71 = true then (some v49) else some (.tuple [])).bind fun v72 =>
 ((gdv v70 true).bind fun g73 => if g73 = true then (some v54) else some (.tuple [])).bind fun v74 =>
 ((gdv v70 true).bind fun g75 => if g75 = true then (aBin Tryd.prog .neq 3 v72 v74) else some (.tuple [])).bind fun v76 =>
 ((gdv v62 false).bind fun g78 => if g78 = true then ((asB v70).bind fun b77 => if b77 = true then some v76 else some (.bool false)) else some (.tuple [])).bind fun v79 =>
 ((asB v62).bind fun b80 => if b80 = true then some (.bool true) else some v79).bind fun v81 =>
 ((gdv v81 false).bind fun g82 => if g82 = true then (ptrAdd (nb50.val s26.2.next) 0) else some (.tuple [])).bind fun v83 =>
 ((gdv v81 false).bind fun g84 => if g84 = true then (ldOne v83 r53.2) else some (.tuple [])).bind fun v85 =>
 ((gdv v81 false).bind fun g86 => if g86 = true then (aBin Tryd.prog .eql 3 v85 (.int .i64 24)) else some (.tuple [])).bind fun v87 =>
 ((gdv v81 false).bind fun g88 => if g88 = true then (some v87) else some (.tuple [])).bind fun v89 =>
 ((gdv v89 true).bind fun g90 => if g90 = true then (some v49) else some (.tuple [])).bind fun v91 =>
 ((gdv v89 true).bind fun g92 => if g92 = true then (aBin Tryd.prog .neq 3 v91 (.int .i64 0)) else some (.tuple [])).bind fun v93 =>
 ((gdv v81 false).bind fun g95 => if g95 = true then ((asB v89).bind fun b94 => if b94 = true then some v93 else some (.bool false)) else some (.tuple [])).bind fun v96 =>
 ((asB v81).bind fun b97 => if b97 = true then some (.bool true) else some v96).bind fun v98 =>
 (asB v98).bind fun b99 => if b99 = true then
 (some (.ret, (updL s26.1 [(35, (s26.1 3)), (36, v29), (37, v30), (38, (s26.1 3)), (39, (s26.1 3)), (40, v32), (41, v33), (42, v34), (43, v35), (4, v35), (44, (s26.1 3)), (45, (s26.1 3)), (46, v36), (47, v37), (48, v38), (3, v38), (49, (s26.1 0)), (50, v39), (51, v40), (52, v41), (53, v42), (54, v35), (55, v43), (56, v44), (57, (s26.1 0)), (58, v45), (59, v46), (60, v47), (61, v35), (62, v48), (63, v49), (5, (nb50.val s26.2.next)), (6, v49), (65, (s26.1 0)), (66, v52), (67, r53.1), (64, r53.1), (68, v54), (69, v55), (7, v54), (8, v55), (70, v49), (71, v54), (72, v56), (73, v56), (74, v58), (75, v60), (76, v62), (77, v62), (78, v64), (79, v66), (80, v68), (81, v70), (82, v72), (83, v74), (84, v76), (85, v79), (86, v81), (87, v81), (88, v83), (89, v85), (90, v87), (91, v89), (92, v91), (93, v93), (94, v96), (95, v98), (2, (.bool false))]), r53.2))
 else
 ((ldAgg (nb50.val s26.2.next) 3 r53.2).bind fun v100 =>
 (call 118 [v100, v35] r53.2).bind fun r101 =>
 (aLen Tryd.prog 40 r101.1).bind fun v102 =>
 (it (F95_L1 call it) ((updL s26.1 [(35, (s26.1 3)), (36, v29), (37, v30), (38, (s26.1 3)), (39, (s26.1 3)), (40, v32), (41, v33), (42, v34), (43, v35), (4, v35), (44, (s26.1 3)), (45, (s26.1 3)), (46, v36), (47, v37), (48, v38), (3, v38), (49, (s26.1 0)), (50, v39), (51, v40), (52, v41), (53, v42), (54, v35), (55, v43), (56, v44), (57, (s26.1 0)), (58, v45), (59, v46), (60, v47), (61, v35), (62, v48), (63, v49), (5, (nb50.val s26.2.next)), (6, v49), (65, (s26.1 0)), (66, v52), (67, r53.1), (64, r53.1), (68, v54), (69, v55), (7, v54), (8, v55), (70, v49), (71, v54), (72, v56), (73, v56), (74, v58), (75, v60), (76, v62), (77, v62), (78, v64), (79, v66), (80, v68), (81, v70), (82, v72), (83, v74), (84, v76), (85, v79), (86, v81), (87, v81), (88, v83), (89, v85), (90, v87), (91, v89), (92, v91), (93, v93), (94, v96), (95, v98), (96, v100), (97, v35), (98, r101.1), (99, v102), (100, (.int .i64 0))]), r101.2)).bind fun r104 => match r104.1 with
 | .normal => none
 | .exit j105 => if j105 = 4 then
 (some (.normal, r104.2.1, r104.2.2))
 else
 (if j105 = 3 then
 (some (.normal, r104.2.1, r104.2.2))
 else
 (some (.exit j105, r104.2.1, r104.2.2)))
 | .ret => some (.ret, r104.2.1, r104.2.2))))
 else
 (some (.exit 2, (updL s26.1 [(35, (s26.1 3)), (36, v29), (37, v30)]), s26.2))
noncomputable def F95_L3 (call : CallF) (it : ItF) (s6 : St) : Option (Ex × St) :=
 (aBin Tryd.prog .lss 3 (s6.1 17) (s6.1 16)).bind fun v9 =>
 (asB v9).bind fun b10 => if b10 = true then
 ((nilC (s6.1 0)).bind fun v11 =>
 (ptrAdd v11 5).bind fun v12 =>
 (ldOne v12 s6.2).bind fun v13 =>
 (nBuildSlice Tryd.prog 40 1 [(0, (.int .i64 (-1)))]).bind fun nb14 =>
 (aAppend Tryd.prog 40 40 v13 (nb14.val s6.2.next) (s6.2.new nb14.cells nb14.elem)).bind fun r15 =>
 (nilC (s6.1 0)).bind fun v16 =>
 (ptrAdd v16 5).bind fun v17 =>
 ((aStore Tryd.prog 40 v17 r15.1 r15.2).map fun H' => ((.tuple [] : AV), H')).bind fun r18 =>
 (aBin Tryd.prog .add 3 (s6.1 17) (.int .i64 1)).bind fun v19 =>
 some (.normal, (updL s6.1 [(18, v9), (19, (s6.1 0)), (20, (s6.1 0)), (21, v11), (22, v12), (23, v13), (24, (nb14.val s6.2.next)), (25, r15.1), (26, v16), (27, v17), (28, v19), (17, v19)]), r18.2))
 else
 (some (.exit 0, (updL s6.1 [(18, v9)]), s6.2))
noncomputable def F95 (call : CallF) (it : ItF) (x0 : AV) (H : AH) : Option (AV × AH) :=
 (nilC x0).bind fun v1 =>
 (ptrAdd v1 1).bind fun v2 =>
 (ptrAdd v2 0).bind fun v3 =>
 (ldOne v3 H).bind fun v4 =>
 (aLen Tryd.prog 22 v4).bind fun v5 =>
 (it (F95_L3 call it) ((updL (T0 [x0]) [(2, (.bool false)), (11, x0), (12, v1), (13, v2), (14, v3), (15, v4), (16, v5), (17, (.int .i64 0))]), H)).bind fun r7 => match r7.1 with
 | .normal => none
 | .exit j8 => if j8 = 0 then
 ((nilC (r7.2.1 0)).bind fun v20 =>
 (ptrAdd v20 5).bind fun v21 =>
 (ldOne v21 r7.2.2).bind fun v22 =>
 (idxSl v22 (.int .i64 0) 1).bind fun v23 =>
 ((aStore Tryd.prog 3 v23 (.int .i64 0) r7.2.2).map fun H' => ((.tuple [] : AV), H')).bind fun r24 =>
 (nBuildSlice Tryd.prog 40 1 [(0, (.int .i64 0))]).bind fun nb25 =>
 (it (F95_L2 call it) ((updL r7.2.1 [(29, (r7.2.1 0)), (30, v20), (31, v21), (32, v22), (33, v23), (34, (nb25.val r24.2.next)), (3, (nb25.val r24.2.next))]), (r24.2.new nb25.cells nb25.elem))).bind fun r27 => match r27.1 with
 | .normal => none
 | .exit j28 => if j28 = 2 then
 (some ((.bool true), r27.2.2))
 else
 (none)
 | .ret => some ((r27.2.1 2), r27.2.2))
 else
 (none)
 | .ret => some ((r7.2.1 2), r7.2.2)
theorem F95_eq (call : CallF) (it : ItF) (x0 : AV) (H : AH) : aFun Tryd.prog (drawA Tryd.prog) call it 95 [x0] H = F95 call it x0 H :=
 (aFun_eq Tryd.func95 rfl (by kernel_rfl) _ H (Nat.le_of_ble_eq_true (by kernel_rfl))).trans (by kernel_rfl)

noncomputable def F96_J0 (call : CallF) (it : ItF) (T109 : Tm) (H110 : AH) : Option (AV × AH) :=
 (ptrAdd (T109 5) 1).bind fun v111 =>
 (ldOne v111 H110).bind fun v112 =>
 (aBin Tryd.prog .eql 2 v112 (T109 10)).bind fun v113 =>
 some (v113, H110)
noncomputable def F96_J1 (call : CallF) (it : ItF) (T46 : Tm) (H47 : AH) : Option (AV × AH) :=
 (asB (T46 42)).bind fun b48 => if b48 = true then
 ((ptrAdd (T46 5) 1).bind fun v49 =>
 (ldOne v49 H47).bind fun v50 =>
 (aBin Tryd.prog .geq 2 v50 (.int .i64 0)).bind fun v51 =>
 ((gdv v51 true).bind fun g52 => if g52 = true then (ptrAdd (T46 5) 1) else some (.tuple [])).bind fun v53 =>
 ((gdv v51 true).bind fun g54 => if g54 = true then (ldOne v53 H47) else some (.tuple [])).bind fun v55 =>
 ((gdv v51 true).bind fun g56 => if g56 = true then (ptrAdd (T46 4) 0) else some (.tuple [])).bind fun v57 =>
 ((gdv v51 true).bind fun g58 => if g58 = true then (ldOne v57 H47) else some (.tuple [])).bind fun v59 =>
 ((gdv v51 true).bind fun g60 => if g60 = true then (aLen Tryd.prog 22 v59) else some (.tuple [])).bind fun v61 =>
 ((gdv v51 true).bind fun g62 => if g62 = true then (aBin Tryd.prog .lss 2 v55 v61) else some (.tuple [])).bind fun v63 =>
 ((asB v51).bind fun b64 => if b64 = true then some v63 else some (.bool false)).bind fun v65 =>
 some (v65, H47))
 else
 ((aBin Tryd.prog .eql 3 (T46 19) (.int .i64 19)).bind fun v66 =>
 (asB v66).bind fun b67 => if b67 = true then
 ((ptrAdd (T46 5) 1).bind fun v68 =>
 (ldOne v68 H47).bind fun v69 =>
 (aBin Tryd.prog .lss 2 v69 (.int .i64 0)).bind fun v70 =>
 ((gdv v70 false).bind fun g71 => if g71 = true then (ptrAdd (T46 5) 1) else some (.tuple [])).bind fun v72 =>
 ((gdv v70 false).bind fun g73 => if g73 = true then (ldOne v72 H47) else some (.tuple [])).bind fun v74 =>
 ((gdv v70 false).bind fun g75 => if g75 = true then (some (T46 0)) else some (.tuple [])).bind fun v76 =>
 ((gdv v70 false).bind fun g77 => if g77 = true then (aLen Tryd.prog 36 v76) else some (.tuple [])).bind fun v78 =>
 ((gdv v70 false).bind fun g79 => if g79 = true then (aBin Tryd.prog .geq 2 v74 v78) else some (.tuple [])).bind fun v80 =>
 ((asB v70).bind fun b81 => if b81 = true then some (.bool true) else some v80).bind fun v82 =>
 (asB v82).bind fun b83 => if b83 = true then
 (some ((.bool false), H47))
 else
 ((ptrAdd (T46 5) 1).bind fun v84 =>
 (ldOne v84 H47).bind fun v85 =>
 (idxSl (T46 0) v85 4).bind fun v86 =>
 (ptrAdd v86 2).bind fun v87 =>
 (ldOne v87 H47).bind fun v88 =>
 (ptrAdd (T46 5) 2).bind fun v89 =>
 (ldOne v89 H47).bind fun v90 =>
 (aBin Tryd.prog .eql 2 v88 v90).bind fun v91 =>
 ((gdv v91 true).bind fun g92 => if g92 = true then (some v88) else some (.tuple [])).bind fun v93 =>
 ((gdv v91 true).bind fun g94 => if g94 = true then (aBin Tryd.prog .geq 2 v93 (.int .i64 0)) else some (.tuple [])).bind fun v95 =>
 ((asB v91).bind fun b96 => if b96 = true then some v95 else some (.bool false)).bind fun v97 =>
 ((gdv v97 true).bind fun g98 => if g98 = true then (some v88) else some (.tuple [])).bind fun v99 =>
 ((gdv v97 true).bind fun g100 => if g100 = true then (aBin Tryd.prog .leq 2 v99 (.int .i64 8)) else some (.tuple [])).bind fun v101 =>
 ((asB v97).bind fun b102 => if b102 = true then some v101 else some (.bool false)).bind fun v103 =>
 some (v103, H47)))
 else
 ((aBin Tryd.prog .eql 3 (T46 19) (.int .i64 20)).bind fun v104 =>
 (asB v104).bind fun b105 => if b105 = true then
 (jn (
 (ptrAdd (T46 4) 3).bind fun v106 =>
 (ldOne v106 H47).bind fun v107 =>
 (asB v107).bind fun b108 => if b108 = true then
 (some (.inl ((updL T46 [(57, v66), (56, v66), (87, v104), (86, v104), (10, (.int .i64 0)), (88, v106), (89, v107), (10, (.int .i64 1))]), H47)))
 else
 (some (.inl ((updL T46 [(57, v66), (56, v66), (87, v104), (86, v104), (10, (.int .i64 0)), (88, v106), (89, v107)]), H47))))
 (F96_J0 call it))
 else
 ((aBin Tryd.prog .eql 3 (T46 19) (.int .i64 24)).bind fun v114 =>
 (asB v114).bind fun b115 => if b115 = true then
 ((ptrAdd (T46 5) 1).bind fun v116 =>
 (ldOne v116 H47).bind fun v117 =>
 (aBin Tryd.prog .geq 2 v117 (.int .i64 0)).bind fun v118 =>
 ((gdv v118 true).bind fun g119 => if g119 = true then (ptrAdd (T46 5) 2) else some (.tuple [])).bind fun v120 =>
 ((gdv v118 true).bind fun g121 => if g121 = true then (ldOne v120 H47) else some (.tuple [])).bind fun v122 =>
 ((gdv v118 true).bind fun g123 => if g123 = true then (aBin Tryd.prog .geq 2 v122 (.int .i64 1)) else some (.tuple [])).bind fun v124 =>
 ((asB v118).bind fun b125 => if b125 = true then some v124 else some (.bool false)).bind fun v126 =>
 ((gdv v126 true).bind fun g127 => if g127 = true then (ptrAdd (T46 5) 2) else some (.tuple [])).bind fun v128 =>
 ((gdv v126 true).bind fun g129 => if g129 = true then (ldOne v128 H47) else some (.tuple [])).bind fun v130 =>
 ((gdv v126 true).bind fun g131 => if g131 = true then (aBin Tryd.prog .leq 2 v130 (.int .i64 3)) else some (.tuple [])).bind fun v132 =>
 ((asB v126).bind fun b133 => if b133 = true then some v132 else some (.bool false)).bind fun v134 =>
 some (v134, H47))
 else
 (some ((.bool true), H47)))))
noncomputable def F96_J2 (call : CallF) (it : ItF) (T26 : Tm) (H27 : AH) : Option (AV × AH) :=
 (asB (T26 27)).bind fun b28 => if b28 = true then
 ((ldAgg (T26 4) 4 H27).bind fun v29 =>
 (ptrAdd (T26 5) 1).bind fun v30 =>
 (ldOne v30 H27).bind fun v31 =>
 (ptrAdd (T26 5) 2).bind fun v32 =>
 (ldOne v32 H27).bind fun v33 =>
 (call 119 [v29, v31, v33] H27).bind fun r34 =>
 ((gdv r34.1 true).bind fun g35 => if g35 = true then (ptrAdd (T26 5) 2) else some (.tuple [])).bind fun v36 =>
 ((gdv r34.1 true).bind fun g37 => if g37 = true then (ldOne v36 r34.2) else some (.tuple [])).bind fun v38 =>
 ((gdv r34.1 true).bind fun g39 => if g39 = true then (aBin Tryd.prog .leq 2 v38 (.int .i64 64)) else some (.tuple [])).bind fun v40 =>
 ((asB r34.1).bind fun b41 => if b41 = true then some v40 else some (.bool false)).bind fun v42 =>
 some (v42, r34.2))
 else
 (jn (
 (aBin Tryd.prog .eql 3 (T26 19) (.int .i64 17)).bind fun v43 =>
 (asB v43).bind fun b44 => if b44 = true then
 (some (.inl ((updL T26 [(43, v43), (42, v43)]), H27)))
 else
 ((aBin Tryd.prog .eql 3 (T26 19) (.int .i64 18)).bind fun v45 =>
 some (.inl ((updL T26 [(43, v43), (42, v43), (44, v45), (42, v45)]), H27))))
 (F96_J1 call it))
noncomputable def F96_J3 (call : CallF) (it : ItF) (T14 : Tm) (H15 : AH) : Option (AV × AH) :=
 (asB (T14 20)).bind fun b16 => if b16 = true then
 ((ldAgg (T14 4) 4 H15).bind fun v17 =>
 (ptrAdd (T14 5) 1).bind fun v18 =>
 (ldOne v18 H15).bind fun v19 =>
 (call 119 [v17, v19, (.int .i64 1)] H15).bind fun r20 =>
 some (r20.1, r20.2))
 else
 (jn (
 (aBin Tryd.prog .eql 3 (T14 19) (.int .i64 4)).bind fun v21 =>
 (asB v21).bind fun b22 => if b22 = true then
 (some (.inl ((updL T14 [(28, v21), (27, v21)]), H15)))
 else
 ((aBin Tryd.prog .eql 3 (T14 19) (.int .i64 5)).bind fun v23 =>
 (asB v23).bind fun b24 => if b24 = true then
 (some (.inl ((updL T14 [(28, v21), (27, v21), (29, v23), (27, v23)]), H15)))
 else
 ((aBin Tryd.prog .eql 3 (T14 19) (.int .i64 6)).bind fun v25 =>
 some (.inl ((updL T14 [(28, v21), (27, v21), (29, v23), (27, v23), (30, v25), (27, v25)]), H15)))))
 (F96_J2 call it))
noncomputable def F96 (call : CallF) (it : ItF) (x0 : AV) (x1 : AV) (x2 : AV) (H : AH) : Option (AV × AH) :=
 (nBox 24 x1).bind fun nb1 =>
 (nBox 29 x2).bind fun nb2 =>
 (ldAgg (nb2.val (H.new nb1.cells nb1.elem).next) 3 ((H.new nb1.cells nb1.elem).new nb2.cells nb2.elem)).bind fun v3 =>
 (call 63 [v3] ((H.new nb1.cells nb1.elem).new nb2.cells nb2.elem)).bind fun r4 =>
 (aExtract r4.1 0).bind fun v5 =>
 (aExtract r4.1 1).bind fun v6 =>
 (aBin Tryd.prog .neq 30 v6 (.int .i64 0)).bind fun v7 =>
 (asB v7).bind fun b8 => if b8 = true then
 (some ((.bool false), r4.2))
 else
 ((ptrAdd (nb2.val (H.new nb1.cells nb1.elem).next) 0).bind fun v9 =>
 (ldOne v9 r4.2).bind fun v10 =>
 jn (
 (aBin Tryd.prog .eql 3 v10 (.int .i64 2)).bind fun v11 =>
 (asB v11).bind fun b12 => if b12 = true then
 (some (.inl ((updL (T0 [x0, x1, x2]) [(4, (nb1.val H.next)), (5, (nb2.val (H.new nb1.cells nb1.elem).next)), (6, (.bool false)), (12, v3), (13, r4.1), (11, r4.1), (14, v5), (15, v6), (7, v5), (8, v6), (16, v6), (17, v7), (18, v9), (19, v10), (21, v11), (20, v11)]), r4.2)))
 else
 ((aBin Tryd.prog .eql 3 v10 (.int .i64 3)).bind fun v13 =>
 some (.inl ((updL (T0 [x0, x1, x2]) [(4, (nb1.val H.next)), (5, (nb2.val (H.new nb1.cells nb1.elem).next)), (6, (.bool false)), (12, v3), (13, r4.1), (11, r4.1), (14, v5), (15, v6), (7, v5), (8, v6), (16, v6), (17, v7), (18, v9), (19, v10), (21, v11), (20, v11), (22, v13), (20, v13)]), r4.2))))
 (F96_J3 call it))
theorem F96_eq (call : CallF) (it : ItF) (x0 : AV) (x1 : AV) (x2 : AV) (H : AH) : aFun Tryd.prog (drawA Tryd.prog) call it 96 [x0, x1, x2] H = F96 call it x0 x1 x2 H :=
 (aFun_eq Tryd.func96 rfl (by kernel_rfl) _ H (Nat.le_of_ble_eq_true (by kernel_rfl))).trans (by kernel_rfl)

end Go.Proofs.YthiflgncldmkjaaDoor
set_option linter.unusedVariables false
set_option maxRecDepth 100000
namespace Go.Proofs.YthiflgncldmkjaaDoor
open Go.Ri

noncomputable def F97_J0 (call : CallF) (it : ItF) (T58 : Tm) (H59 : AH) : Option (St ⊕ (Ex × St)) :=
 some (.inl (T58, H59))
noncomputable def F97_J1 (call : CallF) (it : ItF) (T60 : Tm) (H61 : AH) : Option (Ex × St) :=
 (aBin Tryd.prog .add 3 (T60 39) (.int .i64 1)).bind fun v62 =>
 some (.normal, (updL T60 [(74, v62), (39, v62)]), H61)
noncomputable def F97_L2 (call : CallF) (it : ItF) (s24 : St) : Option (Ex × St) :=
 (aBin Tryd.prog .lss 3 (s24.1 39) (s24.1 38)).bind fun v27 =>
 (asB v27).bind fun b28 => if b28 = true then
 (jn (
 (idxSl (s24.1 37) (s24.1 39) 3).bind fun v29 =>
 (ldAgg v29 3 s24.2).bind fun v30 =>
 (nAlloc Tryd.prog 29).bind fun nb31 =>
 ((aStore Tryd.prog 29 (nb31.val s24.2.next) v30 (s24.2.new nb31.cells nb31.elem)).map fun H' => ((.tuple [] : AV), H')).bind fun r32 =>
 (ldAgg (nb31.val s24.2.next) 3 r32.2).bind fun v33 =>
 (call 101 [v33] r32.2).bind fun r34 =>
 (aUn .not r34.1).bind fun v35 =>
 (asB v35).bind fun b36 => if b36 = true then
 (some (.inl ((updL s24.1 [(40, v27), (41, (s24.1 39)), (42, v29), (43, v30), (10, (nb31.val s24.2.next)), (9, (s24.1 39)), (44, v33), (45, r34.1), (46, v35)]), r34.2)))
 else
 (jn (
 (ptrAdd (nb31.val s24.2.next) 1).bind fun v37 =>
 (ldOne v37 r34.2).bind fun v38 =>
 (ptrAdd (s24.1 5) 1).bind fun v39 =>
 (ldOne v39 r34.2).bind fun v40 =>
 (aBin Tryd.prog .add 3 (s24.1 1) v40).bind fun v41 =>
 (aBin Tryd.prog .geq 2 v38 v41).bind fun v42 =>
 (asB v42).bind fun b43 => if b43 = true then
 ((idxSl (s24.1 7) (s24.1 39) 3).bind fun v44 =>
 (ptrAdd v44 1).bind fun v45 =>
 (ldOne v45 r34.2).bind fun v46 =>
 (aBin Tryd.prog .sub 2 v46 (s24.1 8)).bind fun v47 =>
 (idxSl (s24.1 7) (s24.1 39) 3).bind fun v48 =>
 (ptrAdd v48 1).bind fun v49 =>
 ((aStore Tryd.prog 2 v49 v47 r34.2).map fun H' => ((.tuple [] : AV), H')).bind fun r50 =>
 some (.inl ((updL s24.1 [(40, v27), (41, (s24.1 39)), (42, v29), (43, v30), (10, (nb31.val s24.2.next)), (9, (s24.1 39)), (44, v33), (45, r34.1), (46, v35), (48, v37), (49, v38), (50, (s24.1 1)), (51, v39), (52, v40), (53, v41), (54, v42), (47, v42), (55, (s24.1 7)), (56, (s24.1 39)), (57, v44), (58, v45), (59, v46), (60, (s24.1 8)), (61, v47), (62, v48), (63, v49)]), r50.2)))
 else
 ((ptrAdd (nb31.val s24.2.next) 1).bind fun v51 =>
 (ldOne v51 r34.2).bind fun v52 =>
 (aBin Tryd.prog .gtr 2 v52 (s24.1 1)).bind fun v53 =>
 (asB v53).bind fun b54 => if b54 = true then
 ((idxSl (s24.1 7) (s24.1 39) 3).bind fun v55 =>
 (ptrAdd v55 1).bind fun v56 =>
 ((aStore Tryd.prog 2 v56 (s24.1 1) r34.2).map fun H' => ((.tuple [] : AV), H')).bind fun r57 =>
 some (.inl ((updL s24.1 [(40, v27), (41, (s24.1 39)), (42, v29), (43, v30), (10, (nb31.val s24.2.next)), (9, (s24.1 39)), (44, v33), (45, r34.1), (46, v35), (48, v37), (49, v38), (50, (s24.1 1)), (51, v39), (52, v40), (53, v41), (54, v42), (47, v42), (65, v51), (66, v52), (67, (s24.1 1)), (68, v53), (64, v53), (69, (s24.1 7)), (70, (s24.1 39)), (71, (s24.1 1)), (72, v55), (73, v56)]), r57.2)))
 else
 (some (.inl ((updL s24.1 [(40, v27), (41, (s24.1 39)), (42, v29), (43, v30), (10, (nb31.val s24.2.next)), (9, (s24.1 39)), (44, v33), (45, r34.1), (46, v35), (48, v37), (49, v38), (50, (s24.1 1)), (51, v39), (52, v40), (53, v41), (54, v42), (47, v42), (65, v51), (66, v52), (67, (s24.1 1)), (68, v53), (64, v53)]), r34.2)))))
 (F97_J0 call it)))
 (F97_J1 call it))
 else
 (some (.exit 0, (updL s24.1 [(40, v27)]), s24.2))
noncomputable def F97 (call : CallF) (it : ItF) (x0 : AV) (x1 : AV) (x2 : AV) (H : AH) : Option (AV × AH) :=
 (nBox 108 x2).bind fun nb1 =>
 (nilC x0).bind fun v2 =>
 (ptrAdd v2 0).bind fun v3 =>
 (ldOne v3 (H.new nb1.cells nb1.elem)).bind fun v4 =>
 (slSl v4 3 none (some x1) (some x1)).bind fun v5 =>
 (ptrAdd (nb1.val H.next) 2).bind fun v6 =>
 (ldOne v6 (H.new nb1.cells nb1.elem)).bind fun v7 =>
 (aAppend Tryd.prog 22 22 v5 v7 (H.new nb1.cells nb1.elem)).bind fun r8 =>
 (nilC x0).bind fun v9 =>
 (ptrAdd v9 0).bind fun v10 =>
 (ldOne v10 r8.2).bind fun v11 =>
 (ptrAdd (nb1.val H.next) 1).bind fun v12 =>
 (ldOne v12 r8.2).bind fun v13 =>
 (aBin Tryd.prog .add 3 x1 v13).bind fun v14 =>
 (slSl v11 3 (some v14) none none).bind fun v15 =>
 (aAppend Tryd.prog 22 22 r8.1 v15 r8.2).bind fun r16 =>
 chkL [((ldOne v12 (H.new nb1.cells nb1.elem)), some v13), ((ldOne v10 (H.new nb1.cells nb1.elem)), some v11)] ((ptrAdd (nb1.val H.next) 1).bind fun v17 =>
 (ldOne v17 r16.2).bind fun v18 =>
 (ptrAdd (nb1.val H.next) 2).bind fun v19 =>
 (ldOne v19 r16.2).bind fun v20 =>
 (aLen Tryd.prog 22 v20).bind fun v21 =>
 (aBin Tryd.prog .sub 3 v18 v21).bind fun v22 =>
 (aLen Tryd.prog 22 r16.1).bind fun v23 =>
 (it (F97_L2 call it) ((updL (T0 [x0, x1, x2]) [(5, (nb1.val H.next)), (6, (.slice none 0 (.kn 0))), (11, x0), (12, v2), (13, v3), (14, v4), (15, x1), (16, x1), (17, v5), (18, v6), (19, v7), (20, r8.1), (21, x0), (22, v9), (23, v10), (24, v11), (25, x1), (26, v12), (27, v13), (28, v14), (29, v15), (30, r16.1), (7, r16.1), (31, v17), (32, v18), (33, v19), (34, v20), (35, v21), (36, v22), (8, v22), (37, r16.1), (38, v23), (39, (.int .i64 0))]), r16.2)).bind fun r25 => match r25.1 with
 | .normal => none
 | .exit j26 => if j26 = 0 then
 (some ((r25.2.1 7), r25.2.2))
 else
 (none)
 | .ret => some ((r25.2.1 6), r25.2.2))
theorem F97_eq (call : CallF) (it : ItF) (x0 : AV) (x1 : AV) (x2 : AV) (H : AH) : aFun Tryd.prog (drawA Tryd.prog) call it 97 [x0, x1, x2] H = F97 call it x0 x1 x2 H :=
 (aFun_eq Tryd.func97 rfl (by kernel_rfl) _ H (Nat.le_of_ble_eq_true (by kernel_rfl))).trans (by kernel_rfl)

noncomputable def F98_J0 (call : CallF) (it : ItF) (T59 : Tm) (H60 : AH) : Option (Ex × St) :=
 (aBin Tryd.prog .add 3 (T59 9) (.int .i64 1)).bind fun v61 =>
 some (.normal, (updL T59 [(34, (T59 9)), (35, v61), (9, v61)]), H60)
noncomputable def F98_L1 (call : CallF) (it : ItF) (s18 : St) : Option (Ex × St) :=
 (aLen Tryd.prog 40 (s18.1 6)).bind fun v21 =>
 (aBin Tryd.prog .lss 3 (s18.1 9) v21).bind fun v22 =>
 (asB v22).bind fun b23 => if b23 = true then
 (jn (
 (ptrAdd (s18.1 8) 0).bind fun v24 =>
 (ldOne v24 s18.2).bind fun v25 =>
 (idxSl v25 (s18.1 9) 3).bind fun v26 =>
 (ldAgg v26 3 s18.2).bind fun v27 =>
 (nAlloc Tryd.prog 29).bind fun nb28 =>
 ((aStore Tryd.prog 29 (nb28.val s18.2.next) v27 (s18.2.new nb28.cells nb28.elem)).map fun H' => ((.tuple [] : AV), H')).bind fun r29 =>
 (idxSl (s18.1 6) (s18.1 9) 1).bind fun v30 =>
 (ldOne v30 r29.2).bind fun v31 =>
 (aBin Tryd.prog .geq 3 v31 (.int .i64 0)).bind fun v32 =>
 ((gdv v32 true).bind fun g33 => if g33 = true then (ptrAdd (nb28.val s18.2.next) 0) else some (.tuple [])).bind fun v34 =>
 ((gdv v32 true).bind fun g35 => if g35 = true then (ldOne v34 r29.2) else some (.tuple [])).bind fun v36 =>
 ((gdv v32 true).bind fun g37 => if g37 = true then (aBin Tryd.prog .eql 3 v36 (.int .i64 17)) else some (.tuple [])).bind fun v38 =>
 ((gdv v32 true).bind fun g39 => if g39 = true then (some v38) else some (.tuple [])).bind fun v40 =>
 ((gdv v40 false).bind fun g41 => if g41 = true then (ptrAdd (nb28.val s18.2.next) 0) else some (.tuple [])).bind fun v42 =>
 ((gdv v40 false).bind fun g43 => if g43 = true then (ldOne v42 r29.2) else some (.tuple [])).bind fun v44 =>
 ((gdv v40 false).bind fun g45 => if g45 = true then (aBin Tryd.prog .eql 3 v44 (.int .i64 18)) else some (.tuple [])).bind fun v46 =>
 ((gdv v32 true).bind fun g48 => if g48 = true then ((asB v40).bind fun b47 => if b47 = true then some (.bool true) else some v46) else some (.tuple [])).bind fun v49 =>
 ((asB v32).bind fun b50 => if b50 = true then some v49 else some (.bool false)).bind fun v51 =>
 (asB v51).bind fun b52 => if b52 = true then
 ((ptrAdd (s18.1 8) 2).bind fun v53 =>
 (ldOne v53 r29.2).bind fun v54 =>
 (ptrAdd (nb28.val s18.2.next) 1).bind fun v55 =>
 (ldOne v55 r29.2).bind fun v56 =>
 (idxSl v54 v56 1).bind fun v57 =>
 ((aStore Tryd.prog 4 v57 (.bool true) r29.2).map fun H' => ((.tuple [] : AV), H')).bind fun r58 =>
 some (.inl ((updL s18.1 [(30, (s18.1 9)), (31, (s18.1 6)), (32, v21), (33, v22), (36, v24), (37, v25), (38, (s18.1 9)), (39, v26), (40, v27), (10, (nb28.val s18.2.next)), (41, (s18.1 6)), (42, (s18.1 9)), (43, v30), (44, v31), (45, v32), (46, v32), (47, v34), (48, v36), (49, v38), (50, v40), (51, v42), (52, v44), (53, v46), (54, v49), (55, v51), (56, v53), (57, v54), (58, v55), (59, v56), (60, v57)]), r58.2)))
 else
 (some (.inl ((updL s18.1 [(30, (s18.1 9)), (31, (s18.1 6)), (32, v21), (33, v22), (36, v24), (37, v25), (38, (s18.1 9)), (39, v26), (40, v27), (10, (nb28.val s18.2.next)), (41, (s18.1 6)), (42, (s18.1 9)), (43, v30), (44, v31), (45, v32), (46, v32), (47, v34), (48, v36), (49, v38), (50, v40), (51, v42), (52, v44), (53, v46), (54, v49), (55, v51)]), r29.2))))
 (F98_J0 call it))
 else
 (some (.exit 0, (updL s18.1 [(30, (s18.1 9)), (31, (s18.1 6)), (32, v21), (33, v22)]), s18.2))
noncomputable def F98 (call : CallF) (it : ItF) (x0 : AV) (x1 : AV) (H : AH) : Option (AV × AH) :=
 (nAlloc Tryd.prog 141).bind fun nb1 =>
 (call 29 [x0, x1] (H.new nb1.cells nb1.elem)).bind fun r2 =>
 (aExtract r2.1 0).bind fun v3 =>
 (aExtract r2.1 1).bind fun v4 =>
 (aUn .not v4).bind fun v5 =>
 (asB v5).bind fun b6 => if b6 = true then
 ((aBuild Tryd.prog 141 []).bind fun v7 =>
 ((aStore Tryd.prog 141 (nb1.val H.next) v7 r2.2).map fun H' => ((.tuple [] : AV), H')).bind fun r8 =>
 (((ldAgg (nb1.val H.next) 3 r8.2).bind fun v9 => some (v9 :: ((.bool false) :: []))).map oneOf).map fun v => (v, r8.2))
 else
 ((idxSl x0 x1 4).bind fun v10 =>
 (ptrAdd v10 0).bind fun v11 =>
 (ldOne v11 (r2.2.res 2)).bind fun v12 =>
 (aLen Tryd.prog 40 v3).bind fun v13 =>
 (nMakeSlice Tryd.prog 139 v13 v13).bind fun nb14 =>
 (aBuild Tryd.prog 141 [(0, v12), (1, v3), (2, (nb14.val r2.2.next))]).bind fun v15 =>
 (nAlloc Tryd.prog 141).bind fun nb16 =>
 ((aStore Tryd.prog 141 (nb16.val (r2.2.next + 1)) v15 (((r2.2.res 2).put r2.2.next ⟨nb14.cells, nb14.elem, true⟩).put (r2.2.next + 1) ⟨nb16.cells, nb16.elem, true⟩)).map fun H' => ((.tuple [] : AV), H')).bind fun r17 =>
 (it (F98_L1 call it) ((updL (T0 [x0, x1]) [(4, (nb1.val H.next)), (5, (.bool false)), (12, x0), (13, x1), (14, r2.1), (11, r2.1), (15, v3), (16, v4), (6, v3), (7, v4), (17, v4), (18, v5), (20, x0), (21, x1), (22, v10), (23, v11), (24, v12), (25, v3), (26, v3), (27, v13), (28, (nb14.val r2.2.next)), (29, v15), (8, (nb16.val (r2.2.next + 1))), (9, (.int .i64 0))]), r17.2)).bind fun r19 => match r19.1 with
 | .normal => none
 | .exit j20 => if j20 = 0 then
 ((ldAgg (r19.2.1 8) 3 r19.2.2).bind fun v62 =>
 ((aStore Tryd.prog 141 (r19.2.1 4) v62 r19.2.2).map fun H' => ((.tuple [] : AV), H')).bind fun r63 =>
 (((ldAgg (r19.2.1 4) 3 r63.2).bind fun v64 => some (v64 :: ((.bool true) :: []))).map oneOf).map fun v => (v, r63.2))
 else
 (none)
 | .ret => (((ldAgg (r19.2.1 4) 3 r19.2.2).bind fun v65 => some (v65 :: ((r19.2.1 5) :: []))).map oneOf).map fun v => (v, r19.2.2))
theorem F98_eq (call : CallF) (it : ItF) (x0 : AV) (x1 : AV) (H : AH) : aFun Tryd.prog (drawA Tryd.prog) call it 98 [x0, x1] H = F98 call it x0 x1 H :=
 (aFun_eq Tryd.func98 rfl (by kernel_rfl) _ H (Nat.le_of_ble_eq_true (by kernel_rfl))).trans (by kernel_rfl)

noncomputable def F99_J0 (call : CallF) (it : ItF) (T158 : Tm) (H159 : AH) : Option (AV × AH) :=
 ((gdv (T158 11) false).bind fun g160 => if g160 = true then (ptrAdd (T158 7) 0) else some (.tuple [])).bind fun v161 =>
 ((gdv (T158 11) false).bind fun g162 => if g162 = true then (ldOne v161 H159) else some (.tuple [])).bind fun v163 =>
 ((gdv (T158 11) false).bind fun g164 => if g164 = true then (aBin Tryd.prog .eql 3 v163 (.int .i64 2)) else some (.tuple [])).bind fun v165 =>
 ((asB (T158 11)).bind fun b166 => if b166 = true then some (.bool true) else some v165).bind fun v167 =>
 ((gdv v167 true).bind fun g168 => if g168 = true then (ptrAdd (T158 8) 0) else some (.tuple [])).bind fun v169 =>
 ((gdv v167 true).bind fun g170 => if g170 = true then (ldOne v169 H159) else some (.tuple [])).bind fun v171 =>
 ((gdv v167 true).bind fun g172 => if g172 = true then (aBin Tryd.prog .eql 3 v171 (.int .i64 25)) else some (.tuple [])).bind fun v173 =>
 ((asB v167).bind fun b174 => if b174 = true then some v173 else some (.bool false)).bind fun v175 =>
 (asB v175).bind fun b176 => if b176 = true then
 (some ((.tuple [(.int .i64 7), (.int .i64 2), (.slice none 0 (.kn 0))]), H159))
 else
 (((gdv (T158 11) true).bind fun g177 => if g177 = true then (ptrAdd (T158 7) 1) else some (.tuple [])).bind fun v178 =>
 ((gdv (T158 11) true).bind fun g179 => if g179 = true then (ldOne v178 H159) else some (.tuple [])).bind fun v180 =>
 ((gdv (T158 11) true).bind fun g181 => if g181 = true then (aBin Tryd.prog .eql 2 v180 (.int .i64 0)) else some (.tuple [])).bind fun v182 =>
 ((asB (T158 11)).bind fun b183 => if b183 = true then some v182 else some (.bool false)).bind fun v184 =>
 ((gdv v184 true).bind fun g185 => if g185 = true then (ptrAdd (T158 8) 0) else some (.tuple [])).bind fun v186 =>
 ((gdv v184 true).bind fun g187 => if g187 = true then (ldOne v186 H159) else some (.tuple [])).bind fun v188 =>
 ((gdv v184 true).bind fun g189 => if g189 = true then (aBin Tryd.prog .eql 3 v188 (.int .i64 7)) else some (.tuple [])).bind fun v190 =>
 ((gdv v184 true).bind fun g191 => if g191 = true then (some v190) else some (.tuple [])).bind fun v192 =>
 ((gdv v192 false).bind fun g193 => if g193 = true then (ptrAdd (T158 8) 0) else some (.tuple [])).bind fun v194 =>
 ((gdv v192 false).bind fun g195 => if g195 = true then (ldOne v194 H159) else some (.tuple [])).bind fun v196 =>
 ((gdv v192 false).bind fun g197 => if g197 = true then (aBin Tryd.prog .eql 3 v196 (.int .i64 8)) else some (.tuple [])).bind fun v198 =>
 ((gdv v184 true).bind fun g200 => if g200 = true then ((asB v192).bind fun b199 => if b199 = true then some (.bool true) else some v198) else some (.tuple [])).bind fun v201 =>
 ((asB v184).bind fun b202 => if b202 = true then some v201 else some (.bool false)).bind fun v203 =>
 ((gdv v203 false).bind fun g204 => if g204 = true then (some (T158 11)) else some (.tuple [])).bind fun v205 =>
 ((gdv v203 false).bind fun g206 => if g206 = true then (some v205) else some (.tuple [])).bind fun v207 =>
 ((gdv v207 true).bind fun g208 => if g208 = true then (ptrAdd (T158 7) 1) else some (.tuple [])).bind fun v209 =>
 ((gdv v207 true).bind fun g210 => if g210 = true then (ldOne v209 H159) else some (.tuple [])).bind fun v211 =>
 ((gdv v207 true).bind fun g212 => if g212 = true then (aBin Tryd.prog .eql 2 v211 (.int .i64 1)) else some (.tuple [])).bind fun v213 =>
 ((gdv v203 false).bind fun g215 => if g215 = true then ((asB v207).bind fun b214 => if b214 = true then some v213 else some (.bool false)) else some (.tuple [])).bind fun v216 =>
 ((gdv v203 false).bind fun g217 => if g217 = true then (some v216) else some (.tuple [])).bind fun v218 =>
 ((gdv v218 true).bind fun g219 => if g219 = true then (ptrAdd (T158 8) 0) else some (.tuple [])).bind fun v220 =>
 ((gdv v218 true).bind fun g221 => if g221 = true then (ldOne v220 H159) else some (.tuple [])).bind fun v222 =>
 ((gdv v218 true).bind fun g223 => if g223 = true then (aBin Tryd.prog .eql 3 v222 (.int .i64 9)) else some (.tuple [])).bind fun v224 =>
 ((gdv v218 true).bind fun g225 => if g225 = true then (some v224) else some (.tuple [])).bind fun v226 =>
 ((gdv v226 false).bind fun g227 => if g227 = true then (ptrAdd (T158 8) 0) else some (.tuple [])).bind fun v228 =>
 ((gdv v226 false).bind fun g229 => if g229 = true then (ldOne v228 H159) else some (.tuple [])).bind fun v230 =>
 ((gdv v226 false).bind fun g231 => if g231 = true then (aBin Tryd.prog .eql 3 v230 (.int .i64 10)) else some (.tuple [])).bind fun v232 =>
 ((gdv v218 true).bind fun g234 => if g234 = true then ((asB v226).bind fun b233 => if b233 = true then some (.bool true) else some v232) else some (.tuple [])).bind fun v235 =>
 ((gdv v203 false).bind fun g237 => if g237 = true then ((asB v218).bind fun b236 => if b236 = true then some v235 else some (.bool false)) else some (.tuple [])).bind fun v238 =>
 ((asB v203).bind fun b239 => if b239 = true then some (.bool true) else some v238).bind fun v240 =>
 (asB v240).bind fun b241 => if b241 = true then
 (some ((.tuple [(.int .i64 8), (.int .i64 2), (.slice none 0 (.kn 0))]), H159))
 else
 ((ptrAdd (T158 7) 0).bind fun v242 =>
 (ldOne v242 H159).bind fun v243 =>
 (aBin Tryd.prog .eql 3 v243 (.int .i64 2)).bind fun v244 =>
 ((gdv v244 true).bind fun g245 => if g245 = true then (ptrAdd (T158 8) 0) else some (.tuple [])).bind fun v246 =>
 ((gdv v244 true).bind fun g247 => if g247 = true then (ldOne v246 H159) else some (.tuple [])).bind fun v248 =>
 ((gdv v244 true).bind fun g249 => if g249 = true then (aBin Tryd.prog .eql 3 v248 (.int .i64 3)) else some (.tuple [])).bind fun v250 =>
 ((asB v244).bind fun b251 => if b251 = true then some v250 else some (.bool false)).bind fun v252 =>
 ((gdv v252 true).bind fun g253 => if g253 = true then (ptrAdd (T158 7) 1) else some (.tuple [])).bind fun v254 =>
 ((gdv v252 true).bind fun g255 => if g255 = true then (ldOne v254 H159) else some (.tuple [])).bind fun v256 =>
 ((gdv v252 true).bind fun g257 => if g257 = true then (ptrAdd (T158 8) 1) else some (.tuple [])).bind fun v258 =>
 ((gdv v252 true).bind fun g259 => if g259 = true then (ldOne v258 H159) else some (.tuple [])).bind fun v260 =>
 ((gdv v252 true).bind fun g261 => if g261 = true then (aBin Tryd.prog .eql 2 v256 v260) else some (.tuple [])).bind fun v262 =>
 ((asB v252).bind fun b263 => if b263 = true then some v262 else some (.bool false)).bind fun v264 =>
 (asB v264).bind fun b265 => if b265 = true then
 (some ((.tuple [(.int .i64 9), (.int .i64 2), (.slice none 0 (.kn 0))]), H159))
 else
 (((gdv (T158 11) true).bind fun g266 => if g266 = true then (ptrAdd (T158 8) 0) else some (.tuple [])).bind fun v267 =>
 ((gdv (T158 11) true).bind fun g268 => if g268 = true then (ldOne v267 H159) else some (.tuple [])).bind fun v269 =>
 ((gdv (T158 11) true).bind fun g270 => if g270 = true then (aBin Tryd.prog .eql 3 v269 (.int .i64 18)) else some (.tuple [])).bind fun v271 =>
 ((asB (T158 11)).bind fun b272 => if b272 = true then some v271 else some (.bool false)).bind fun v273 =>
 (asB v273).bind fun b274 => if b274 = true then
 ((ptrAdd (T158 7) 1).bind fun v275 =>
 (ldOne v275 H159).bind fun v276 =>
 (aBin Tryd.prog .eql 2 v276 (.int .i64 0)).bind fun v277 =>
 (asB v277).bind fun b278 => if b278 = true then
 ((ptrAdd (T158 8) 1).bind fun v279 =>
 (ldOne v279 (H159.res 1)).bind fun v280 =>
 (aBuild Tryd.prog 29 [(0, (.int .i64 17)), (1, v280)]).bind fun v281 =>
 (nBuildSlice Tryd.prog 22 1 [(0, v281)]).bind fun nb282 =>
 some ((.tuple [(.int .i64 10), (.int .i64 2), (nb282.val H159.next)]), ((H159.res 1).put H159.next ⟨nb282.cells, nb282.elem, true⟩)))
 else
 (some ((.tuple [(.int .i64 10), (.int .i64 2), (.slice none 0 (.kn 0))]), H159)))
 else
 (((gdv (T158 11) true).bind fun g283 => if g283 = true then (ptrAdd (T158 7) 1) else some (.tuple [])).bind fun v284 =>
 ((gdv (T158 11) true).bind fun g285 => if g285 = true then (ldOne v284 H159) else some (.tuple [])).bind fun v286 =>
 ((gdv (T158 11) true).bind fun g287 => if g287 = true then (aBin Tryd.prog .neq 2 v286 (.int .i64 0)) else some (.tuple [])).bind fun v288 =>
 ((asB (T158 11)).bind fun b289 => if b289 = true then some v288 else some (.bool false)).bind fun v290 =>
 ((gdv v290 true).bind fun g291 => if g291 = true then (ptrAdd (T158 8) 0) else some (.tuple [])).bind fun v292 =>
 ((gdv v290 true).bind fun g293 => if g293 = true then (ldOne v292 H159) else some (.tuple [])).bind fun v294 =>
 ((gdv v290 true).bind fun g295 => if g295 = true then (aBin Tryd.prog .eql 3 v294 (.int .i64 23)) else some (.tuple [])).bind fun v296 =>
 ((asB v290).bind fun b297 => if b297 = true then some v296 else some (.bool false)).bind fun v298 =>
 (asB v298).bind fun b299 => if b299 = true then
 (some ((.tuple [(.int .i64 11), (.int .i64 2), (.slice none 0 (.kn 0))]), H159))
 else
 ((ptrAdd (T158 7) 0).bind fun v300 =>
 (ldOne v300 H159).bind fun v301 =>
 (aBin Tryd.prog .eql 3 v301 (.int .i64 6)).bind fun v302 =>
 ((gdv v302 true).bind fun g303 => if g303 = true then (ptrAdd (T158 8) 0) else some (.tuple [])).bind fun v304 =>
 ((gdv v302 true).bind fun g305 => if g305 = true then (ldOne v304 H159) else some (.tuple [])).bind fun v306 =>
 ((gdv v302 true).bind fun g307 => if g307 = true then (aBin Tryd.prog .eql 3 v306 (.int .i64 6)) else some (.tuple [])).bind fun v308 =>
 ((asB v302).bind fun b309 => if b309 = true then some v308 else some (.bool false)).bind fun v310 =>
 ((gdv v310 true).bind fun g311 => if g311 = true then (ptrAdd (T158 8) 1) else some (.tuple [])).bind fun v312 =>
 ((gdv v310 true).bind fun g313 => if g313 = true then (ldOne v312 H159) else some (.tuple [])).bind fun v314 =>
 ((gdv v310 true).bind fun g315 => if g315 = true then (ptrAdd (T158 7) 1) else some (.tuple [])).bind fun v316 =>
 ((gdv v310 true).bind fun g317 => if g317 = true then (ldOne v316 H159) else some (.tuple [])).bind fun v318 =>
 ((gdv v310 true).bind fun g319 => if g319 = true then (aBin Tryd.prog .sub 2 v314 v318) else some (.tuple [])).bind fun v320 =>
 ((gdv v310 true).bind fun g321 => if g321 = true then (ptrAdd (T158 7) 2) else some (.tuple [])).bind fun v322 =>
 ((gdv v310 true).bind fun g323 => if g323 = true then (ldOne v322 H159) else some (.tuple [])).bind fun v324 =>
 ((gdv v310 true).bind fun g325 => if g325 = true then (aBin Tryd.prog .eql 2 v320 v324) else some (.tuple [])).bind fun v326 =>
 ((asB v310).bind fun b327 => if b327 = true then some v326 else some (.bool false)).bind fun v328 =>
 ((gdv v328 true).bind fun g329 => if g329 = true then (ptrAdd (T158 7) 2) else some (.tuple [])).bind fun v330 =>
 ((gdv v328 true).bind fun g331 => if g331 = true then (ldOne v330 H159) else some (.tuple [])).bind fun v332 =>
 ((gdv v328 true).bind fun g333 => if g333 = true then (ptrAdd (T158 8) 2) else some (.tuple [])).bind fun v334 =>
 ((gdv v328 true).bind fun g335 => if g335 = true then (ldOne v334 H159) else some (.tuple [])).bind fun v336 =>
 ((gdv v328 true).bind fun g337 => if g337 = true then (aBin Tryd.prog .add 2 v332 v336) else some (.tuple [])).bind fun v338 =>
 ((gdv v328 true).bind fun g339 => if g339 = true then (aBin Tryd.prog .leq 2 v338 (.int .i64 64)) else some (.tuple [])).bind fun v340 =>
 ((asB v328).bind fun b341 => if b341 = true then some v340 else some (.bool false)).bind fun v342 =>
 (asB v342).bind fun b343 => if b343 = true then
 ((ptrAdd (T158 7) 1).bind fun v344 =>
 (ldOne v344 (H159.res 1)).bind fun v345 =>
 (ptrAdd (T158 7) 2).bind fun v346 =>
 (ldOne v346 (H159.res 1)).bind fun v347 =>
 (ptrAdd (T158 8) 2).bind fun v348 =>
 (ldOne v348 (H159.res 1)).bind fun v349 =>
 (aBin Tryd.prog .add 2 v347 v349).bind fun v350 =>
 (aBuild Tryd.prog 29 [(0, (.int .i64 6)), (1, v345), (2, v350)]).bind fun v351 =>
 (nBuildSlice Tryd.prog 22 1 [(0, v351)]).bind fun nb352 =>
 some ((.tuple [(.int .i64 12), (.int .i64 2), (nb352.val H159.next)]), ((H159.res 1).put H159.next ⟨nb352.cells, nb352.elem, true⟩)))
 else
 (some ((.tuple [(.int .i64 0), (.int .i64 0), (.slice none 0 (.kn 0))]), H159)))))))
noncomputable def F99_J1 (call : CallF) (it : ItF) (T106 : Tm) (H107 : AH) : Option (AV × AH) :=
 (ptrAdd (T106 7) 0).bind fun v108 =>
 (ldOne v108 H107).bind fun v109 =>
 (aBin Tryd.prog .eql 3 v109 (.int .i64 1)).bind fun v110 =>
 ((gdv v110 true).bind fun g111 => if g111 = true then (ptrAdd (T106 8) 0) else some (.tuple [])).bind fun v112 =>
 ((gdv v110 true).bind fun g113 => if g113 = true then (ldOne v112 H107) else some (.tuple [])).bind fun v114 =>
 ((gdv v110 true).bind fun g115 => if g115 = true then (aBin Tryd.prog .eql 3 v114 (.int .i64 16)) else some (.tuple [])).bind fun v116 =>
 ((asB v110).bind fun b117 => if b117 = true then some v116 else some (.bool false)).bind fun v118 =>
 (asB v118).bind fun b119 => if b119 = true then
 ((ptrAdd (T106 7) 1).bind fun v120 =>
 (ldOne v120 H107).bind fun v121 =>
 (call 115 [v121] H107).bind fun r122 =>
 (call 121 [r122.1] r122.2).bind fun r123 =>
 some ((.tuple [(.int .i64 5), (.int .i64 2), r123.1]), r123.2))
 else
 (((gdv v110 true).bind fun g124 => if g124 = true then (ptrAdd (T106 8) 0) else some (.tuple [])).bind fun v125 =>
 ((gdv v110 true).bind fun g126 => if g126 = true then (ldOne v125 H107) else some (.tuple [])).bind fun v127 =>
 ((gdv v110 true).bind fun g128 => if g128 = true then (aBin Tryd.prog .eql 3 v127 (.int .i64 15)) else some (.tuple [])).bind fun v129 =>
 ((asB v110).bind fun b130 => if b130 = true then some v129 else some (.bool false)).bind fun v131 =>
 (asB v131).bind fun b132 => if b132 = true then
 ((ptrAdd (T106 7) 1).bind fun v133 =>
 (ldOne v133 H107).bind fun v134 =>
 (aBin Tryd.prog .eql 2 v134 (.int .i64 0)).bind fun v135 =>
 (call 122 [v135] H107).bind fun r136 =>
 (call 121 [r136.1] r136.2).bind fun r137 =>
 some ((.tuple [(.int .i64 5), (.int .i64 2), r137.1]), r137.2))
 else
 (jn (
 ((gdv v110 true).bind fun g138 => if g138 = true then (ptrAdd (T106 8) 0) else some (.tuple [])).bind fun v139 =>
 ((gdv v110 true).bind fun g140 => if g140 = true then (ldOne v139 H107) else some (.tuple [])).bind fun v141 =>
 ((gdv v110 true).bind fun g142 => if g142 = true then (aBin Tryd.prog .eql 3 v141 (.int .i64 1)) else some (.tuple [])).bind fun v143 =>
 ((asB v110).bind fun b144 => if b144 = true then some v143 else some (.bool false)).bind fun v145 =>
 (asB v145).bind fun b146 => if b146 = true then
 ((ptrAdd (T106 9) 0).bind fun v147 =>
 (ldOne v147 H107).bind fun v148 =>
 (ptrAdd (T106 7) 1).bind fun v149 =>
 (ldOne v149 H107).bind fun v150 =>
 (ptrAdd (T106 8) 1).bind fun v151 =>
 (ldOne v151 H107).bind fun v152 =>
 (call 123 [v148, v150, v152] H107).bind fun r153 =>
 (aExtract r153.1 0).bind fun v154 =>
 (aExtract r153.1 1).bind fun v155 =>
 (asB v155).bind fun b156 => if b156 = true then
 ((call 121 [v154] r153.2).bind fun r157 =>
 (some ((.tuple [(.int .i64 6), (.int .i64 3), r157.1]), r157.2)).map .inr)
 else
 (some (.inl ((updL T106 [(87, v108), (88, v109), (89, v110), (11, v110), (90, v110), (91, v110), (92, v112), (93, v114), (94, v116), (95, v118), (100, v110), (101, v110), (102, v125), (103, v127), (104, v129), (105, v131), (111, v110), (112, v110), (113, v139), (114, v141), (115, v143), (116, v145), (118, v147), (119, v148), (120, v149), (121, v150), (122, v151), (123, v152), (124, r153.1), (117, r153.1), (125, v154), (126, v155), (12, v154), (13, v155), (127, v155)]), r153.2))))
 else
 (some (.inl ((updL T106 [(87, v108), (88, v109), (89, v110), (11, v110), (90, v110), (91, v110), (92, v112), (93, v114), (94, v116), (95, v118), (100, v110), (101, v110), (102, v125), (103, v127), (104, v129), (105, v131), (111, v110), (112, v110), (113, v139), (114, v141), (115, v143), (116, v145)]), H107))))
 (F99_J0 call it)))
noncomputable def F99_J2 (call : CallF) (it : ItF) (T22 : Tm) (H23 : AH) : Option (AV × AH) :=
 (ptrAdd (T22 2) 1).bind fun v24 =>
 (ldOne v24 H23).bind fun v25 =>
 (idxSl v25 (T22 1) 1).bind fun v26 =>
 (ldOne v26 H23).bind fun v27 =>
 (aBin Tryd.prog .lss 3 v27 (.int .i64 0)).bind fun v28 =>
 (asB v28).bind fun b29 => if b29 = true then
 (some ((.tuple [(.int .i64 1), (.int .i64 1), (.slice none 0 (.kn 0))]), H23))
 else
 ((ptrAdd (T22 7) 0).bind fun v30 =>
 (ldOne v30 H23).bind fun v31 =>
 (aBin Tryd.prog .eql 3 v31 (.int .i64 17)).bind fun v32 =>
 ((gdv v32 true).bind fun g33 => if g33 = true then (ptrAdd (T22 7) 1) else some (.tuple [])).bind fun v34 =>
 ((gdv v32 true).bind fun g35 => if g35 = true then (ldOne v34 H23) else some (.tuple [])).bind fun v36 =>
 ((gdv v32 true).bind fun g37 => if g37 = true then (some (T22 1)) else some (.tuple [])).bind fun v38 =>
 ((gdv v32 true).bind fun g39 => if g39 = true then (aBin Tryd.prog .add 2 v38 (.int .i64 1)) else some (.tuple [])).bind fun v40 =>
 ((gdv v32 true).bind fun g41 => if g41 = true then (aBin Tryd.prog .eql 2 v36 v40) else some (.tuple [])).bind fun v42 =>
 ((asB v32).bind fun b43 => if b43 = true then some v42 else some (.bool false)).bind fun v44 =>
 (asB v44).bind fun b45 => if b45 = true then
 (some ((.tuple [(.int .i64 2), (.int .i64 1), (.slice none 0 (.kn 0))]), H23))
 else
 ((ptrAdd (T22 7) 0).bind fun v46 =>
 (ldOne v46 H23).bind fun v47 =>
 (aBin Tryd.prog .eql 3 v47 (.int .i64 18)).bind fun v48 =>
 ((gdv v48 true).bind fun g49 => if g49 = true then (ptrAdd (T22 7) 1) else some (.tuple [])).bind fun v50 =>
 ((gdv v48 true).bind fun g51 => if g51 = true then (ldOne v50 H23) else some (.tuple [])).bind fun v52 =>
 ((gdv v48 true).bind fun g53 => if g53 = true then (some (T22 1)) else some (.tuple [])).bind fun v54 =>
 ((gdv v48 true).bind fun g55 => if g55 = true then (aBin Tryd.prog .add 2 v54 (.int .i64 1)) else some (.tuple [])).bind fun v56 =>
 ((gdv v48 true).bind fun g57 => if g57 = true then (aBin Tryd.prog .eql 2 v52 v56) else some (.tuple [])).bind fun v58 =>
 ((asB v48).bind fun b59 => if b59 = true then some v58 else some (.bool false)).bind fun v60 =>
 (asB v60).bind fun b61 => if b61 = true then
 ((aBuild Tryd.prog 29 [(0, (.int .i64 25))]).bind fun v62 =>
 (nBuildSlice Tryd.prog 22 1 [(0, v62)]).bind fun nb63 =>
 some ((.tuple [(.int .i64 3), (.int .i64 1), (nb63.val H23.next)]), (H23.new nb63.cells nb63.elem)))
 else
 (jn (
 (ptrAdd (T22 7) 0).bind fun v64 =>
 (ldOne v64 H23).bind fun v65 =>
 (aBin Tryd.prog .eql 3 v65 (.int .i64 17)).bind fun v66 =>
 ((gdv v66 false).bind fun g67 => if g67 = true then (ptrAdd (T22 7) 0) else some (.tuple [])).bind fun v68 =>
 ((gdv v66 false).bind fun g69 => if g69 = true then (ldOne v68 H23) else some (.tuple [])).bind fun v70 =>
 ((gdv v66 false).bind fun g71 => if g71 = true then (aBin Tryd.prog .eql 3 v70 (.int .i64 18)) else some (.tuple [])).bind fun v72 =>
 ((asB v66).bind fun b73 => if b73 = true then some (.bool true) else some v72).bind fun v74 =>
 (asB v74).bind fun b75 => if b75 = true then
 ((ptrAdd (T22 2) 0).bind fun v76 =>
 (ldOne v76 H23).bind fun v77 =>
 (ptrAdd (T22 7) 1).bind fun v78 =>
 (ldOne v78 H23).bind fun v79 =>
 (idxSl v77 v79 3).bind fun v80 =>
 (ldAgg v80 3 H23).bind fun v81 =>
 (nAlloc Tryd.prog 29).bind fun nb82 =>
 ((aStore Tryd.prog 29 (nb82.val H23.next) v81 (H23.new nb82.cells nb82.elem)).map fun H' => ((.tuple [] : AV), H')).bind fun r83 =>
 (ptrAdd (nb82.val H23.next) 0).bind fun v84 =>
 (ldOne v84 r83.2).bind fun v85 =>
 (aBin Tryd.prog .eql 3 v85 (.int .i64 17)).bind fun v86 =>
 ((gdv v86 true).bind fun g87 => if g87 = true then (ptrAdd (nb82.val H23.next) 1) else some (.tuple [])).bind fun v88 =>
 ((gdv v86 true).bind fun g89 => if g89 = true then (ldOne v88 r83.2) else some (.tuple [])).bind fun v90 =>
 ((gdv v86 true).bind fun g91 => if g91 = true then (ptrAdd (T22 7) 1) else some (.tuple [])).bind fun v92 =>
 ((gdv v86 true).bind fun g93 => if g93 = true then (ldOne v92 r83.2) else some (.tuple [])).bind fun v94 =>
 ((gdv v86 true).bind fun g95 => if g95 = true then (aBin Tryd.prog .gtr 2 v90 v94) else some (.tuple [])).bind fun v96 =>
 ((asB v86).bind fun b97 => if b97 = true then some v96 else some (.bool false)).bind fun v98 =>
 (asB v98).bind fun b99 => if b99 = true then
 ((ptrAdd (T22 7) 0).bind fun v100 =>
 (ldOne v100 (r83.2.res 1)).bind fun v101 =>
 (ptrAdd (nb82.val H23.next) 1).bind fun v102 =>
 (ldOne v102 (r83.2.res 1)).bind fun v103 =>
 (aBuild Tryd.prog 29 [(0, v101), (1, v103)]).bind fun v104 =>
 (nBuildSlice Tryd.prog 22 1 [(0, v104)]).bind fun nb105 =>
 (some ((.tuple [(.int .i64 4), (.int .i64 1), (nb105.val r83.2.next)]), ((r83.2.res 1).put r83.2.next ⟨nb105.cells, nb105.elem, true⟩))).map .inr)
 else
 (some (.inl ((updL T22 [(29, v24), (30, v25), (31, (T22 1)), (32, v26), (33, v27), (34, v28), (35, v30), (36, v31), (37, v32), (38, v32), (39, v34), (40, v36), (41, v38), (42, v40), (43, v42), (44, v44), (45, v46), (46, v47), (47, v48), (48, v48), (49, v50), (50, v52), (51, v54), (52, v56), (53, v58), (54, v60), (57, v64), (58, v65), (59, v66), (60, v66), (61, v68), (62, v70), (63, v72), (64, v74), (65, v76), (66, v77), (67, v78), (68, v79), (69, v80), (70, v81), (10, (nb82.val H23.next)), (71, v84), (72, v85), (73, v86), (74, v86), (75, v88), (76, v90), (77, v92), (78, v94), (79, v96), (80, v98)]), r83.2))))
 else
 (some (.inl ((updL T22 [(29, v24), (30, v25), (31, (T22 1)), (32, v26), (33, v27), (34, v28), (35, v30), (36, v31), (37, v32), (38, v32), (39, v34), (40, v36), (41, v38), (42, v40), (43, v42), (44, v44), (45, v46), (46, v47), (47, v48), (48, v48), (49, v50), (50, v52), (51, v54), (52, v56), (53, v58), (54, v60), (57, v64), (58, v65), (59, v66), (60, v66), (61, v68), (62, v70), (63, v72), (64, v74)]), H23))))
 (F99_J1 call it))))
noncomputable def F99 (call : CallF) (it : ItF) (x0 : AV) (x1 : AV) (H : AH) : Option (AV × AH) :=
 (nBox 141 x0).bind fun nb1 =>
 (ldAgg (nb1.val H.next) 3 ((H.new nb1.cells nb1.elem).res 2)).bind fun v2 =>
 (call 120 [v2, x1, (.bool true)] ((H.new nb1.cells nb1.elem).res 2)).bind fun r3 =>
 (ldAgg (nb1.val H.next) 3 r3.2).bind fun v4 =>
 (aBin Tryd.prog .add 3 x1 (.int .i64 1)).bind fun v5 =>
 (call 120 [v4, v5, (.bool false)] r3.2).bind fun r6 =>
 (nAlloc Tryd.prog 29).bind fun nb7 =>
 (nAlloc Tryd.prog 29).bind fun nb8 =>
 ((aStore Tryd.prog 29 (nb7.val (H.new nb1.cells nb1.elem).next) r3.1 ((r6.2.put (H.new nb1.cells nb1.elem).next ⟨nb7.cells, nb7.elem, true⟩).put ((H.new nb1.cells nb1.elem).next + 1) ⟨nb8.cells, nb8.elem, true⟩)).map fun H' => ((.tuple [] : AV), H')).bind fun r9 =>
 ((aStore Tryd.prog 29 (nb8.val ((H.new nb1.cells nb1.elem).next + 1)) r6.1 r9.2).map fun H' => ((.tuple [] : AV), H')).bind fun r10 =>
 chkL [((ldAgg (nb1.val H.next) 3 ((H.new nb1.cells nb1.elem).res 2)), some v4)] ((aBuild Tryd.prog 29 []).bind fun v11 =>
 (nAlloc Tryd.prog 29).bind fun nb12 =>
 ((aStore Tryd.prog 29 (nb12.val r10.2.next) v11 (r10.2.new nb12.cells nb12.elem)).map fun H' => ((.tuple [] : AV), H')).bind fun r13 =>
 jn (
 (ptrAdd (nb8.val ((H.new nb1.cells nb1.elem).next + 1)) 0).bind fun v14 =>
 (ldOne v14 r13.2).bind fun v15 =>
 (aBin Tryd.prog .neq 3 v15 (.int .i64 0)).bind fun v16 =>
 (asB v16).bind fun b17 => if b17 = true then
 ((ldAgg (nb1.val H.next) 3 r13.2).bind fun v18 =>
 (aBin Tryd.prog .add 3 x1 (.int .i64 2)).bind fun v19 =>
 (call 120 [v18, v19, (.bool false)] r13.2).bind fun r20 =>
 ((aStore Tryd.prog 29 (nb12.val r10.2.next) r20.1 r20.2).map fun H' => ((.tuple [] : AV), H')).bind fun r21 =>
 some (.inl ((updL (T0 [x0, x1]) [(2, (nb1.val H.next)), (4, (.int .i64 0)), (5, (.int .i64 0)), (6, (.slice none 0 (.kn 0))), (14, v2), (15, x1), (16, r3.1), (17, v4), (18, x1), (19, v5), (20, r6.1), (7, (nb7.val (H.new nb1.cells nb1.elem).next)), (8, (nb8.val ((H.new nb1.cells nb1.elem).next + 1))), (21, v11), (9, (nb12.val r10.2.next)), (22, v14), (23, v15), (24, v16), (25, v18), (26, x1), (27, v19), (28, r20.1)]), r21.2)))
 else
 (some (.inl ((updL (T0 [x0, x1]) [(2, (nb1.val H.next)), (4, (.int .i64 0)), (5, (.int .i64 0)), (6, (.slice none 0 (.kn 0))), (14, v2), (15, x1), (16, r3.1), (17, v4), (18, x1), (19, v5), (20, r6.1), (7, (nb7.val (H.new nb1.cells nb1.elem).next)), (8, (nb8.val ((H.new nb1.cells nb1.elem).next + 1))), (21, v11), (9, (nb12.val r10.2.next)), (22, v14), (23, v15), (24, v16)]), r13.2))))
 (F99_J2 call it))
theorem F99_eq (call : CallF) (it : ItF) (x0 : AV) (x1 : AV) (H : AH) : aFun Tryd.prog (drawA Tryd.prog) call it 99 [x0, x1] H = F99 call it x0 x1 H :=
 (aFun_eq Tryd.func99 rfl (by kernel_rfl) _ H (Nat.le_of_ble_eq_true (by kernel_rfl))).trans (by kernel_rfl)

noncomputable def F100 (call : CallF) (it : ItF) (x0 : AV) (x1 : AV) (x2 : AV) (x3 : AV) (H : AH) : Option (AV × AH) :=
 (aBin Tryd.prog .leq 2 x0 x1).bind fun v1 =>
 (asB v1).bind fun b2 => if b2 = true then
 (some (x0, H))
 else
 ((aBin Tryd.prog .add 3 x1 x2).bind fun v3 =>
 (aBin Tryd.prog .lss 2 x0 v3).bind fun v4 =>
 (asB v4).bind fun b5 => if b5 = true then
 (some (x1, H))
 else
 ((aBin Tryd.prog .sub 2 x0 x2).bind fun v6 =>
 (aBin Tryd.prog .add 2 v6 x3).bind fun v7 =>
 some (v7, H)))
theorem F100_eq (call : CallF) (it : ItF) (x0 : AV) (x1 : AV) (x2 : AV) (x3 : AV) (H : AH) : aFun Tryd.prog (drawA Tryd.prog) call it 100 [x0, x1, x2, x3] H = F100 call it x0 x1 x2 x3 H :=
 (aFun_eq Tryd.func100 rfl (by kernel_rfl) _ H (Nat.le_of_ble_eq_true (by kernel_rfl))).trans (by kernel_rfl)

noncomputable def F101 (call : CallF) (it : ItF) (x0 : AV) (H : AH) : Option (AV × AH) :=
 (nBox 29 x0).bind fun nb1 =>
 (ptrAdd (nb1.val H.next) 0).bind fun v2 =>
 (ldOne v2 (H.new nb1.cells nb1.elem)).bind fun v3 =>
 (aBin Tryd.prog .eql 3 v3 (.int .i64 17)).bind fun v4 =>
 ((gdv v4 false).bind fun g5 => if g5 = true then (ptrAdd (nb1.val H.next) 0) else some (.tuple [])).bind fun v6 =>
 ((gdv v4 false).bind fun g7 => if g7 = true then (ldOne v6 (H.new nb1.cells nb1.elem)) else some (.tuple [])).bind fun v8 =>
 ((gdv v4 false).bind fun g9 => if g9 = true then (aBin Tryd.prog .eql 3 v8 (.int .i64 18)) else some (.tuple [])).bind fun v10 =>
 ((asB v4).bind fun b11 => if b11 = true then some (.bool true) else some v10).bind fun v12 =>
 some (v12, (H.new nb1.cells nb1.elem))
theorem F101_eq (call : CallF) (it : ItF) (x0 : AV) (H : AH) : aFun Tryd.prog (drawA Tryd.prog) call it 101 [x0] H = F101 call it x0 H :=
 (aFun_eq Tryd.func101 rfl (by kernel_rfl) _ H (Nat.le_of_ble_eq_true (by kernel_rfl))).trans (by kernel_rfl)

noncomputable def F102 (call : CallF) (it : ItF) (x0 : AV) (x1 : AV) (H : AH) : Option (AV × AH) :=
 (nilC x0).bind fun v1 =>
 (ptrAdd v1 0).bind fun v2 =>
 (ldOne v2 H).bind fun v3 =>
 (idxSl v3 x1 3).bind fun v4 =>
 (ldAgg v4 3 H).bind fun v5 =>
 (nAlloc Tryd.prog 29).bind fun nb6 =>
 ((aStore Tryd.prog 29 (nb6.val H.next) v5 (H.new nb6.cells nb6.elem)).map fun H' => ((.tuple [] : AV), H')).bind fun r7 =>
 (ptrAdd (nb6.val H.next) 0).bind fun v8 =>
 (ldOne v8 r7.2).bind fun v9 =>
 (aBin Tryd.prog .eql 3 v9 (.int .i64 20)).bind fun v10 =>
 (asB v10).bind fun b11 => if b11 = true then
 (some ((.slice none 0 (.kn 0)), r7.2))
 else
 ((aBin Tryd.prog .eql 3 v9 (.int .i64 17)).bind fun v12 =>
 (asB v12).bind fun b13 => if b13 = true then
 ((ptrAdd (nb6.val H.next) 1).bind fun v14 =>
 (ldOne v14 r7.2).bind fun v15 =>
 (nBuildSlice Tryd.prog 40 1 [(0, v15)]).bind fun nb16 =>
 some ((nb16.val r7.2.next), (r7.2.new nb16.cells nb16.elem)))
 else
 ((aBin Tryd.prog .eql 3 v9 (.int .i64 18)).bind fun v17 =>
 (asB v17).bind fun b18 => if b18 = true then
 ((aBin Tryd.prog .add 3 x1 (.int .i64 1)).bind fun v19 =>
 (ptrAdd (nb6.val H.next) 1).bind fun v20 =>
 (ldOne v20 r7.2).bind fun v21 =>
 (nBuildSlice Tryd.prog 40 2 [(0, v19), (1, v21)]).bind fun nb22 =>
 some ((nb22.val r7.2.next), (r7.2.new nb22.cells nb22.elem)))
 else
 ((aBin Tryd.prog .add 3 x1 (.int .i64 1)).bind fun v23 =>
 (nBuildSlice Tryd.prog 40 1 [(0, v23)]).bind fun nb24 =>
 some ((nb24.val r7.2.next), (r7.2.new nb24.cells nb24.elem)))))
theorem F102_eq (call : CallF) (it : ItF) (x0 : AV) (x1 : AV) (H : AH) : aFun Tryd.prog (drawA Tryd.prog) call it 102 [x0, x1] H = F102 call it x0 x1 H :=
 (aFun_eq Tryd.func102 rfl (by kernel_rfl) _ H (Nat.le_of_ble_eq_true (by kernel_rfl))).trans (by kernel_rfl)

noncomputable def F103_J0 (call : CallF) (it : ItF) (T96 : Tm) (H97 : AH) : Option (AV × AH) :=
 (aBuild Tryd.prog 108 []).bind fun v98 =>
 ((aStore Tryd.prog 108 (T96 4) v98 H97).map fun H' => ((.tuple [] : AV), H')).bind fun r99 =>
 (((ldAgg (T96 4) 3 r99.2).bind fun v100 => some (v100 :: [])).map oneOf).map fun v => (v, r99.2)
noncomputable def F103 (call : CallF) (it : ItF) (x0 : AV) (x1 : AV) (H : AH) : Option (AV × AH) :=
 (nAlloc Tryd.prog 108).bind fun nb1 =>
 (nilC x0).bind fun v2 =>
 (ptrAdd v2 0).bind fun v3 =>
 (ldOne v3 (H.new nb1.cells nb1.elem)).bind fun v4 =>
 (idxSl v4 x1 3).bind fun v5 =>
 (ldAgg v5 3 (H.new nb1.cells nb1.elem)).bind fun v6 =>
 (nAlloc Tryd.prog 29).bind fun nb7 =>
 ((aStore Tryd.prog 29 (nb7.val (H.new nb1.cells nb1.elem).next) v6 ((H.new nb1.cells nb1.elem).new nb7.cells nb7.elem)).map fun H' => ((.tuple [] : AV), H')).bind fun r8 =>
 jn (
 (nilC x0).bind fun v9 =>
 (ptrAdd v9 1).bind fun v10 =>
 (ldOne v10 r8.2).bind fun v11 =>
 (idxSl v11 x1 1).bind fun v12 =>
 (ldOne v12 r8.2).bind fun v13 =>
 (aUn .not v13).bind fun v14 =>
 (asB v14).bind fun b15 => if b15 = true then
 ((aBuild Tryd.prog 108 [(0, (.int .i64 1)), (1, (.int .i64 1)), (2, (.slice none 0 (.kn 0)))]).bind fun v16 =>
 ((aStore Tryd.prog 108 (nb1.val H.next) v16 r8.2).map fun H' => ((.tuple [] : AV), H')).bind fun r17 =>
 ((((ldAgg (nb1.val H.next) 3 r17.2).bind fun v18 => some (v18 :: [])).map oneOf).map fun v => (v, r17.2)).map .inr)
 else
 ((ptrAdd (nb7.val (H.new nb1.cells nb1.elem).next) 0).bind fun v19 =>
 (ldOne v19 r8.2).bind fun v20 =>
 (aBin Tryd.prog .eql 3 v20 (.int .i64 17)).bind fun v21 =>
 ((gdv v21 true).bind fun g22 => if g22 = true then (ptrAdd (nb7.val (H.new nb1.cells nb1.elem).next) 1) else some (.tuple [])).bind fun v23 =>
 ((gdv v21 true).bind fun g24 => if g24 = true then (ldOne v23 r8.2) else some (.tuple [])).bind fun v25 =>
 ((gdv v21 true).bind fun g26 => if g26 = true then (some x1) else some (.tuple [])).bind fun v27 =>
 ((gdv v21 true).bind fun g28 => if g28 = true then (aBin Tryd.prog .add 3 v27 (.int .i64 1)) else some (.tuple [])).bind fun v29 =>
 ((gdv v21 true).bind fun g30 => if g30 = true then (aBin Tryd.prog .eql 2 v25 v29) else some (.tuple [])).bind fun v31 =>
 ((asB v21).bind fun b32 => if b32 = true then some v31 else some (.bool false)).bind fun v33 =>
 (asB v33).bind fun b34 => if b34 = true then
 ((aBuild Tryd.prog 108 [(0, (.int .i64 2)), (1, (.int .i64 1)), (2, (.slice none 0 (.kn 0)))]).bind fun v35 =>
 ((aStore Tryd.prog 108 (nb1.val H.next) v35 r8.2).map fun H' => ((.tuple [] : AV), H')).bind fun r36 =>
 ((((ldAgg (nb1.val H.next) 3 r36.2).bind fun v37 => some (v37 :: [])).map oneOf).map fun v => (v, r36.2)).map .inr)
 else
 ((ptrAdd (nb7.val (H.new nb1.cells nb1.elem).next) 0).bind fun v38 =>
 (ldOne v38 r8.2).bind fun v39 =>
 (aBin Tryd.prog .eql 3 v39 (.int .i64 18)).bind fun v40 =>
 ((gdv v40 true).bind fun g41 => if g41 = true then (ptrAdd (nb7.val (H.new nb1.cells nb1.elem).next) 1) else some (.tuple [])).bind fun v42 =>
 ((gdv v40 true).bind fun g43 => if g43 = true then (ldOne v42 r8.2) else some (.tuple [])).bind fun v44 =>
 ((gdv v40 true).bind fun g45 => if g45 = true then (some x1) else some (.tuple [])).bind fun v46 =>
 ((gdv v40 true).bind fun g47 => if g47 = true then (aBin Tryd.prog .add 3 v46 (.int .i64 1)) else some (.tuple [])).bind fun v48 =>
 ((gdv v40 true).bind fun g49 => if g49 = true then (aBin Tryd.prog .eql 2 v44 v48) else some (.tuple [])).bind fun v50 =>
 ((asB v40).bind fun b51 => if b51 = true then some v50 else some (.bool false)).bind fun v52 =>
 (asB v52).bind fun b53 => if b53 = true then
 ((aBuild Tryd.prog 29 [(0, (.int .i64 25))]).bind fun v54 =>
 (nBuildSlice Tryd.prog 22 1 [(0, v54)]).bind fun nb55 =>
 (aBuild Tryd.prog 108 [(0, (.int .i64 3)), (1, (.int .i64 1)), (2, (nb55.val r8.2.next))]).bind fun v56 =>
 ((aStore Tryd.prog 108 (nb1.val H.next) v56 (r8.2.new nb55.cells nb55.elem)).map fun H' => ((.tuple [] : AV), H')).bind fun r57 =>
 ((((ldAgg (nb1.val H.next) 3 r57.2).bind fun v58 => some (v58 :: [])).map oneOf).map fun v => (v, r57.2)).map .inr)
 else
 ((ldAgg (nb7.val (H.new nb1.cells nb1.elem).next) 3 r8.2).bind fun v59 =>
 (call 101 [v59] r8.2).bind fun r60 =>
 (asB r60.1).bind fun b61 => if b61 = true then
 ((nilC x0).bind fun v62 =>
 (ptrAdd v62 0).bind fun v63 =>
 (ldOne v63 (r60.2.res 1)).bind fun v64 =>
 (ptrAdd (nb7.val (H.new nb1.cells nb1.elem).next) 1).bind fun v65 =>
 (ldOne v65 (r60.2.res 1)).bind fun v66 =>
 (idxSl v64 v66 3).bind fun v67 =>
 (ldAgg v67 3 (r60.2.res 1)).bind fun v68 =>
 (nAlloc Tryd.prog 29).bind fun nb69 =>
 ((aStore Tryd.prog 29 (nb69.val r60.2.next) v68 ((r60.2.res 1).put r60.2.next ⟨nb69.cells, nb69.elem, true⟩)).map fun H' => ((.tuple [] : AV), H')).bind fun r70 =>
 (ptrAdd (nb69.val r60.2.next) 0).bind fun v71 =>
 (ldOne v71 r70.2).bind fun v72 =>
 (aBin Tryd.prog .eql 3 v72 (.int .i64 17)).bind fun v73 =>
 ((gdv v73 true).bind fun g74 => if g74 = true then (ptrAdd (nb69.val r60.2.next) 1) else some (.tuple [])).bind fun v75 =>
 ((gdv v73 true).bind fun g76 => if g76 = true then (ldOne v75 r70.2) else some (.tuple [])).bind fun v77 =>
 ((gdv v73 true).bind fun g78 => if g78 = true then (ptrAdd (nb7.val (H.new nb1.cells nb1.elem).next) 1) else some (.tuple [])).bind fun v79 =>
 ((gdv v73 true).bind fun g80 => if g80 = true then (ldOne v79 r70.2) else some (.tuple [])).bind fun v81 =>
 ((gdv v73 true).bind fun g82 => if g82 = true then (aBin Tryd.prog .gtr 2 v77 v81) else some (.tuple [])).bind fun v83 =>
 ((asB v73).bind fun b84 => if b84 = true then some v83 else some (.bool false)).bind fun v85 =>
 (asB v85).bind fun b86 => if b86 = true then
 ((ptrAdd (nb69.val r60.2.next) 1).bind fun v87 =>
 (ldOne v87 r70.2).bind fun v88 =>
 (ptrAdd (nb7.val (H.new nb1.cells nb1.elem).next) 1).bind fun v89 =>
 ((aStore Tryd.prog 2 v89 v88 r70.2).map fun H' => ((.tuple [] : AV), H')).bind fun r90 =>
 (ldAgg (nb7.val (H.new nb1.cells nb1.elem).next) 3 r90.2).bind fun v91 =>
 (nBuildSlice Tryd.prog 22 1 [(0, v91)]).bind fun nb92 =>
 (aBuild Tryd.prog 108 [(0, (.int .i64 4)), (1, (.int .i64 1)), (2, (nb92.val r90.2.next))]).bind fun v93 =>
 ((aStore Tryd.prog 108 (nb1.val H.next) v93 (r90.2.new nb92.cells nb92.elem)).map fun H' => ((.tuple [] : AV), H')).bind fun r94 =>
 ((((ldAgg (nb1.val H.next) 3 r94.2).bind fun v95 => some (v95 :: [])).map oneOf).map fun v => (v, r94.2)).map .inr)
 else
 (some (.inl ((updL (T0 [x0, x1]) [(4, (nb1.val H.next)), (7, x0), (8, v2), (9, v3), (10, v4), (11, x1), (12, v5), (13, v6), (5, (nb7.val (H.new nb1.cells nb1.elem).next)), (15, x0), (16, v9), (17, v10), (18, v11), (19, x1), (20, v12), (21, v13), (22, v14), (14, v14), (25, v19), (26, v20), (27, v21), (28, v21), (29, v23), (30, v25), (31, v27), (32, v29), (33, v31), (34, v33), (24, v33), (37, v38), (38, v39), (39, v40), (40, v40), (41, v42), (42, v44), (43, v46), (44, v48), (45, v50), (46, v52), (36, v52), (51, v59), (52, r60.1), (50, r60.1), (53, x0), (54, v62), (55, v63), (56, v64), (57, v65), (58, v66), (59, v67), (60, v68), (6, (nb69.val r60.2.next)), (61, v71), (62, v72), (63, v73), (64, v73), (65, v75), (66, v77), (67, v79), (68, v81), (69, v83), (70, v85)]), r70.2))))
 else
 (some (.inl ((updL (T0 [x0, x1]) [(4, (nb1.val H.next)), (7, x0), (8, v2), (9, v3), (10, v4), (11, x1), (12, v5), (13, v6), (5, (nb7.val (H.new nb1.cells nb1.elem).next)), (15, x0), (16, v9), (17, v10), (18, v11), (19, x1), (20, v12), (21, v13), (22, v14), (14, v14), (25, v19), (26, v20), (27, v21), (28, v21), (29, v23), (30, v25), (31, v27), (32, v29), (33, v31), (34, v33), (24, v33), (37, v38), (38, v39), (39, v40), (40, v40), (41, v42), (42, v44), (43, v46), (44, v48), (45, v50), (46, v52), (36, v52), (51, v59), (52, r60.1), (50, r60.1)]), r60.2)))))))
 (F103_J0 call it)
theorem F103_eq (call : CallF) (it : ItF) (x0 : AV) (x1 : AV) (H : AH) : aFun Tryd.prog (drawA Tryd.prog) call it 103 [x0, x1] H = F103 call it x0 x1 H :=
 (aFun_eq Tryd.func103 rfl (by kernel_rfl) _ H (Nat.le_of_ble_eq_true (by kernel_rfl))).trans (by kernel_rfl)

noncomputable def F104_L0 (call : CallF) (it : ItF) (s8 : St) : Option (Ex × St) :=
 (aBin Tryd.prog .lss 3 (s8.1 7) (s8.1 2)).bind fun v11 =>
 (asB v11).bind fun b12 => if b12 = true then
 ((nilC (s8.1 0)).bind fun v13 =>
 (ptrAdd v13 2).bind fun v14 =>
 (ldOne v14 s8.2).bind fun v15 =>
 (aBin Tryd.prog .add 3 (s8.1 1) (s8.1 7)).bind fun v16 =>
 (idxSl v15 v16 1).bind fun v17 =>
 (ldOne v17 s8.2).bind fun v18 =>
 (asB v18).bind fun b19 => if b19 = true then
 (some (.ret, (updL s8.1 [(17, (s8.1 7)), (18, (s8.1 2)), (19, v11), (22, (s8.1 0)), (23, v13), (24, v14), (25, v15), (26, (s8.1 1)), (27, (s8.1 7)), (28, v16), (29, v17), (30, v18), (6, (.slice none 0 (.kn 0)))]), s8.2))
 else
 ((aBin Tryd.prog .add 3 (s8.1 7) (.int .i64 1)).bind fun v20 =>
 some (.normal, (updL s8.1 [(17, (s8.1 7)), (18, (s8.1 2)), (19, v11), (22, (s8.1 0)), (23, v13), (24, v14), (25, v15), (26, (s8.1 1)), (27, (s8.1 7)), (28, v16), (29, v17), (30, v18), (20, (s8.1 7)), (21, v20), (7, v20)]), s8.2)))
 else
 (some (.exit 0, (updL s8.1 [(17, (s8.1 7)), (18, (s8.1 2)), (19, v11)]), s8.2))
noncomputable def F104 (call : CallF) (it : ItF) (x0 : AV) (x1 : AV) (x2 : AV) (H : AH) : Option (AV × AH) :=
 (nilC x0).bind fun v1 =>
 (ptrAdd v1 0).bind fun v2 =>
 (ldOne v2 H).bind fun v3 =>
 (aLen Tryd.prog 22 v3).bind fun v4 =>
 (aBin Tryd.prog .sub 3 v4 x1).bind fun v5 =>
 (aBin Tryd.prog .gtr 3 x2 v5).bind fun v6 =>
 (asB v6).bind fun b7 => if b7 = true then
 (some ((.slice none 0 (.kn 0)), H))
 else
 ((it (F104_L0 call it) ((updL (T0 [x0, x1, x2]) [(6, (.slice none 0 (.kn 0))), (8, x2), (9, x0), (10, v1), (11, v2), (12, v3), (13, v4), (14, x1), (15, v5), (16, v6), (7, (.int .i64 1))]), H)).bind fun r9 => match r9.1 with
 | .normal => none
 | .exit j10 => if j10 = 0 then
 ((nilC (r9.2.1 0)).bind fun v21 =>
 (ptrAdd v21 0).bind fun v22 =>
 (ldOne v22 r9.2.2).bind fun v23 =>
 (aBin Tryd.prog .add 3 (r9.2.1 1) (r9.2.1 2)).bind fun v24 =>
 (aBin Tryd.prog .add 3 (r9.2.1 1) (r9.2.1 2)).bind fun v25 =>
 (slSl v23 3 (some (r9.2.1 1)) (some v24) (some v25)).bind fun v26 =>
 some (v26, r9.2.2))
 else
 (none)
 | .ret => some ((r9.2.1 6), r9.2.2))
theorem F104_eq (call : CallF) (it : ItF) (x0 : AV) (x1 : AV) (x2 : AV) (H : AH) : aFun Tryd.prog (drawA Tryd.prog) call it 104 [x0, x1, x2] H = F104 call it x0 x1 x2 H :=
 (aFun_eq Tryd.func104 rfl (by kernel_rfl) _ H (Nat.le_of_ble_eq_true (by kernel_rfl))).trans (by kernel_rfl)

noncomputable def F105_J0 (call : CallF) (it : ItF) (T46 : Tm) (H47 : AH) : Option (AV × AH) :=
 (aBuild Tryd.prog 108 []).bind fun v48 =>
 ((aStore Tryd.prog 108 (T46 4) v48 H47).map fun H' => ((.tuple [] : AV), H')).bind fun r49 =>
 (((ldAgg (T46 4) 3 r49.2).bind fun v50 => some (v50 :: [])).map oneOf).map fun v => (v, r49.2)
noncomputable def F105 (call : CallF) (it : ItF) (x0 : AV) (x1 : AV) (H : AH) : Option (AV × AH) :=
 (nBox 29 x0).bind fun nb1 =>
 (nBox 29 x1).bind fun nb2 =>
 (nAlloc Tryd.prog 108).bind fun nb3 =>
 jn (
 (ptrAdd (nb1.val H.next) 0).bind fun v4 =>
 (ldOne v4 (((H.new nb1.cells nb1.elem).new nb2.cells nb2.elem).new nb3.cells nb3.elem)).bind fun v5 =>
 (aBin Tryd.prog .neq 3 v5 (.int .i64 1)).bind fun v6 =>
 (asB v6).bind fun b7 => if b7 = true then
 (some (.inl ((updL (T0 [x0, x1]) [(2, (nb1.val H.next)), (3, (nb2.val (H.new nb1.cells nb1.elem).next)), (4, (nb3.val ((H.new nb1.cells nb1.elem).new nb2.cells nb2.elem).next)), (6, v4), (7, v5), (8, v6), (5, v6)]), (((H.new nb1.cells nb1.elem).new nb2.cells nb2.elem).new nb3.cells nb3.elem))))
 else
 ((ptrAdd (nb2.val (H.new nb1.cells nb1.elem).next) 0).bind fun v8 =>
 (ldOne v8 (((H.new nb1.cells nb1.elem).new nb2.cells nb2.elem).new nb3.cells nb3.elem)).bind fun v9 =>
 (aBin Tryd.prog .eql 3 v9 (.int .i64 16)).bind fun v10 =>
 (asB v10).bind fun b11 => if b11 = true then
 ((ptrAdd (nb1.val H.next) 1).bind fun v12 =>
 (ldOne v12 (((H.new nb1.cells nb1.elem).new nb2.cells nb2.elem).new nb3.cells nb3.elem)).bind fun v13 =>
 (call 111 [v13] (((H.new nb1.cells nb1.elem).new nb2.cells nb2.elem).new nb3.cells nb3.elem)).bind fun r14 =>
 (aBuild Tryd.prog 29 [(0, (.int .i64 1)), (1, r14.1)]).bind fun v15 =>
 (nBuildSlice Tryd.prog 22 1 [(0, v15)]).bind fun nb16 =>
 (aBuild Tryd.prog 108 [(0, (.int .i64 5)), (1, (.int .i64 2)), (2, (nb16.val r14.2.next))]).bind fun v17 =>
 ((aStore Tryd.prog 108 (nb3.val ((H.new nb1.cells nb1.elem).new nb2.cells nb2.elem).next) v17 (r14.2.new nb16.cells nb16.elem)).map fun H' => ((.tuple [] : AV), H')).bind fun r18 =>
 ((((ldAgg (nb3.val ((H.new nb1.cells nb1.elem).new nb2.cells nb2.elem).next) 3 r18.2).bind fun v19 => some (v19 :: [])).map oneOf).map fun v => (v, r18.2)).map .inr)
 else
 ((ptrAdd (nb2.val (H.new nb1.cells nb1.elem).next) 0).bind fun v20 =>
 (ldOne v20 (((H.new nb1.cells nb1.elem).new nb2.cells nb2.elem).new nb3.cells nb3.elem)).bind fun v21 =>
 (aBin Tryd.prog .eql 3 v21 (.int .i64 15)).bind fun v22 =>
 ((gdv v22 true).bind fun g23 => if g23 = true then (ptrAdd (nb1.val H.next) 1) else some (.tuple [])).bind fun v24 =>
 ((gdv v22 true).bind fun g25 => if g25 = true then (ldOne v24 (((H.new nb1.cells nb1.elem).new nb2.cells nb2.elem).new nb3.cells nb3.elem)) else some (.tuple [])).bind fun v26 =>
 ((gdv v22 true).bind fun g27 => if g27 = true then (aBin Tryd.prog .eql 2 v26 (.int .i64 0)) else some (.tuple [])).bind fun v28 =>
 ((asB v22).bind fun b29 => if b29 = true then some v28 else some (.bool false)).bind fun v30 =>
 (asB v30).bind fun b31 => if b31 = true then
 ((aBuild Tryd.prog 29 [(0, (.int .i64 1)), (1, (.int .i64 1))]).bind fun v32 =>
 (nBuildSlice Tryd.prog 22 1 [(0, v32)]).bind fun nb33 =>
 (aBuild Tryd.prog 108 [(0, (.int .i64 5)), (1, (.int .i64 2)), (2, (nb33.val (((H.new nb1.cells nb1.elem).new nb2.cells nb2.elem).new nb3.cells nb3.elem).next))]).bind fun v34 =>
 ((aStore Tryd.prog 108 (nb3.val ((H.new nb1.cells nb1.elem).new nb2.cells nb2.elem).next) v34 ((((H.new nb1.cells nb1.elem).new nb2.cells nb2.elem).new nb3.cells nb3.elem).new nb33.cells nb33.elem)).map fun H' => ((.tuple [] : AV), H')).bind fun r35 =>
 ((((ldAgg (nb3.val ((H.new nb1.cells nb1.elem).new nb2.cells nb2.elem).next) 3 r35.2).bind fun v36 => some (v36 :: [])).map oneOf).map fun v => (v, r35.2)).map .inr)
 else
 ((ptrAdd (nb2.val (H.new nb1.cells nb1.elem).next) 0).bind fun v37 =>
 (ldOne v37 (((H.new nb1.cells nb1.elem).new nb2.cells nb2.elem).new nb3.cells nb3.elem)).bind fun v38 =>
 (aBin Tryd.prog .eql 3 v38 (.int .i64 15)).bind fun v39 =>
 (asB v39).bind fun b40 => if b40 = true then
 ((aBuild Tryd.prog 29 [(0, (.int .i64 1))]).bind fun v41 =>
 (nBuildSlice Tryd.prog 22 1 [(0, v41)]).bind fun nb42 =>
 (aBuild Tryd.prog 108 [(0, (.int .i64 5)), (1, (.int .i64 2)), (2, (nb42.val (((H.new nb1.cells nb1.elem).new nb2.cells nb2.elem).new nb3.cells nb3.elem).next))]).bind fun v43 =>
 ((aStore Tryd.prog 108 (nb3.val ((H.new nb1.cells nb1.elem).new nb2.cells nb2.elem).next) v43 ((((H.new nb1.cells nb1.elem).new nb2.cells nb2.elem).new nb3.cells nb3.elem).new nb42.cells nb42.elem)).map fun H' => ((.tuple [] : AV), H')).bind fun r44 =>
 ((((ldAgg (nb3.val ((H.new nb1.cells nb1.elem).new nb2.cells nb2.elem).next) 3 r44.2).bind fun v45 => some (v45 :: [])).map oneOf).map fun v => (v, r44.2)).map .inr)
 else
 (some (.inl ((updL (T0 [x0, x1]) [(2, (nb1.val H.next)), (3, (nb2.val (H.new nb1.cells nb1.elem).next)), (4, (nb3.val ((H.new nb1.cells nb1.elem).new nb2.cells nb2.elem).next)), (6, v4), (7, v5), (8, v6), (5, v6), (10, v8), (11, v9), (12, v10), (9, v10), (20, v20), (21, v21), (22, v22), (23, v22), (24, v24), (25, v26), (26, v28), (27, v30), (19, v30), (32, v37), (33, v38), (34, v39), (31, v39)]), (((H.new nb1.cells nb1.elem).new nb2.cells nb2.elem).new nb3.cells nb3.elem))))))))
 (F105_J0 call it)
theorem F105_eq (call : CallF) (it : ItF) (x0 : AV) (x1 : AV) (H : AH) : aFun Tryd.prog (drawA Tryd.prog) call it 105 [x0, x1] H = F105 call it x0 x1 H :=
 (aFun_eq Tryd.func105 rfl (by kernel_rfl) _ H (Nat.le_of_ble_eq_true (by kernel_rfl))).trans (by kernel_rfl)

noncomputable def F106 (call : CallF) (it : ItF) (x0 : AV) (x1 : AV) (H : AH) : Option (AV × AH) :=
 (nAlloc Tryd.prog 108).bind fun nb1 =>
 (call 104 [x0, x1, (.int .i64 3)] (H.new nb1.cells nb1.elem)).bind fun r2 =>
 (aBin Tryd.prog .eql 22 r2.1 (.slice none 0 (.kn 0))).bind fun v3 =>
 ((gdv v3 false).bind fun g4 => if g4 = true then (some r2.1) else some (.tuple [])).bind fun v5 =>
 ((gdv v3 false).bind fun g6 => if g6 = true then (idxSl v5 (.int .i64 0) 3) else some (.tuple [])).bind fun v7 =>
 ((gdv v3 false).bind fun g8 => if g8 = true then (ptrAdd v7 0) else some (.tuple [])).bind fun v9 =>
 ((gdv v3 false).bind fun g10 => if g10 = true then (ldOne v9 r2.2) else some (.tuple [])).bind fun v11 =>
 ((gdv v3 false).bind fun g12 => if g12 = true then (aBin Tryd.prog .neq 3 v11 (.int .i64 1)) else some (.tuple [])).bind fun v13 =>
 ((asB v3).bind fun b14 => if b14 = true then some (.bool true) else some v13).bind fun v15 =>
 ((gdv v15 false).bind fun g16 => if g16 = true then (some r2.1) else some (.tuple [])).bind fun v17 =>
 ((gdv v15 false).bind fun g18 => if g18 = true then (idxSl v17 (.int .i64 1) 3) else some (.tuple [])).bind fun v19 =>
 ((gdv v15 false).bind fun g20 => if g20 = true then (ptrAdd v19 0) else some (.tuple [])).bind fun v21 =>
 ((gdv v15 false).bind fun g22 => if g22 = true then (ldOne v21 r2.2) else some (.tuple [])).bind fun v23 =>
 ((gdv v15 false).bind fun g24 => if g24 = true then (aBin Tryd.prog .neq 3 v23 (.int .i64 1)) else some (.tuple [])).bind fun v25 =>
 ((asB v15).bind fun b26 => if b26 = true then some (.bool true) else some v25).bind fun v27 =>
 (asB v27).bind fun b28 => if b28 = true then
 ((aBuild Tryd.prog 108 []).bind fun v29 =>
 ((aStore Tryd.prog 108 (nb1.val H.next) v29 r2.2).map fun H' => ((.tuple [] : AV), H')).bind fun r30 =>
 (((ldAgg (nb1.val H.next) 3 r30.2).bind fun v31 => some (v31 :: [])).map oneOf).map fun v => (v, r30.2))
 else
 ((idxSl r2.1 (.int .i64 2) 3).bind fun v32 =>
 (ptrAdd v32 0).bind fun v33 =>
 (ldOne v33 r2.2).bind fun v34 =>
 (idxSl r2.1 (.int .i64 0) 3).bind fun v35 =>
 (ptrAdd v35 1).bind fun v36 =>
 (ldOne v36 r2.2).bind fun v37 =>
 (idxSl r2.1 (.int .i64 1) 3).bind fun v38 =>
 (ptrAdd v38 1).bind fun v39 =>
 (ldOne v39 r2.2).bind fun v40 =>
 (call 124 [v34, v37, v40] r2.2).bind fun r41 =>
 (aExtract r41.1 0).bind fun v42 =>
 (aExtract r41.1 1).bind fun v43 =>
 (asB v43).bind fun b44 => if b44 = true then
 ((aBuild Tryd.prog 29 [(0, (.int .i64 1)), (1, v42)]).bind fun v45 =>
 (nBuildSlice Tryd.prog 22 1 [(0, v45)]).bind fun nb46 =>
 (aBuild Tryd.prog 108 [(0, (.int .i64 6)), (1, (.int .i64 3)), (2, (nb46.val r41.2.next))]).bind fun v47 =>
 ((aStore Tryd.prog 108 (nb1.val H.next) v47 (r41.2.new nb46.cells nb46.elem)).map fun H' => ((.tuple [] : AV), H')).bind fun r48 =>
 (((ldAgg (nb1.val H.next) 3 r48.2).bind fun v49 => some (v49 :: [])).map oneOf).map fun v => (v, r48.2))
 else
 ((aBuild Tryd.prog 108 []).bind fun v50 =>
 ((aStore Tryd.prog 108 (nb1.val H.next) v50 r41.2).map fun H' => ((.tuple [] : AV), H')).bind fun r51 =>
 (((ldAgg (nb1.val H.next) 3 r51.2).bind fun v52 => some (v52 :: [])).map oneOf).map fun v => (v, r51.2)))
theorem F106_eq (call : CallF) (it : ItF) (x0 : AV) (x1 : AV) (H : AH) : aFun Tryd.prog (drawA Tryd.prog) call it 106 [x0, x1] H = F106 call it x0 x1 H :=
 (aFun_eq Tryd.func106 rfl (by kernel_rfl) _ H (Nat.le_of_ble_eq_true (by kernel_rfl))).trans (by kernel_rfl)

end Go.Proofs.YthiflgncldmkjaaDoor
set_option linter.unusedVariables false
set_option maxRecDepth 100000
namespace Go.Proofs.YthiflgncldmkjaaDoor
open Go.Ri

noncomputable def F107 (call : CallF) (it : ItF) (x0 : AV) (x1 : AV) (H : AH) : Option (AV × AH) :=
 (nBox 29 x0).bind fun nb1 =>
 (nBox 29 x1).bind fun nb2 =>
 (ptrAdd (nb1.val H.next) 0).bind fun v3 =>
 (ldOne v3 ((H.new nb1.cells nb1.elem).new nb2.cells nb2.elem)).bind fun v4 =>
 (aBin Tryd.prog .eql 3 v4 (.int .i64 1)).bind fun v5 =>
 ((gdv v5 false).bind fun g6 => if g6 = true then (ptrAdd (nb1.val H.next) 0) else some (.tuple [])).bind fun v7 =>
 ((gdv v5 false).bind fun g8 => if g8 = true then (ldOne v7 ((H.new nb1.cells nb1.elem).new nb2.cells nb2.elem)) else some (.tuple [])).bind fun v9 =>
 ((gdv v5 false).bind fun g10 => if g10 = true then (aBin Tryd.prog .eql 3 v9 (.int .i64 2)) else some (.tuple [])).bind fun v11 =>
 ((asB v5).bind fun b12 => if b12 = true then some (.bool true) else some v11).bind fun v13 =>
 ((gdv v13 true).bind fun g14 => if g14 = true then (ptrAdd (nb2.val (H.new nb1.cells nb1.elem).next) 0) else some (.tuple [])).bind fun v15 =>
 ((gdv v13 true).bind fun g16 => if g16 = true then (ldOne v15 ((H.new nb1.cells nb1.elem).new nb2.cells nb2.elem)) else some (.tuple [])).bind fun v17 =>
 ((gdv v13 true).bind fun g18 => if g18 = true then (aBin Tryd.prog .eql 3 v17 (.int .i64 25)) else some (.tuple [])).bind fun v19 =>
 ((asB v13).bind fun b20 => if b20 = true then some v19 else some (.bool false)).bind fun v21 =>
 (asB v21).bind fun b22 => if b22 = true then
 (some ((.int .i64 7), ((H.new nb1.cells nb1.elem).new nb2.cells nb2.elem)))
 else
 ((ptrAdd (nb1.val H.next) 0).bind fun v23 =>
 (ldOne v23 ((H.new nb1.cells nb1.elem).new nb2.cells nb2.elem)).bind fun v24 =>
 (aBin Tryd.prog .eql 3 v24 (.int .i64 1)).bind fun v25 =>
 ((gdv v25 true).bind fun g26 => if g26 = true then (ptrAdd (nb1.val H.next) 1) else some (.tuple [])).bind fun v27 =>
 ((gdv v25 true).bind fun g28 => if g28 = true then (ldOne v27 ((H.new nb1.cells nb1.elem).new nb2.cells nb2.elem)) else some (.tuple [])).bind fun v29 =>
 ((gdv v25 true).bind fun g30 => if g30 = true then (aBin Tryd.prog .eql 2 v29 (.int .i64 0)) else some (.tuple [])).bind fun v31 =>
 ((asB v25).bind fun b32 => if b32 = true then some v31 else some (.bool false)).bind fun v33 =>
 ((gdv v33 true).bind fun g34 => if g34 = true then (ptrAdd (nb2.val (H.new nb1.cells nb1.elem).next) 0) else some (.tuple [])).bind fun v35 =>
 ((gdv v33 true).bind fun g36 => if g36 = true then (ldOne v35 ((H.new nb1.cells nb1.elem).new nb2.cells nb2.elem)) else some (.tuple [])).bind fun v37 =>
 ((gdv v33 true).bind fun g38 => if g38 = true then (aBin Tryd.prog .eql 3 v37 (.int .i64 7)) else some (.tuple [])).bind fun v39 =>
 ((gdv v33 true).bind fun g40 => if g40 = true then (some v39) else some (.tuple [])).bind fun v41 =>
 ((gdv v41 false).bind fun g42 => if g42 = true then (ptrAdd (nb2.val (H.new nb1.cells nb1.elem).next) 0) else some (.tuple [])).bind fun v43 =>
 ((gdv v41 false).bind fun g44 => if g44 = true then (ldOne v43 ((H.new nb1.cells nb1.elem).new nb2.cells nb2.elem)) else some (.tuple [])).bind fun v45 =>
 ((gdv v41 false).bind fun g46 => if g46 = true then (aBin Tryd.prog .eql 3 v45 (.int .i64 8)) else some (.tuple [])).bind fun v47 =>
 ((gdv v33 true).bind fun g49 => if g49 = true then ((asB v41).bind fun b48 => if b48 = true then some (.bool true) else some v47) else some (.tuple [])).bind fun v50 =>
 ((asB v33).bind fun b51 => if b51 = true then some v50 else some (.bool false)).bind fun v52 =>
 (asB v52).bind fun b53 => if b53 = true then
 (some ((.int .i64 8), ((H.new nb1.cells nb1.elem).new nb2.cells nb2.elem)))
 else
 ((ptrAdd (nb1.val H.next) 0).bind fun v54 =>
 (ldOne v54 ((H.new nb1.cells nb1.elem).new nb2.cells nb2.elem)).bind fun v55 =>
 (aBin Tryd.prog .eql 3 v55 (.int .i64 1)).bind fun v56 =>
 ((gdv v56 true).bind fun g57 => if g57 = true then (ptrAdd (nb1.val H.next) 1) else some (.tuple [])).bind fun v58 =>
 ((gdv v56 true).bind fun g59 => if g59 = true then (ldOne v58 ((H.new nb1.cells nb1.elem).new nb2.cells nb2.elem)) else some (.tuple [])).bind fun v60 =>
 ((gdv v56 true).bind fun g61 => if g61 = true then (aBin Tryd.prog .eql 2 v60 (.int .i64 1)) else some (.tuple [])).bind fun v62 =>
 ((asB v56).bind fun b63 => if b63 = true then some v62 else some (.bool false)).bind fun v64 =>
 ((gdv v64 true).bind fun g65 => if g65 = true then (ptrAdd (nb2.val (H.new nb1.cells nb1.elem).next) 0) else some (.tuple [])).bind fun v66 =>
 ((gdv v64 true).bind fun g67 => if g67 = true then (ldOne v66 ((H.new nb1.cells nb1.elem).new nb2.cells nb2.elem)) else some (.tuple [])).bind fun v68 =>
 ((gdv v64 true).bind fun g69 => if g69 = true then (aBin Tryd.prog .eql 3 v68 (.int .i64 9)) else some (.tuple [])).bind fun v70 =>
 ((gdv v64 true).bind fun g71 => if g71 = true then (some v70) else some (.tuple [])).bind fun v72 =>
 ((gdv v72 false).bind fun g73 => if g73 = true then (ptrAdd (nb2.val (H.new nb1.cells nb1.elem).next) 0) else some (.tuple [])).bind fun v74 =>
 ((gdv v72 false).bind fun g75 => if g75 = true then (ldOne v74 ((H.new nb1.cells nb1.elem).new nb2.cells nb2.elem)) else some (.tuple [])).bind fun v76 =>
 ((gdv v72 false).bind fun g77 => if g77 = true then (aBin Tryd.prog .eql 3 v76 (.int .i64 10)) else some (.tuple [])).bind fun v78 =>
 ((gdv v64 true).bind fun g80 => if g80 = true then ((asB v72).bind fun b79 => if b79 = true then some (.bool true) else some v78) else some (.tuple [])).bind fun v81 =>
 ((asB v64).bind fun b82 => if b82 = true then some v81 else some (.bool false)).bind fun v83 =>
 (asB v83).bind fun b84 => if b84 = true then
 (some ((.int .i64 8), ((H.new nb1.cells nb1.elem).new nb2.cells nb2.elem)))
 else
 ((ptrAdd (nb1.val H.next) 0).bind fun v85 =>
 (ldOne v85 ((H.new nb1.cells nb1.elem).new nb2.cells nb2.elem)).bind fun v86 =>
 (aBin Tryd.prog .eql 3 v86 (.int .i64 2)).bind fun v87 =>
 ((gdv v87 true).bind fun g88 => if g88 = true then (ptrAdd (nb2.val (H.new nb1.cells nb1.elem).next) 0) else some (.tuple [])).bind fun v89 =>
 ((gdv v87 true).bind fun g90 => if g90 = true then (ldOne v89 ((H.new nb1.cells nb1.elem).new nb2.cells nb2.elem)) else some (.tuple [])).bind fun v91 =>
 ((gdv v87 true).bind fun g92 => if g92 = true then (aBin Tryd.prog .eql 3 v91 (.int .i64 3)) else some (.tuple [])).bind fun v93 =>
 ((asB v87).bind fun b94 => if b94 = true then some v93 else some (.bool false)).bind fun v95 =>
 ((gdv v95 true).bind fun g96 => if g96 = true then (ptrAdd (nb1.val H.next) 1) else some (.tuple [])).bind fun v97 =>
 ((gdv v95 true).bind fun g98 => if g98 = true then (ldOne v97 ((H.new nb1.cells nb1.elem).new nb2.cells nb2.elem)) else some (.tuple [])).bind fun v99 =>
 ((gdv v95 true).bind fun g100 => if g100 = true then (ptrAdd (nb2.val (H.new nb1.cells nb1.elem).next) 1) else some (.tuple [])).bind fun v101 =>
 ((gdv v95 true).bind fun g102 => if g102 = true then (ldOne v101 ((H.new nb1.cells nb1.elem).new nb2.cells nb2.elem)) else some (.tuple [])).bind fun v103 =>
 ((gdv v95 true).bind fun g104 => if g104 = true then (aBin Tryd.prog .eql 2 v99 v103) else some (.tuple [])).bind fun v105 =>
 ((asB v95).bind fun b106 => if b106 = true then some v105 else some (.bool false)).bind fun v107 =>
 (asB v107).bind fun b108 => if b108 = true then
 (some ((.int .i64 9), ((H.new nb1.cells nb1.elem).new nb2.cells nb2.elem)))
 else
 (some ((.int .i64 0), ((H.new nb1.cells nb1.elem).new nb2.cells nb2.elem))))))
theorem F107_eq (call : CallF) (it : ItF) (x0 : AV) (x1 : AV) (H : AH) : aFun Tryd.prog (drawA Tryd.prog) call it 107 [x0, x1] H = F107 call it x0 x1 H :=
 (aFun_eq Tryd.func107 rfl (by kernel_rfl) _ H (Nat.le_of_ble_eq_true (by kernel_rfl))).trans (by kernel_rfl)

noncomputable def F108 (call : CallF) (it : ItF) (x0 : AV) (x1 : AV) (H : AH) : Option (AV × AH) :=
 (nBox 29 x0).bind fun nb1 =>
 (nBox 29 x1).bind fun nb2 =>
 (nAlloc Tryd.prog 108).bind fun nb3 =>
 (ptrAdd (nb1.val H.next) 0).bind fun v4 =>
 (ldOne v4 (((H.new nb1.cells nb1.elem).new nb2.cells nb2.elem).new nb3.cells nb3.elem)).bind fun v5 =>
 (aBin Tryd.prog .eql 3 v5 (.int .i64 1)).bind fun v6 =>
 ((gdv v6 true).bind fun g7 => if g7 = true then (ptrAdd (nb2.val (H.new nb1.cells nb1.elem).next) 0) else some (.tuple [])).bind fun v8 =>
 ((gdv v6 true).bind fun g9 => if g9 = true then (ldOne v8 (((H.new nb1.cells nb1.elem).new nb2.cells nb2.elem).new nb3.cells nb3.elem)) else some (.tuple [])).bind fun v10 =>
 ((gdv v6 true).bind fun g11 => if g11 = true then (aBin Tryd.prog .eql 3 v10 (.int .i64 18)) else some (.tuple [])).bind fun v12 =>
 ((asB v6).bind fun b13 => if b13 = true then some v12 else some (.bool false)).bind fun v14 =>
 ((gdv v14 true).bind fun g15 => if g15 = true then (ptrAdd (nb1.val H.next) 1) else some (.tuple [])).bind fun v16 =>
 ((gdv v14 true).bind fun g17 => if g17 = true then (ldOne v16 (((H.new nb1.cells nb1.elem).new nb2.cells nb2.elem).new nb3.cells nb3.elem)) else some (.tuple [])).bind fun v18 =>
 ((gdv v14 true).bind fun g19 => if g19 = true then (aBin Tryd.prog .eql 2 v18 (.int .i64 0)) else some (.tuple [])).bind fun v20 =>
 ((asB v14).bind fun b21 => if b21 = true then some v20 else some (.bool false)).bind fun v22 =>
 (asB v22).bind fun b23 => if b23 = true then
 ((ptrAdd (nb2.val (H.new nb1.cells nb1.elem).next) 1).bind fun v24 =>
 (ldOne v24 (((H.new nb1.cells nb1.elem).new nb2.cells nb2.elem).new nb3.cells nb3.elem)).bind fun v25 =>
 (aBuild Tryd.prog 29 [(0, (.int .i64 17)), (1, v25)]).bind fun v26 =>
 (nBuildSlice Tryd.prog 22 1 [(0, v26)]).bind fun nb27 =>
 (aBuild Tryd.prog 108 [(0, (.int .i64 10)), (1, (.int .i64 2)), (2, (nb27.val (((H.new nb1.cells nb1.elem).new nb2.cells nb2.elem).new nb3.cells nb3.elem).next))]).bind fun v28 =>
 ((aStore Tryd.prog 108 (nb3.val ((H.new nb1.cells nb1.elem).new nb2.cells nb2.elem).next) v28 ((((H.new nb1.cells nb1.elem).new nb2.cells nb2.elem).new nb3.cells nb3.elem).new nb27.cells nb27.elem)).map fun H' => ((.tuple [] : AV), H')).bind fun r29 =>
 (((ldAgg (nb3.val ((H.new nb1.cells nb1.elem).new nb2.cells nb2.elem).next) 3 r29.2).bind fun v30 => some (v30 :: [])).map oneOf).map fun v => (v, r29.2))
 else
 ((ptrAdd (nb1.val H.next) 0).bind fun v31 =>
 (ldOne v31 (((H.new nb1.cells nb1.elem).new nb2.cells nb2.elem).new nb3.cells nb3.elem)).bind fun v32 =>
 (aBin Tryd.prog .eql 3 v32 (.int .i64 1)).bind fun v33 =>
 ((gdv v33 true).bind fun g34 => if g34 = true then (ptrAdd (nb2.val (H.new nb1.cells nb1.elem).next) 0) else some (.tuple [])).bind fun v35 =>
 ((gdv v33 true).bind fun g36 => if g36 = true then (ldOne v35 (((H.new nb1.cells nb1.elem).new nb2.cells nb2.elem).new nb3.cells nb3.elem)) else some (.tuple [])).bind fun v37 =>
 ((gdv v33 true).bind fun g38 => if g38 = true then (aBin Tryd.prog .eql 3 v37 (.int .i64 18)) else some (.tuple [])).bind fun v39 =>
 ((asB v33).bind fun b40 => if b40 = true then some v39 else some (.bool false)).bind fun v41 =>
 (asB v41).bind fun b42 => if b42 = true then
 ((aBuild Tryd.prog 108 [(0, (.int .i64 10)), (1, (.int .i64 2)), (2, (.slice none 0 (.kn 0)))]).bind fun v43 =>
 ((aStore Tryd.prog 108 (nb3.val ((H.new nb1.cells nb1.elem).new nb2.cells nb2.elem).next) v43 (((H.new nb1.cells nb1.elem).new nb2.cells nb2.elem).new nb3.cells nb3.elem)).map fun H' => ((.tuple [] : AV), H')).bind fun r44 =>
 (((ldAgg (nb3.val ((H.new nb1.cells nb1.elem).new nb2.cells nb2.elem).next) 3 r44.2).bind fun v45 => some (v45 :: [])).map oneOf).map fun v => (v, r44.2))
 else
 ((ptrAdd (nb1.val H.next) 0).bind fun v46 =>
 (ldOne v46 (((H.new nb1.cells nb1.elem).new nb2.cells nb2.elem).new nb3.cells nb3.elem)).bind fun v47 =>
 (aBin Tryd.prog .eql 3 v47 (.int .i64 1)).bind fun v48 =>
 ((gdv v48 true).bind fun g49 => if g49 = true then (ptrAdd (nb1.val H.next) 1) else some (.tuple [])).bind fun v50 =>
 ((gdv v48 true).bind fun g51 => if g51 = true then (ldOne v50 (((H.new nb1.cells nb1.elem).new nb2.cells nb2.elem).new nb3.cells nb3.elem)) else some (.tuple [])).bind fun v52 =>
 ((gdv v48 true).bind fun g53 => if g53 = true then (aBin Tryd.prog .neq 2 v52 (.int .i64 0)) else some (.tuple [])).bind fun v54 =>
 ((asB v48).bind fun b55 => if b55 = true then some v54 else some (.bool false)).bind fun v56 =>
 ((gdv v56 true).bind fun g57 => if g57 = true then (ptrAdd (nb2.val (H.new nb1.cells nb1.elem).next) 0) else some (.tuple [])).bind fun v58 =>
 ((gdv v56 true).bind fun g59 => if g59 = true then (ldOne v58 (((H.new nb1.cells nb1.elem).new nb2.cells nb2.elem).new nb3.cells nb3.elem)) else some (.tuple [])).bind fun v60 =>
 ((gdv v56 true).bind fun g61 => if g61 = true then (aBin Tryd.prog .eql 3 v60 (.int .i64 23)) else some (.tuple [])).bind fun v62 =>
 ((asB v56).bind fun b63 => if b63 = true then some v62 else some (.bool false)).bind fun v64 =>
 (asB v64).bind fun b65 => if b65 = true then
 ((aBuild Tryd.prog 108 [(0, (.int .i64 11)), (1, (.int .i64 2)), (2, (.slice none 0 (.kn 0)))]).bind fun v66 =>
 ((aStore Tryd.prog 108 (nb3.val ((H.new nb1.cells nb1.elem).new nb2.cells nb2.elem).next) v66 (((H.new nb1.cells nb1.elem).new nb2.cells nb2.elem).new nb3.cells nb3.elem)).map fun H' => ((.tuple [] : AV), H')).bind fun r67 =>
 (((ldAgg (nb3.val ((H.new nb1.cells nb1.elem).new nb2.cells nb2.elem).next) 3 r67.2).bind fun v68 => some (v68 :: [])).map oneOf).map fun v => (v, r67.2))
 else
 ((ptrAdd (nb1.val H.next) 0).bind fun v69 =>
 (ldOne v69 (((H.new nb1.cells nb1.elem).new nb2.cells nb2.elem).new nb3.cells nb3.elem)).bind fun v70 =>
 (aBin Tryd.prog .eql 3 v70 (.int .i64 6)).bind fun v71 =>
 ((gdv v71 true).bind fun g72 => if g72 = true then (ptrAdd (nb2.val (H.new nb1.cells nb1.elem).next) 0) else some (.tuple [])).bind fun v73 =>
 ((gdv v71 true).bind fun g74 => if g74 = true then (ldOne v73 (((H.new nb1.cells nb1.elem).new nb2.cells nb2.elem).new nb3.cells nb3.elem)) else some (.tuple [])).bind fun v75 =>
 ((gdv v71 true).bind fun g76 => if g76 = true then (aBin Tryd.prog .eql 3 v75 (.int .i64 6)) else some (.tuple [])).bind fun v77 =>
 ((asB v71).bind fun b78 => if b78 = true then some v77 else some (.bool false)).bind fun v79 =>
 ((gdv v79 true).bind fun g80 => if g80 = true then (ptrAdd (nb2.val (H.new nb1.cells nb1.elem).next) 1) else some (.tuple [])).bind fun v81 =>
 ((gdv v79 true).bind fun g82 => if g82 = true then (ldOne v81 (((H.new nb1.cells nb1.elem).new nb2.cells nb2.elem).new nb3.cells nb3.elem)) else some (.tuple [])).bind fun v83 =>
 ((gdv v79 true).bind fun g84 => if g84 = true then (ptrAdd (nb1.val H.next) 1) else some (.tuple [])).bind fun v85 =>
 ((gdv v79 true).bind fun g86 => if g86 = true then (ldOne v85 (((H.new nb1.cells nb1.elem).new nb2.cells nb2.elem).new nb3.cells nb3.elem)) else some (.tuple [])).bind fun v87 =>
 ((gdv v79 true).bind fun g88 => if g88 = true then (ptrAdd (nb1.val H.next) 2) else some (.tuple [])).bind fun v89 =>
 ((gdv v79 true).bind fun g90 => if g90 = true then (ldOne v89 (((H.new nb1.cells nb1.elem).new nb2.cells nb2.elem).new nb3.cells nb3.elem)) else some (.tuple [])).bind fun v91 =>
 ((gdv v79 true).bind fun g92 => if g92 = true then (aBin Tryd.prog .add 2 v87 v91) else some (.tuple [])).bind fun v93 =>
 ((gdv v79 true).bind fun g94 => if g94 = true then (aBin Tryd.prog .eql 2 v83 v93) else some (.tuple [])).bind fun v95 =>
 ((asB v79).bind fun b96 => if b96 = true then some v95 else some (.bool false)).bind fun v97 =>
 ((gdv v97 true).bind fun g98 => if g98 = true then (ptrAdd (nb1.val H.next) 2) else some (.tuple [])).bind fun v99 =>
 ((gdv v97 true).bind fun g100 => if g100 = true then (ldOne v99 (((H.new nb1.cells nb1.elem).new nb2.cells nb2.elem).new nb3.cells nb3.elem)) else some (.tuple [])).bind fun v101 =>
 ((gdv v97 true).bind fun g102 => if g102 = true then (ptrAdd (nb2.val (H.new nb1.cells nb1.elem).next) 2) else some (.tuple [])).bind fun v103 =>
 ((gdv v97 true).bind fun g104 => if g104 = true then (ldOne v103 (((H.new nb1.cells nb1.elem).new nb2.cells nb2.elem).new nb3.cells nb3.elem)) else some (.tuple [])).bind fun v105 =>
 ((gdv v97 true).bind fun g106 => if g106 = true then (aBin Tryd.prog .add 2 v101 v105) else some (.tuple [])).bind fun v107 =>
 ((gdv v97 true).bind fun g108 => if g108 = true then (aBin Tryd.prog .leq 2 v107 (.int .i64 64)) else some (.tuple [])).bind fun v109 =>
 ((asB v97).bind fun b110 => if b110 = true then some v109 else some (.bool false)).bind fun v111 =>
 (asB v111).bind fun b112 => if b112 = true then
 ((ptrAdd (nb1.val H.next) 1).bind fun v113 =>
 (ldOne v113 (((H.new nb1.cells nb1.elem).new nb2.cells nb2.elem).new nb3.cells nb3.elem)).bind fun v114 =>
 (ptrAdd (nb1.val H.next) 2).bind fun v115 =>
 (ldOne v115 (((H.new nb1.cells nb1.elem).new nb2.cells nb2.elem).new nb3.cells nb3.elem)).bind fun v116 =>
 (ptrAdd (nb2.val (H.new nb1.cells nb1.elem).next) 2).bind fun v117 =>
 (ldOne v117 (((H.new nb1.cells nb1.elem).new nb2.cells nb2.elem).new nb3.cells nb3.elem)).bind fun v118 =>
 (aBin Tryd.prog .add 2 v116 v118).bind fun v119 =>
 (aBuild Tryd.prog 29 [(0, (.int .i64 6)), (1, v114), (2, v119)]).bind fun v120 =>
 (nBuildSlice Tryd.prog 22 1 [(0, v120)]).bind fun nb121 =>
 (aBuild Tryd.prog 108 [(0, (.int .i64 12)), (1, (.int .i64 2)), (2, (nb121.val (((H.new nb1.cells nb1.elem).new nb2.cells nb2.elem).new nb3.cells nb3.elem).next))]).bind fun v122 =>
 ((aStore Tryd.prog 108 (nb3.val ((H.new nb1.cells nb1.elem).new nb2.cells nb2.elem).next) v122 ((((H.new nb1.cells nb1.elem).new nb2.cells nb2.elem).new nb3.cells nb3.elem).new nb121.cells nb121.elem)).map fun H' => ((.tuple [] : AV), H')).bind fun r123 =>
 (((ldAgg (nb3.val ((H.new nb1.cells nb1.elem).new nb2.cells nb2.elem).next) 3 r123.2).bind fun v124 => some (v124 :: [])).map oneOf).map fun v => (v, r123.2))
 else
 ((aBuild Tryd.prog 108 []).bind fun v125 =>
 ((aStore Tryd.prog 108 (nb3.val ((H.new nb1.cells nb1.elem).new nb2.cells nb2.elem).next) v125 (((H.new nb1.cells nb1.elem).new nb2.cells nb2.elem).new nb3.cells nb3.elem)).map fun H' => ((.tuple [] : AV), H')).bind fun r126 =>
 (((ldAgg (nb3.val ((H.new nb1.cells nb1.elem).new nb2.cells nb2.elem).next) 3 r126.2).bind fun v127 => some (v127 :: [])).map oneOf).map fun v => (v, r126.2)))))
theorem F108_eq (call : CallF) (it : ItF) (x0 : AV) (x1 : AV) (H : AH) : aFun Tryd.prog (drawA Tryd.prog) call it 108 [x0, x1] H = F108 call it x0 x1 H :=
 (aFun_eq Tryd.func108 rfl (by kernel_rfl) _ H (Nat.le_of_ble_eq_true (by kernel_rfl))).trans (by kernel_rfl)

noncomputable def F111 (call : CallF) (it : ItF) (x0 : AV) (H : AH) : Option (AV × AH) :=
 (aUn .neg x0).bind fun v1 =>
 some (v1, H)
theorem F111_eq (call : CallF) (it : ItF) (x0 : AV) (H : AH) : aFun Tryd.prog (drawA Tryd.prog) call it 111 [x0] H = F111 call it x0 H :=
 (aFun_eq Tryd.func111 rfl (by kernel_rfl) _ H (Nat.le_of_ble_eq_true (by kernel_rfl))).trans (by kernel_rfl)

noncomputable def F115 (call : CallF) (it : ItF) (x0 : AV) (H : AH) : Option (AV × AH) :=
 (call 131 [(.int .i64 0), x0] H).bind fun r1 =>
 some (r1.1, r1.2)
theorem F115_eq (call : CallF) (it : ItF) (x0 : AV) (H : AH) : aFun Tryd.prog (drawA Tryd.prog) call it 115 [x0] H = F115 call it x0 H :=
 (aFun_eq Tryd.func115 rfl (by kernel_rfl) _ H (Nat.le_of_ble_eq_true (by kernel_rfl))).trans (by kernel_rfl)

noncomputable def F116 (call : CallF) (it : ItF) (x0 : AV) (x1 : AV) (x2 : AV) (H : AH) : Option (AV × AH) :=
 (aBin Tryd.prog .geq 2 x1 (.int .i64 0)).bind fun v1 =>
 ((gdv v1 true).bind fun g2 => if g2 = true then (some x2) else some (.tuple [])).bind fun v3 =>
 ((gdv v1 true).bind fun g4 => if g4 = true then (aBin Tryd.prog .geq 2 v3 (.int .i64 1)) else some (.tuple [])).bind fun v5 =>
 ((asB v1).bind fun b6 => if b6 = true then some v5 else some (.bool false)).bind fun v7 =>
 ((gdv v7 true).bind fun g8 => if g8 = true then (some x1) else some (.tuple [])).bind fun v9 =>
 ((gdv v7 true).bind fun g10 => if g10 = true then (some x0) else some (.tuple [])).bind fun v11 =>
 ((gdv v7 true).bind fun g12 => if g12 = true then (nilC v11) else some (.tuple [])).bind fun v13 =>
 ((gdv v7 true).bind fun g14 => if g14 = true then (ptrAdd v13 1) else some (.tuple [])).bind fun v15 =>
 ((gdv v7 true).bind fun g16 => if g16 = true then (ptrAdd v15 1) else some (.tuple [])).bind fun v17 =>
 ((gdv v7 true).bind fun g18 => if g18 = true then (ldOne v17 H) else some (.tuple [])).bind fun v19 =>
 ((gdv v7 true).bind fun g20 => if g20 = true then (aBin Tryd.prog .leq 2 v9 v19) else some (.tuple [])).bind fun v21 =>
 ((asB v7).bind fun b22 => if b22 = true then some v21 else some (.bool false)).bind fun v23 =>
 ((gdv v23 true).bind fun g24 => if g24 = true then (some x2) else some (.tuple [])).bind fun v25 =>
 ((gdv v23 true).bind fun g26 => if g26 = true then (some x0) else some (.tuple [])).bind fun v27 =>
 ((gdv v23 true).bind fun g28 => if g28 = true then (nilC v27) else some (.tuple [])).bind fun v29 =>
 ((gdv v23 true).bind fun g30 => if g30 = true then (ptrAdd v29 1) else some (.tuple [])).bind fun v31 =>
 ((gdv v23 true).bind fun g32 => if g32 = true then (ptrAdd v31 1) else some (.tuple [])).bind fun v33 =>
 ((gdv v23 true).bind fun g34 => if g34 = true then (ldOne v33 H) else some (.tuple [])).bind fun v35 =>
 ((gdv v23 true).bind fun g36 => if g36 = true then (some x1) else some (.tuple [])).bind fun v37 =>
 ((gdv v23 true).bind fun g38 => if g38 = true then (aBin Tryd.prog .sub 2 v35 v37) else some (.tuple [])).bind fun v39 =>
 ((gdv v23 true).bind fun g40 => if g40 = true then (aBin Tryd.prog .leq 2 v25 v39) else some (.tuple [])).bind fun v41 =>
 ((asB v23).bind fun b42 => if b42 = true then some v41 else some (.bool false)).bind fun v43 =>
 some (v43, H)
theorem F116_eq (call : CallF) (it : ItF) (x0 : AV) (x1 : AV) (x2 : AV) (H : AH) : aFun Tryd.prog (drawA Tryd.prog) call it 116 [x0, x1, x2] H = F116 call it x0 x1 x2 H :=
 (aFun_eq Tryd.func116 rfl (by kernel_rfl) _ H (Nat.le_of_ble_eq_true (by kernel_rfl))).trans (by kernel_rfl)

noncomputable def F117 (call : CallF) (it : ItF) (x0 : AV) (x1 : AV) (H : AH) : Option (AV × AH) :=
 (nBox 29 x1).bind fun nb1 =>
 (ptrAdd (nb1.val H.next) 0).bind fun v2 =>
 (ldOne v2 (H.new nb1.cells nb1.elem)).bind fun v3 =>
 (aBin Tryd.prog .eql 3 v3 (.int .i64 19)).bind fun v4 =>
 (asB v4).bind fun b5 => if b5 = true then
 ((nilC x0).bind fun v6 =>
 (ptrAdd v6 0).bind fun v7 =>
 (ldOne v7 (H.new nb1.cells nb1.elem)).bind fun v8 =>
 (ptrAdd (nb1.val H.next) 1).bind fun v9 =>
 (ldOne v9 (H.new nb1.cells nb1.elem)).bind fun v10 =>
 (idxSl v8 v10 4).bind fun v11 =>
 (ptrAdd v11 3).bind fun v12 =>
 (ldOne v12 (H.new nb1.cells nb1.elem)).bind fun v13 =>
 (asB v13).bind fun b14 => if b14 = true then
 ((ptrAdd (nb1.val H.next) 2).bind fun v15 =>
 (ldOne v15 (H.new nb1.cells nb1.elem)).bind fun v16 =>
 some ((.tuple [v16, (.int .i64 1)]), (H.new nb1.cells nb1.elem)))
 else
 ((ptrAdd (nb1.val H.next) 2).bind fun v17 =>
 (ldOne v17 (H.new nb1.cells nb1.elem)).bind fun v18 =>
 some ((.tuple [v18, (.int .i64 0)]), (H.new nb1.cells nb1.elem))))
 else
 ((aBin Tryd.prog .eql 3 v3 (.int .i64 20)).bind fun v19 =>
 (asB v19).bind fun b20 => if b20 = true then
 ((ptrAdd (nb1.val H.next) 1).bind fun v21 =>
 (ldOne v21 (H.new nb1.cells nb1.elem)).bind fun v22 =>
 some ((.tuple [v22, (.int .i64 0)]), (H.new nb1.cells nb1.elem)))
 else
 ((ptrAdd (nb1.val H.next) 0).bind fun v23 =>
 (ldOne v23 (H.new nb1.cells nb1.elem)).bind fun v24 =>
 (aBin Tryd.prog .lss 3 v24 (.int .i64 26)).bind fun v25 =>
 (asB v25).bind fun b26 => if b26 = true then
 ((ptrAdd (nb1.val H.next) 0).bind fun v27 =>
 (ldOne v27 (H.new nb1.cells nb1.elem)).bind fun v28 =>
 (idxPtr (.ptr (some (1, 0))) v28 26 2).bind fun v29 =>
 (idxPtr v29 (.int .i64 0) 2 1).bind fun v30 =>
 (ldOne v30 (H.new nb1.cells nb1.elem)).bind fun v31 =>
 (ptrAdd (nb1.val H.next) 0).bind fun v32 =>
 (ldOne v32 (H.new nb1.cells nb1.elem)).bind fun v33 =>
 (idxPtr (.ptr (some (1, 0))) v33 26 2).bind fun v34 =>
 (idxPtr v34 (.int .i64 1) 2 1).bind fun v35 =>
 (ldOne v35 (H.new nb1.cells nb1.elem)).bind fun v36 =>
 some ((.tuple [v31, v36]), (H.new nb1.cells nb1.elem)))
 else
 (some ((.tuple [(.int .i64 0), (.int .i64 0)]), (H.new nb1.cells nb1.elem)))))
theorem F117_eq (call : CallF) (it : ItF) (x0 : AV) (x1 : AV) (H : AH) : aFun Tryd.prog (drawA Tryd.prog) call it 117 [x0, x1] H = F117 call it x0 x1 H :=
 (aFun_eq Tryd.func117 rfl (by kernel_rfl) _ H (Nat.le_of_ble_eq_true (by kernel_rfl))).trans (by kernel_rfl)

noncomputable def F118 (call : CallF) (it : ItF) (x0 : AV) (x1 : AV) (H : AH) : Option (AV × AH) :=
 (nBox 29 x0).bind fun nb1 =>
 (ptrAdd (nb1.val H.next) 0).bind fun v2 =>
 (ldOne v2 (H.new nb1.cells nb1.elem)).bind fun v3 =>
 (aBin Tryd.prog .eql 3 v3 (.int .i64 17)).bind fun v4 =>
 (asB v4).bind fun b5 => if b5 = true then
 ((ptrAdd (nb1.val H.next) 1).bind fun v6 =>
 (ldOne v6 (H.new nb1.cells nb1.elem)).bind fun v7 =>
 (nBuildSlice Tryd.prog 40 1 [(0, v7)]).bind fun nb8 =>
 some ((nb8.val (H.new nb1.cells nb1.elem).next), ((H.new nb1.cells nb1.elem).new nb8.cells nb8.elem)))
 else
 ((aBin Tryd.prog .eql 3 v3 (.int .i64 18)).bind fun v9 =>
 (asB v9).bind fun b10 => if b10 = true then
 ((aBin Tryd.prog .add 3 x1 (.int .i64 1)).bind fun v11 =>
 (ptrAdd (nb1.val H.next) 1).bind fun v12 =>
 (ldOne v12 (H.new nb1.cells nb1.elem)).bind fun v13 =>
 (nBuildSlice Tryd.prog 40 2 [(0, v11), (1, v13)]).bind fun nb14 =>
 some ((nb14.val (H.new nb1.cells nb1.elem).next), ((H.new nb1.cells nb1.elem).new nb14.cells nb14.elem)))
 else
 ((aBin Tryd.prog .eql 3 v3 (.int .i64 20)).bind fun v15 =>
 (asB v15).bind fun b16 => if b16 = true then
 (some ((.slice none 0 (.kn 0)), (H.new nb1.cells nb1.elem)))
 else
 ((aBin Tryd.prog .add 3 x1 (.int .i64 1)).bind fun v17 =>
 (nBuildSlice Tryd.prog 40 1 [(0, v17)]).bind fun nb18 =>
 some ((nb18.val (H.new nb1.cells nb1.elem).next), ((H.new nb1.cells nb1.elem).new nb18.cells nb18.elem)))))
theorem F118_eq (call : CallF) (it : ItF) (x0 : AV) (x1 : AV) (H : AH) : aFun Tryd.prog (drawA Tryd.prog) call it 118 [x0, x1] H = F118 call it x0 x1 H :=
 (aFun_eq Tryd.func118 rfl (by kernel_rfl) _ H (Nat.le_of_ble_eq_true (by kernel_rfl))).trans (by kernel_rfl)

noncomputable def F119 (call : CallF) (it : ItF) (x0 : AV) (x1 : AV) (x2 : AV) (H : AH) : Option (AV × AH) :=
 (nBox 24 x0).bind fun nb1 =>
 (ptrAdd (nb1.val H.next) 1).bind fun v2 =>
 (ldOne v2 (H.new nb1.cells nb1.elem)).bind fun v3 =>
 (aBin Tryd.prog .geq 2 x1 (.int .i64 0)).bind fun v4 =>
 ((gdv v4 true).bind fun g5 => if g5 = true then (some x2) else some (.tuple [])).bind fun v6 =>
 ((gdv v4 true).bind fun g7 => if g7 = true then (aBin Tryd.prog .geq 2 v6 (.int .i64 1)) else some (.tuple [])).bind fun v8 =>
 ((asB v4).bind fun b9 => if b9 = true then some v8 else some (.bool false)).bind fun v10 =>
 ((gdv v10 true).bind fun g11 => if g11 = true then (some x2) else some (.tuple [])).bind fun v12 =>
 ((gdv v10 true).bind fun g13 => if g13 = true then (some v3) else some (.tuple [])).bind fun v14 =>
 ((gdv v10 true).bind fun g15 => if g15 = true then (aBin Tryd.prog .leq 2 v12 v14) else some (.tuple [])).bind fun v16 =>
 ((asB v10).bind fun b17 => if b17 = true then some v16 else some (.bool false)).bind fun v18 =>
 ((gdv v18 true).bind fun g19 => if g19 = true then (some x1) else some (.tuple [])).bind fun v20 =>
 ((gdv v18 true).bind fun g21 => if g21 = true then (some v3) else some (.tuple [])).bind fun v22 =>
 ((gdv v18 true).bind fun g23 => if g23 = true then (some x2) else some (.tuple [])).bind fun v24 =>
 ((gdv v18 true).bind fun g25 => if g25 = true then (aBin Tryd.prog .sub 2 v22 v24) else some (.tuple [])).bind fun v26 =>
 ((gdv v18 true).bind fun g27 => if g27 = true then (aBin Tryd.prog .leq 2 v20 v26) else some (.tuple [])).bind fun v28 =>
 ((asB v18).bind fun b29 => if b29 = true then some v28 else some (.bool false)).bind fun v30 =>
 some (v30, (H.new nb1.cells nb1.elem))
theorem F119_eq (call : CallF) (it : ItF) (x0 : AV) (x1 : AV) (x2 : AV) (H : AH) : aFun Tryd.prog (drawA Tryd.prog) call it 119 [x0, x1, x2] H = F119 call it x0 x1 x2 H :=
 (aFun_eq Tryd.func119 rfl (by kernel_rfl) _ H (Nat.le_of_ble_eq_true (by kernel_rfl))).trans (by kernel_rfl)

noncomputable def F120 (call : CallF) (it : ItF) (x0 : AV) (x1 : AV) (x2 : AV) (H : AH) : Option (AV × AH) :=
 (nBox 141 x0).bind fun nb1 =>
 (nAlloc Tryd.prog 29).bind fun nb2 =>
 (ptrAdd (nb1.val H.next) 0).bind fun v3 =>
 (ldOne v3 ((H.new nb1.cells nb1.elem).new nb2.cells nb2.elem)).bind fun v4 =>
 (aLen Tryd.prog 22 v4).bind fun v5 =>
 (aBin Tryd.prog .geq 3 x1 v5).bind fun v6 =>
 ((gdv v6 false).bind fun g7 => if g7 = true then (some x2) else some (.tuple [])).bind fun v8 =>
 ((gdv v6 false).bind fun g9 => if g9 = true then (aUn .not v8) else some (.tuple [])).bind fun v10 =>
 ((gdv v6 false).bind fun g11 => if g11 = true then (some v10) else some (.tuple [])).bind fun v12 =>
 ((gdv v12 true).bind fun g13 => if g13 = true then (ptrAdd (nb1.val H.next) 2) else some (.tuple [])).bind fun v14 =>
 ((gdv v12 true).bind fun g15 => if g15 = true then (ldOne v14 ((H.new nb1.cells nb1.elem).new nb2.cells nb2.elem)) else some (.tuple [])).bind fun v16 =>
 ((gdv v12 true).bind fun g17 => if g17 = true then (some x1) else some (.tuple [])).bind fun v18 =>
 ((gdv v12 true).bind fun g19 => if g19 = true then (idxSl v16 v18 1) else some (.tuple [])).bind fun v20 =>
 ((gdv v12 true).bind fun g21 => if g21 = true then (ldOne v20 ((H.new nb1.cells nb1.elem).new nb2.cells nb2.elem)) else some (.tuple [])).bind fun v22 =>
 ((gdv v6 false).bind fun g24 => if g24 = true then ((asB v12).bind fun b23 => if b23 = true then some v22 else some (.bool false)) else some (.tuple [])).bind fun v25 =>
 ((asB v6).bind fun b26 => if b26 = true then some (.bool true) else some v25).bind fun v27 =>
 (asB v27).bind fun b28 => if b28 = true then
 ((aBuild Tryd.prog 29 []).bind fun v29 =>
 ((aStore Tryd.prog 29 (nb2.val (H.new nb1.cells nb1.elem).next) v29 ((H.new nb1.cells nb1.elem).new nb2.cells nb2.elem)).map fun H' => ((.tuple [] : AV), H')).bind fun r30 =>
 (((ldAgg (nb2.val (H.new nb1.cells nb1.elem).next) 3 r30.2).bind fun v31 => some (v31 :: [])).map oneOf).map fun v => (v, r30.2))
 else
 ((ptrAdd (nb1.val H.next) 0).bind fun v32 =>
 (ldOne v32 ((H.new nb1.cells nb1.elem).new nb2.cells nb2.elem)).bind fun v33 =>
 (idxSl v33 x1 3).bind fun v34 =>
 (ldAgg v34 3 ((H.new nb1.cells nb1.elem).new nb2.cells nb2.elem)).bind fun v35 =>
 ((aStore Tryd.prog 29 (nb2.val (H.new nb1.cells nb1.elem).next) v35 ((H.new nb1.cells nb1.elem).new nb2.cells nb2.elem)).map fun H' => ((.tuple [] : AV), H')).bind fun r36 =>
 (((ldAgg (nb2.val (H.new nb1.cells nb1.elem).next) 3 r36.2).bind fun v37 => some (v37 :: [])).map oneOf).map fun v => (v, r36.2))
theorem F120_eq (call : CallF) (it : ItF) (x0 : AV) (x1 : AV) (x2 : AV) (H : AH) : aFun Tryd.prog (drawA Tryd.prog) call it 120 [x0, x1, x2] H = F120 call it x0 x1 x2 H :=
 (aFun_eq Tryd.func120 rfl (by kernel_rfl) _ H (Nat.le_of_ble_eq_true (by kernel_rfl))).trans (by kernel_rfl)

noncomputable def F121 (call : CallF) (it : ItF) (x0 : AV) (H : AH) : Option (AV × AH) :=
 (aBuild Tryd.prog 29 [(0, (.int .i64 1)), (1, x0)]).bind fun v1 =>
 (nBuildSlice Tryd.prog 22 1 [(0, v1)]).bind fun nb2 =>
 some ((nb2.val H.next), (H.new nb2.cells nb2.elem))
theorem F121_eq (call : CallF) (it : ItF) (x0 : AV) (H : AH) : aFun Tryd.prog (drawA Tryd.prog) call it 121 [x0] H = F121 call it x0 H :=
 (aFun_eq Tryd.func121 rfl (by kernel_rfl) _ H (Nat.le_of_ble_eq_true (by kernel_rfl))).trans (by kernel_rfl)

noncomputable def F122 (call : CallF) (it : ItF) (x0 : AV) (H : AH) : Option (AV × AH) :=
 (asB x0).bind fun b1 => if b1 = true then
 (some ((.int .i64 1), H))
 else
 (some ((.int .i64 0), H))
theorem F122_eq (call : CallF) (it : ItF) (x0 : AV) (H : AH) : aFun Tryd.prog (drawA Tryd.prog) call it 122 [x0] H = F122 call it x0 H :=
 (aFun_eq Tryd.func122 rfl (by kernel_rfl) _ H (Nat.le_of_ble_eq_true (by kernel_rfl))).trans (by kernel_rfl)

noncomputable def F123 (call : CallF) (it : ItF) (x0 : AV) (x1 : AV) (x2 : AV) (H : AH) : Option (AV × AH) :=
 (aBin Tryd.prog .eql 3 x0 (.int .i64 7)).bind fun v1 =>
 (asB v1).bind fun b2 => if b2 = true then
 ((call 130 [x1, x2] H).bind fun r3 =>
 some ((.tuple [r3.1, (.bool true)]), r3.2))
 else
 ((aBin Tryd.prog .eql 3 x0 (.int .i64 8)).bind fun v4 =>
 (asB v4).bind fun b5 => if b5 = true then
 ((call 131 [x1, x2] H).bind fun r6 =>
 some ((.tuple [r6.1, (.bool true)]), r6.2))
 else
 ((aBin Tryd.prog .eql 3 x0 (.int .i64 9)).bind fun v7 =>
 (asB v7).bind fun b8 => if b8 = true then
 ((call 132 [x1, x2] H).bind fun r9 =>
 some ((.tuple [r9.1, (.bool true)]), r9.2))
 else
 ((aBin Tryd.prog .eql 3 x0 (.int .i64 12)).bind fun v10 =>
 (asB v10).bind fun b11 => if b11 = true then
 ((aBin Tryd.prog .lss 2 x1 x2).bind fun v12 =>
 (call 122 [v12] H).bind fun r13 =>
 some ((.tuple [r13.1, (.bool true)]), r13.2))
 else
 ((aBin Tryd.prog .eql 3 x0 (.int .i64 13)).bind fun v14 =>
 (asB v14).bind fun b15 => if b15 = true then
 ((aBin Tryd.prog .lss 2 x1 x2).bind fun v16 =>
 ((gdv v16 false).bind fun g17 => if g17 = true then (some x1) else some (.tuple [])).bind fun v18 =>
 ((gdv v16 false).bind fun g19 => if g19 = true then (some x2) else some (.tuple [])).bind fun v20 =>
 ((gdv v16 false).bind fun g21 => if g21 = true then (aBin Tryd.prog .eql 2 v18 v20) else some (.tuple [])).bind fun v22 =>
 ((asB v16).bind fun b23 => if b23 = true then some (.bool true) else some v22).bind fun v24 =>
 (call 122 [v24] H).bind fun r25 =>
 some ((.tuple [r25.1, (.bool true)]), r25.2))
 else
 ((aBin Tryd.prog .eql 3 x0 (.int .i64 14)).bind fun v26 =>
 (asB v26).bind fun b27 => if b27 = true then
 ((aBin Tryd.prog .eql 2 x1 x2).bind fun v28 =>
 (call 122 [v28] H).bind fun r29 =>
 some ((.tuple [r29.1, (.bool true)]), r29.2))
 else
 ((aBin Tryd.prog .eql 2 x2 (.int .i64 0)).bind fun v30 =>
 (asB v30).bind fun b31 => if b31 = true then
 (some ((.tuple [(.int .i64 0), (.bool false)]), H))
 else
 ((aBin Tryd.prog .eql 3 x0 (.int .i64 10)).bind fun v32 =>
 (asB v32).bind fun b33 => if b33 = true then
 ((call 133 [x1, x2] H).bind fun r34 =>
 (aExtract r34.1 0).bind fun v35 =>
 (aExtract r34.1 1).bind fun v36 =>
 some ((.tuple [v35, (.bool true)]), r34.2))
 else
 ((aBin Tryd.prog .eql 3 x0 (.int .i64 11)).bind fun v37 =>
 (asB v37).bind fun b38 => if b38 = true then
 ((call 134 [x1, x2] H).bind fun r39 =>
 (aExtract r39.1 0).bind fun v40 =>
 (aExtract r39.1 1).bind fun v41 =>
 some ((.tuple [v40, (.bool true)]), r39.2))
 else
 (some ((.tuple [(.int .i64 0), (.bool false)]), H))))))))))
theorem F123_eq (call : CallF) (it : ItF) (x0 : AV) (x1 : AV) (x2 : AV) (H : AH) : aFun Tryd.prog (drawA Tryd.prog) call it 123 [x0, x1, x2] H = F123 call it x0 x1 x2 H :=
 (aFun_eq Tryd.func123 rfl (by kernel_rfl) _ H (Nat.le_of_ble_eq_true (by kernel_rfl))).trans (by kernel_rfl)

noncomputable def F124 (call : CallF) (it : ItF) (x0 : AV) (x1 : AV) (x2 : AV) (H : AH) : Option (AV × AH) :=
 (aBin Tryd.prog .eql 3 x0 (.int .i64 7)).bind fun v1 =>
 (asB v1).bind fun b2 => if b2 = true then
 ((call 125 [x1, x2] H).bind fun r3 =>
 some ((.tuple [r3.1, (.bool true)]), r3.2))
 else
 ((aBin Tryd.prog .eql 3 x0 (.int .i64 8)).bind fun v4 =>
 (asB v4).bind fun b5 => if b5 = true then
 ((call 126 [x1, x2] H).bind fun r6 =>
 some ((.tuple [r6.1, (.bool true)]), r6.2))
 else
 ((aBin Tryd.prog .eql 3 x0 (.int .i64 9)).bind fun v7 =>
 (asB v7).bind fun b8 => if b8 = true then
 ((call 127 [x1, x2] H).bind fun r9 =>
 some ((.tuple [r9.1, (.bool true)]), r9.2))
 else
 ((aBin Tryd.prog .eql 3 x0 (.int .i64 10)).bind fun v10 =>
 (asB v10).bind fun b11 => if b11 = true then
 ((call 128 [x1, x2] H).bind fun r12 =>
 (aExtract r12.1 0).bind fun v13 =>
 (aExtract r12.1 1).bind fun v14 =>
 (aBin Tryd.prog .eql 30 v14 (.int .i64 0)).bind fun v15 =>
 some ((.tuple [v13, v15]), r12.2))
 else
 ((aBin Tryd.prog .eql 3 x0 (.int .i64 11)).bind fun v16 =>
 (asB v16).bind fun b17 => if b17 = true then
 ((call 129 [x1, x2] H).bind fun r18 =>
 (aExtract r18.1 0).bind fun v19 =>
 (aExtract r18.1 1).bind fun v20 =>
 (aBin Tryd.prog .eql 30 v20 (.int .i64 0)).bind fun v21 =>
 some ((.tuple [v19, v21]), r18.2))
 else
 ((aBin Tryd.prog .eql 3 x0 (.int .i64 12)).bind fun v22 =>
 (asB v22).bind fun b23 => if b23 = true then
 ((aBin Tryd.prog .lss 2 x1 x2).bind fun v24 =>
 (callV call (.func 136 []) [v24] H).bind fun r25 =>
 (aExtract r25.1 0).bind fun v26 =>
 (aExtract r25.1 1).bind fun v27 =>
 some ((.tuple [v26, v27]), r25.2))
 else
 ((aBin Tryd.prog .eql 3 x0 (.int .i64 13)).bind fun v28 =>
 (asB v28).bind fun b29 => if b29 = true then
 ((aBin Tryd.prog .leq 2 x1 x2).bind fun v30 =>
 (callV call (.func 136 []) [v30] H).bind fun r31 =>
 (aExtract r31.1 0).bind fun v32 =>
 (aExtract r31.1 1).bind fun v33 =>
 some ((.tuple [v32, v33]), r31.2))
 else
 ((aBin Tryd.prog .eql 3 x0 (.int .i64 14)).bind fun v34 =>
 (asB v34).bind fun b35 => if b35 = true then
 ((aBin Tryd.prog .eql 2 x1 x2).bind fun v36 =>
 (callV call (.func 136 []) [v36] H).bind fun r37 =>
 (aExtract r37.1 0).bind fun v38 =>
 (aExtract r37.1 1).bind fun v39 =>
 some ((.tuple [v38, v39]), r37.2))
 else
 (some ((.tuple [(.int .i64 0), (.bool false)]), H)))))))))
theorem F124_eq (call : CallF) (it : ItF) (x0 : AV) (x1 : AV) (x2 : AV) (H : AH) : aFun Tryd.prog (drawA Tryd.prog) call it 124 [x0, x1, x2] H = F124 call it x0 x1 x2 H :=
 (aFun_eq Tryd.func124 rfl (by kernel_rfl) _ H (Nat.le_of_ble_eq_true (by kernel_rfl))).trans (by kernel_rfl)

noncomputable def F125 (call : CallF) (it : ItF) (x0 : AV) (x1 : AV) (H : AH) : Option (AV × AH) :=
 (aBin Tryd.prog .add 2 x0 x1).bind fun v1 =>
 some (v1, H)
theorem F125_eq (call : CallF) (it : ItF) (x0 : AV) (x1 : AV) (H : AH) : aFun Tryd.prog (drawA Tryd.prog) call it 125 [x0, x1] H = F125 call it x0 x1 H :=
 (aFun_eq Tryd.func125 rfl (by kernel_rfl) _ H (Nat.le_of_ble_eq_true (by kernel_rfl))).trans (by kernel_rfl)

noncomputable def F126 (call : CallF) (it : ItF) (x0 : AV) (x1 : AV) (H : AH) : Option (AV × AH) :=
 (aBin Tryd.prog .sub 2 x0 x1).bind fun v1 =>
 some (v1, H)
theorem F126_eq (call : CallF) (it : ItF) (x0 : AV) (x1 : AV) (H : AH) : aFun Tryd.prog (drawA Tryd.prog) call it 126 [x0, x1] H = F126 call it x0 x1 H :=
 (aFun_eq Tryd.func126 rfl (by kernel_rfl) _ H (Nat.le_of_ble_eq_true (by kernel_rfl))).trans (by kernel_rfl)

noncomputable def F127 (call : CallF) (it : ItF) (x0 : AV) (x1 : AV) (H : AH) : Option (AV × AH) :=
 (aBin Tryd.prog .mul 2 x0 x1).bind fun v1 =>
 some (v1, H)
theorem F127_eq (call : CallF) (it : ItF) (x0 : AV) (x1 : AV) (H : AH) : aFun Tryd.prog (drawA Tryd.prog) call it 127 [x0, x1] H = F127 call it x0 x1 H :=
 (aFun_eq Tryd.func127 rfl (by kernel_rfl) _ H (Nat.le_of_ble_eq_true (by kernel_rfl))).trans (by kernel_rfl)

noncomputable def F128 (call : CallF) (it : ItF) (x0 : AV) (x1 : AV) (H : AH) : Option (AV × AH) :=
 (aBin Tryd.prog .eql 2 x1 (.int .i64 0)).bind fun v1 =>
 (asB v1).bind fun b2 => if b2 = true then
 (some ((.tuple [(.int .i64 0), (.int .i64 11)]), H))
 else
 ((aBin Tryd.prog .quo 2 x0 x1).bind fun v3 =>
 some ((.tuple [v3, (.int .i64 0)]), H))
theorem F128_eq (call : CallF) (it : ItF) (x0 : AV) (x1 : AV) (H : AH) : aFun Tryd.prog (drawA Tryd.prog) call it 128 [x0, x1] H = F128 call it x0 x1 H :=
 (aFun_eq Tryd.func128 rfl (by kernel_rfl) _ H (Nat.le_of_ble_eq_true (by kernel_rfl))).trans (by kernel_rfl)

noncomputable def F129 (call : CallF) (it : ItF) (x0 : AV) (x1 : AV) (H : AH) : Option (AV × AH) :=
 (aBin Tryd.prog .eql 2 x1 (.int .i64 0)).bind fun v1 =>
 (asB v1).bind fun b2 => if b2 = true then
 (some ((.tuple [(.int .i64 0), (.int .i64 11)]), H))
 else
 ((aBin Tryd.prog .rem 2 x0 x1).bind fun v3 =>
 some ((.tuple [v3, (.int .i64 0)]), H))
theorem F129_eq (call : CallF) (it : ItF) (x0 : AV) (x1 : AV) (H : AH) : aFun Tryd.prog (drawA Tryd.prog) call it 129 [x0, x1] H = F129 call it x0 x1 H :=
 (aFun_eq Tryd.func129 rfl (by kernel_rfl) _ H (Nat.le_of_ble_eq_true (by kernel_rfl))).trans (by kernel_rfl)

noncomputable def F130 (call : CallF) (it : ItF) (x0 : AV) (x1 : AV) (H : AH) : Option (AV × AH) :=
 (call 139 [x0] H).bind fun r1 =>
 (call 139 [x1] r1.2).bind fun r2 =>
 (call 138 [r1.1, r2.1, (.int .i64 0)] r2.2).bind fun r3 =>
 (call 137 [r3.1] r3.2).bind fun r4 =>
 some (r4.1, r4.2)
theorem F130_eq (call : CallF) (it : ItF) (x0 : AV) (x1 : AV) (H : AH) : aFun Tryd.prog (drawA Tryd.prog) call it 130 [x0, x1] H = F130 call it x0 x1 H :=
 (aFun_eq Tryd.func130 rfl (by kernel_rfl) _ H (Nat.le_of_ble_eq_true (by kernel_rfl))).trans (by kernel_rfl)

noncomputable def F131 (call : CallF) (it : ItF) (x0 : AV) (x1 : AV) (H : AH) : Option (AV × AH) :=
 (call 139 [x0] H).bind fun r1 =>
 (call 139 [x1] r1.2).bind fun r2 =>
 (call 140 [r2.1] r2.2).bind fun r3 =>
 (call 138 [r1.1, r3.1, (.int .i64 1)] r3.2).bind fun r4 =>
 (call 137 [r4.1] r4.2).bind fun r5 =>
 some (r5.1, r5.2)
theorem F131_eq (call : CallF) (it : ItF) (x0 : AV) (x1 : AV) (H : AH) : aFun Tryd.prog (drawA Tryd.prog) call it 131 [x0, x1] H = F131 call it x0 x1 H :=
 (aFun_eq Tryd.func131 rfl (by kernel_rfl) _ H (Nat.le_of_ble_eq_true (by kernel_rfl))).trans (by kernel_rfl)

noncomputable def F132_J0 (call : CallF) (it : ItF) (T14 : Tm) (H15 : AH) : Option (Ex × St) :=
 (call 138 [(T14 6), (T14 6), (.int .i64 0)] H15).bind fun r16 =>
 (aBin Tryd.prog .add 3 (T14 8) (.int .i64 1)).bind fun v17 =>
 some (.normal, (updL T14 [(26, (T14 6)), (27, (T14 6)), (28, r16.1), (6, r16.1), (16, (T14 8)), (17, v17), (8, v17)]), r16.2)
noncomputable def F132_L1 (call : CallF) (it : ItF) (s4 : St) : Option (Ex × St) :=
 (aBin Tryd.prog .lss 3 (s4.1 8) (.int .i64 64)).bind fun v7 =>
 (asB v7).bind fun b8 => if b8 = true then
 (jn (
 (idxSl (s4.1 7) (s4.1 8) 1).bind fun v9 =>
 (ldOne v9 s4.2).bind fun v10 =>
 (aBin Tryd.prog .eql 3 v10 (.int .i64 1)).bind fun v11 =>
 (asB v11).bind fun b12 => if b12 = true then
 ((call 138 [(s4.1 5), (s4.1 6), (.int .i64 0)] s4.2).bind fun r13 =>
 some (.inl ((updL s4.1 [(14, (s4.1 8)), (15, v7), (18, (s4.1 7)), (19, (s4.1 8)), (20, v9), (21, v10), (22, v11), (23, (s4.1 5)), (24, (s4.1 6)), (25, r13.1), (5, r13.1)]), r13.2)))
 else
 (some (.inl ((updL s4.1 [(14, (s4.1 8)), (15, v7), (18, (s4.1 7)), (19, (s4.1 8)), (20, v9), (21, v10), (22, v11)]), s4.2))))
 (F132_J0 call it))
 else
 (some (.exit 0, (updL s4.1 [(14, (s4.1 8)), (15, v7)]), s4.2))
noncomputable def F132 (call : CallF) (it : ItF) (x0 : AV) (x1 : AV) (H : AH) : Option (AV × AH) :=
 (call 139 [(.int .i64 0)] H).bind fun r1 =>
 (call 139 [x0] r1.2).bind fun r2 =>
 (call 139 [x1] r2.2).bind fun r3 =>
 (it (F132_L1 call it) ((updL (T0 [x0, x1]) [(4, (.int .i64 0)), (9, r1.1), (5, r1.1), (10, x0), (11, r2.1), (12, x1), (13, r3.1), (6, r2.1), (7, r3.1), (8, (.int .i64 0))]), r3.2)).bind fun r5 => match r5.1 with
 | .normal => none
 | .exit j6 => if j6 = 0 then
 ((call 137 [(r5.2.1 5)] r5.2.2).bind fun r18 =>
 some (r18.1, r18.2))
 else
 (none)
 | .ret => some ((r5.2.1 4), r5.2.2)
theorem F132_eq (call : CallF) (it : ItF) (x0 : AV) (x1 : AV) (H : AH) : aFun Tryd.prog (drawA Tryd.prog) call it 132 [x0, x1] H = F132 call it x0 x1 H :=
 (aFun_eq Tryd.func132 rfl (by kernel_rfl) _ H (Nat.le_of_ble_eq_true (by kernel_rfl))).trans (by kernel_rfl)

noncomputable def F133 (call : CallF) (it : ItF) (x0 : AV) (x1 : AV) (H : AH) : Option (AV × AH) :=
 (aBin Tryd.prog .eql 2 x1 (.int .i64 0)).bind fun v1 =>
 (asB v1).bind fun b2 => if b2 = true then
 (some ((.tuple [(.int .i64 0), (.int .i64 11)]), H))
 else
 ((call 93 [x0] H).bind fun r3 =>
 (call 93 [x1] r3.2).bind fun r4 =>
 (call 141 [r3.1, r4.1] r4.2).bind fun r5 =>
 (aExtract r5.1 0).bind fun v6 =>
 (aExtract r5.1 1).bind fun v7 =>
 (aBin Tryd.prog .lss 2 x0 (.int .i64 0)).bind fun v8 =>
 (aBin Tryd.prog .lss 2 x1 (.int .i64 0)).bind fun v9 =>
 (aBin Tryd.prog .neq 4 v8 v9).bind fun v10 =>
 (asB v10).bind fun b11 => if b11 = true then
 ((cvInt .i64 v6).bind fun v12 =>
 (call 115 [v12] r5.2).bind fun r13 =>
 some ((.tuple [r13.1, (.int .i64 0)]), r13.2))
 else
 ((cvInt .i64 v6).bind fun v14 =>
 some ((.tuple [v14, (.int .i64 0)]), r5.2)))
theorem F133_eq (call : CallF) (it : ItF) (x0 : AV) (x1 : AV) (H : AH) : aFun Tryd.prog (drawA Tryd.prog) call it 133 [x0, x1] H = F133 call it x0 x1 H :=
 (aFun_eq Tryd.func133 rfl (by kernel_rfl) _ H (Nat.le_of_ble_eq_true (by kernel_rfl))).trans (by kernel_rfl)

noncomputable def F134 (call : CallF) (it : ItF) (x0 : AV) (x1 : AV) (H : AH) : Option (AV × AH) :=
 (call 133 [x0, x1] H).bind fun r1 =>
 (aExtract r1.1 0).bind fun v2 =>
 (aExtract r1.1 1).bind fun v3 =>
 (aBin Tryd.prog .neq 30 v3 (.int .i64 0)).bind fun v4 =>
 (asB v4).bind fun b5 => if b5 = true then
 (some ((.tuple [(.int .i64 0), v3]), r1.2))
 else
 ((call 132 [v2, x1] r1.2).bind fun r6 =>
 (call 131 [x0, r6.1] r6.2).bind fun r7 =>
 some ((.tuple [r7.1, (.int .i64 0)]), r7.2))
theorem F134_eq (call : CallF) (it : ItF) (x0 : AV) (x1 : AV) (H : AH) : aFun Tryd.prog (drawA Tryd.prog) call it 134 [x0, x1] H = F134 call it x0 x1 H :=
 (aFun_eq Tryd.func134 rfl (by kernel_rfl) _ H (Nat.le_of_ble_eq_true (by kernel_rfl))).trans (by kernel_rfl)

noncomputable def F136 (call : CallF) (it : ItF) (x0 : AV) (H : AH) : Option (AV × AH) :=
 (asB x0).bind fun b1 => if b1 = true then
 (some ((.tuple [(.int .i64 1), (.bool true)]), H))
 else
 (some ((.tuple [(.int .i64 0), (.bool true)]), H))
theorem F136_eq (call : CallF) (it : ItF) (x0 : AV) (H : AH) : aFun Tryd.prog (drawA Tryd.prog) call it 136 [x0] H = F136 call it x0 H :=
 (aFun_eq Tryd.func136 rfl (by kernel_rfl) _ H (Nat.le_of_ble_eq_true (by kernel_rfl))).trans (by kernel_rfl)

end Go.Proofs.YthiflgncldmkjaaDoor
