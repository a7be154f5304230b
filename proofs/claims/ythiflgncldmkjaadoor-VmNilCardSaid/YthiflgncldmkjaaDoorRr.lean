/- Running fixed calls; tables of what functions come to. -/
import Derived.Test.YthiflgncldmkjaaDoorRq
set_option linter.unusedVariables false
set_option linter.unusedSimpArgs false
namespace Go.Ri

/-! ### Regions that draw, with checks that can be run -/
mutual
def eqA : AV → AV → Bool
  | .bool a => fun | .bool b => a == b | _ => false
  | .int k n => fun | .int l m => decide (k = l) && decide (n = m) | _ => false
  | .str a => fun | .str b => decide (a = b) | _ => false
  | .ptr a => fun | .ptr b => decide (a = b) | _ => false
  | .slice a n c => fun | .slice b m d => decide (a = b) && decide (n = m) && decide (c = d) | _ => false
  | .empty => fun | .empty => true | _ => false
  | .func f cs => fun | .func g ds => decide (f = g) && eqAs cs ds | _ => false
  | .nilFunc => fun | .nilFunc => true | _ => false
  | .agg cs => fun | .agg ds => eqAs cs ds | _ => false
  | .tuple cs => fun | .tuple ds => eqAs cs ds | _ => false
  | .other _ => fun _ => false
def eqAs : List AV → List AV → Bool
  | [] => fun | [] => true | _ => false
  | c :: cs => fun | d :: ds => eqA c d && eqAs cs ds | [] => false
end
mutual
theorem eqA_eq : ∀ (a b : AV), eqA a b = true → a = b
  | .bool a, b, h => by cases b <;> simp [eqA] at h; rw [h]
  | .int k n, b, h => by cases b <;> simp [eqA] at h; rw [h.1, h.2]
  | .str a, b, h => by cases b <;> simp [eqA] at h; rw [h]
  | .ptr a, b, h => by cases b <;> simp [eqA] at h; rw [h]
  | .slice a n c, b, h => by cases b <;> simp [eqA] at h; rw [h.1.1, h.1.2, h.2]
  | .empty, b, h => by cases b <;> simp [eqA] at h; rfl
  | .func f cs, b, h => by
    cases b with
    | func g ds => simp [eqA] at h; rw [h.1, eqAs_eq cs ds h.2]
    | _ => simp [eqA] at h
  | .nilFunc, b, h => by cases b <;> simp [eqA] at h; rfl
  | .agg cs, b, h => by
    cases b with
    | agg ds => simp [eqA] at h; rw [eqAs_eq cs ds h]
    | _ => simp [eqA] at h
  | .tuple cs, b, h => by
    cases b with
    | tuple ds => simp [eqA] at h; rw [eqAs_eq cs ds h]
    | _ => simp [eqA] at h
  | .other v, b, h => by simp [eqA] at h
theorem eqAs_eq : ∀ (a b : List AV), eqAs a b = true → a = b
  | [], b, h => by cases b <;> simp [eqAs] at h; rfl
  | c :: cs, b, h => by
    cases b with
    | nil => simp [eqAs] at h
    | cons d ds => simp [eqAs] at h; rw [eqA_eq c d h.1, eqAs_eq cs ds h.2]
end
def eqO : Option AV → Option AV → Bool
  | some a, some b => eqA a b
  | _, _ => false
theorem eqO_eq {a b : Option AV} (h : eqO a b = true) : a = b := by
  cases a <;> cases b <;> simp [eqO] at h
  rw [eqA_eq _ _ h]
def allB : List (Option AV × Option AV) → Bool
  | [] => true
  | (a, b) :: l => eqO a b && allB l
theorem allB_eq : ∀ {l}, allB l = true → allEq l
  | [], _ => trivial
  | (a, b) :: l, h => by
    simp only [allB, Bool.and_eq_true] at h
    exact ⟨eqO_eq h.1, allB_eq h.2⟩

section
variable {R : Type}
def drawGoB (P : Program) (nt : Nat) (call : CallF) (ops : Array Oper) (anc : List Nat) : List Oper → Nat → Nat → Tm → AH → Nat → List FL → List (Nat × AH × Nat) → List PL → List (Option AV × Option AV) → Option (Tm × AH)
  | [], _, _, T, G, mb, all, _, _, chks => if allB chks = true then some (T, addF (selR all mb) G) else none
  | o :: l, i, id, T, G, mb, all, vers, pend, chks => match dK o.op with
    | .pure => (gval ops T o (aLight P (evo P.globals.size T) o.op G)).bind fun v => (putA nt T o.dst v).bind fun T' =>
        drawGoB P nt call ops anc l (i + 1) id T' G mb all vers pend chks
    | .read => ((fun (V : AH × Nat) => gval ops T o (aLight P (evo P.globals.size T) o.op (addF (sel all (anc.getD i 0) V.2) V.1))) (G, mb)).bind fun v => (putA nt T o.dst v).bind fun T' =>
        drawGoB P nt call ops anc l (i + 1) id T' G mb all vers (⟨i, fun V => gval ops T o (aLight P (evo P.globals.size T) o.op (addF (sel all (anc.getD i 0) V.2) V.1)), v⟩ :: pend)
          (((vers.filter fun V => !((anc.getD i 0).testBit V.1)).map fun V => (gval ops T o (aLight P (evo P.globals.size T) o.op (addF (sel all (anc.getD i 0) V.2.2) V.2.1)), some v)) ++ chks)
    | .new => (aNew P (evo P.globals.size T) o.op).bind fun nb => (putA nt T o.dst (nb.val id)).bind fun T' =>
        drawGoB P nt call ops anc l (i + 1) (id + 1) T' G mb (all ++ [⟨i, id, ⟨nb.cells, nb.elem, true⟩⟩]) vers pend chks
    | .heavy => (gheavy ops T o (addF (sel all (anc.getD i 0) mb) G) (aHeavy P call (evo P.globals.size T) o.op (addF (sel all (anc.getD i 0) mb) G))).bind fun r => (putA nt T o.dst r.1).bind fun T' =>
        drawGoB P nt call ops anc l (i + 1) id T' r.2 (mb ||| anc.getD i 0) all ((i, G, mb) :: vers) pend
          (((pend.filter fun p => !((anc.getD i 0).testBit p.i)).map fun p => (p.f (r.2, mb ||| anc.getD i 0), some p.v)) ++ chks)
theorem drawGoB_eq {P : Program} {nt : Nat} {call : CallF} {ops : Array Oper} {anc : List Nat} {r : Tm × AH} : ∀ (l : List Oper) (i id : Nat) (T : Tm) (G : AH) (mb : Nat) (all : List FL) (vers : List (Nat × AH × Nat)) (pend : List PL) (chks : List (Option AV × Option AV)),
    drawGoB P nt call ops anc l i id T G mb all vers pend chks = some r → drawGo P nt call ops anc (fun T H => some (T, H)) l i id T G mb all vers pend chks = some r
  | [], i, id, T, G, mb, all, vers, pend, chks, h => by
    simp only [drawGoB] at h
    split at h
    · rename_i hb
      simp only [drawGo, chkL_eq]
      rw [chk_pos (allB_eq hb)]
      exact h
    · cases h
  | o :: l, i, id, T, G, mb, all, vers, pend, chks, h => by
    simp only [drawGoB] at h
    simp only [drawGo]
    cases hk : dK o.op <;> simp only [hk] at h ⊢ <;> simp only [Option.bind_eq_some_iff] at h ⊢
    all_goals
      obtain ⟨x, hx, T', hT, h⟩ := h
      exact ⟨x, hx, T', hT, drawGoB_eq l _ _ _ _ _ _ _ _ _ h⟩
end
def drawB (P : Program) : DrawG := fun nt call ops T H => if okD P ops (ancB ops.toList []) = true then
    drawGoB P nt call ops (ancB ops.toList []) ops.toList 0 H.next T { H with next := H.next + news ops.toList } 0 [] [] [] []
  else none
theorem drawB_ok {P : Program} {nt : Nat} {call : CallF} (hcall : CallOk P call) : DrawOk P nt (drawB P nt call) := by
  intro id ops ρ H w T T' H' a Q h ht hd hc hQ
  refine drawA_ok hcall id ops ρ H w T T' H' a Q h ht hd ?_ hQ
  simp only [drawB] at hc
  simp only [drawA, drawK]
  split at hc
  · rename_i hok
    rw [if_pos hok]
    exact drawGoB_eq _ _ _ _ _ _ _ _ _ _ hc
  · cases hc
theorem aCallB (P : Program) : ∀ n, CallOk P (aCall P (drawB P) n) := aCall_sound fun nt call h => drawB_ok h

/-! ### Tables -/
/-- What one function comes to. -/
def Ok1 (P : Program) (f : FuncId) (g : List AV → AH → Option (AV × AH)) : Prop := ∀ vs H v H', g vs H = some (v, H') →
  (∃ fn, P.funcs[f]? = some fn ∧ (fn.name == "runtime.NumGoroutine") = false ∧ fn.body.isNone = false) ∧
  ∀ ρ w us, Sim P ρ H w → relL ρ vs us → Calls P f us.toArray w fun e w' => ∃ ρ' v', e = .returned v' ∧ rel ρ' v v' ∧ Out P ρ H w ρ' H' w'
def addT (S : CallF) (f : FuncId) (g : List AV → AH → Option (AV × AH)) : CallF := fun f' vs H => if f' = f then g vs H else S f' vs H
def noT : CallF := fun _ _ _ => none
theorem noT_ok (P : Program) : CallOk P noT := fun f vs H v H' h => by cases h
theorem addT_ok {P : Program} {S : CallF} {f : FuncId} {g : List AV → AH → Option (AV × AH)} (hS : CallOk P S) (hg : Ok1 P f g) : CallOk P (addT S f g) := by
  intro f' vs H v H' h
  unfold addT at h
  split at h
  · rename_i e
    subst e
    exact hg vs H v H' h
  · exact hS f' vs H v H' h
theorem addT_at (S : CallF) (f : FuncId) (g : List AV → AH → Option (AV × AH)) (vs : List AV) (H : AH) : addT S f g f vs H = g vs H := if_pos rfl
theorem addT_ne (S : CallF) {f f' : FuncId} (g : List AV → AH → Option (AV × AH)) (vs : List AV) (H : AH) (h : f' ≠ f) : addT S f g f' vs H = S f' vs H := if_neg h

/-- Values that name no block. -/
def flat : AV → Bool
  | .bool _ | .int _ _ | .str _ | .nilFunc | .other _ => true
  | .ptr none => true
  | .slice none _ (.kn _) => true
  | _ => false
def flatT : AV → Bool
  | .tuple vs => vs.all flat
  | .agg vs => vs.all flat
  | v => flat v
theorem rel_flat {ρ ρ' : Ro} {v : AV} {u : Value} (h : flat v = true) (hr : rel ρ v u) : rel ρ' v u := by
  cases v with
  | ptr a => cases a <;> simp [flat] at h; simpa [rel, cAddr] using hr
  | slice a n c => cases a <;> cases c <;> simp [flat] at h; simpa [rel, cAddr, cCap] using hr
  | empty => simp [flat] at h
  | func f cs => simp [flat] at h
  | agg cs => simp [flat] at h
  | tuple cs => simp [flat] at h
  | bool b => simpa [rel] using hr
  | int k n => simpa [rel] using hr
  | str s => simpa [rel] using hr
  | nilFunc => simpa [rel] using hr
  | other v => simpa [rel] using hr
theorem relL_flat {ρ ρ' : Ro} : ∀ {vs : List AV} {us : List Value}, vs.all flat = true → relL ρ vs us → relL ρ' vs us
  | [], us, _, hr => by simpa [relL] using hr
  | v :: vs, us, h, hr => by
    simp only [List.all_cons, Bool.and_eq_true] at h
    simp only [relL] at hr
    obtain ⟨x, y, hx, hy, rfl⟩ := hr
    exact relL_cons (rel_flat h.1 hx) (relL_flat h.2 hy)
theorem rel_flatT {ρ ρ' : Ro} {v : AV} {u : Value} (h : flatT v = true) (hr : rel ρ v u) : rel ρ' v u := by
  cases v with
  | tuple vs =>
    obtain ⟨us, hus, rfl⟩ := hr
    exact ⟨us, relL_flat h hus, rfl⟩
  | agg vs =>
    obtain ⟨h1, us, hus, rfl⟩ := hr
    exact ⟨h1, us, relL_flat h hus, rfl⟩
  | ptr a => exact rel_flat h hr
  | slice a n c => exact rel_flat h hr
  | empty => exact rel_flat h hr
  | func f cs => exact rel_flat h hr
  | bool b => exact rel_flat h hr
  | int k n => exact rel_flat h hr
  | str s => exact rel_flat h hr
  | nilFunc => exact rel_flat h hr
  | other v => exact rel_flat h hr

theorem cAddr_back {ρ ρ' : Ro} (h : ρ.le ρ') {a x y} (h0 : cAddr ρ a = some x) (h1 : cAddr ρ' a = some y) : cAddr ρ a = some y := by
  rw [cAddr_mono h h0] at h1
  rw [← h1, h0]
theorem cCap_back {ρ ρ' : Ro} (h : ρ.le ρ') {a c x y} (h0 : cCap ρ a c = some x) (h1 : cCap ρ' a c = some y) : cCap ρ a c = some y := by
  rw [cCap_mono h h0] at h1
  rw [← h1, h0]
mutual
theorem rel_back {ρ ρ' : Ro} (h : ρ.le ρ') : ∀ (c : AV) {u v}, rel ρ c u → rel ρ' c v → rel ρ c v
  | .bool _, _, _, _, e => by simpa [rel] using e
  | .int _ _, _, _, _, e => by simpa [rel] using e
  | .str _, _, _, _, e => by simpa [rel] using e
  | .ptr a, u, v, g, e => by
    simp only [rel] at g e ⊢
    obtain ⟨x, hx, rfl⟩ := e
    obtain ⟨y, hy, rfl⟩ := g
    exact ⟨x, cAddr_back h hy hx, rfl⟩
  | .slice a n c, u, v, g, e => by
    simp only [rel] at g e ⊢
    obtain ⟨x, y, hx, hy, hn, rfl⟩ := e
    obtain ⟨x', y', hx', hy', hn', rfl⟩ := g
    exact ⟨x, y, cAddr_back h hx' hx, cCap_back h hy' hy, hn, rfl⟩
  | .empty, _, _, _, e => by simpa [rel] using e
  | .func f cs, u, v, g, e => by
    simp only [rel] at g e ⊢
    obtain ⟨x, hx, rfl⟩ := e
    obtain ⟨y, hy, rfl⟩ := g
    exact ⟨x, relL_back h cs hy hx, rfl⟩
  | .nilFunc, _, _, _, e => by simpa [rel] using e
  | .agg cs, u, v, g, e => by
    simp only [rel] at g e ⊢
    obtain ⟨h1, x, hx, rfl⟩ := e
    obtain ⟨_, y, hy, rfl⟩ := g
    exact ⟨h1, x, relL_back h cs hy hx, rfl⟩
  | .tuple cs, u, v, g, e => by
    simp only [rel] at g e ⊢
    obtain ⟨x, hx, rfl⟩ := e
    obtain ⟨y, hy, rfl⟩ := g
    exact ⟨x, relL_back h cs hy hx, rfl⟩
  | .other _, _, _, _, e => by simpa [rel] using e
theorem relL_back {ρ ρ' : Ro} (h : ρ.le ρ') : ∀ (cs : List AV) {us vs}, relL ρ cs us → relL ρ' cs vs → relL ρ cs vs
  | [], _, _, _, e => by simpa [relL] using e
  | c :: cs, us, vs, g, e => by
    simp only [relL] at g e ⊢
    obtain ⟨x, y, hx, hy, rfl⟩ := e
    obtain ⟨x', y', hx', hy', rfl⟩ := g
    exact ⟨x, y, rel_back h c hx' hx, relL_back h cs hy' hy, rfl⟩
end

/-- The heap is as it was: what the step made is forgotten. -/
theorem Out.forget {P : Program} {ρ ρ' : Ro} {H H' : AH} {w w' : World} (h : Sim P ρ H w) (o : Out P ρ H w ρ' H' w') (hs : ∀ b B, H.m b = some B → H'.m b = some B) : Out P ρ H w ρ H w' := by
  have hle := o.le h
  refine ⟨fun _ _ => rfl, Nat.le_refl _, ⟨fun b B hB => ?_, h.inj, h.fresh, h.glob⟩, o.os, o.tape, o.output, o.size, o.keep, fun b B r hB hr _ => ⟨b, B, r, hB, hr, rfl, id⟩⟩
  obtain ⟨r, cs, fr, vs, g1, g2, g3, g4, g5, g6⟩ := o.sim.blk b B (hs b B hB)
  obtain ⟨r0, cs0, fr0, vs0, k1, k2, k3, k4, k5, k6⟩ := h.blk b B hB
  rw [hle _ _ k1] at g1
  cases g1
  exact ⟨r, cs, fr, vs, k1, g2, g3, g4, relL_back hle _ k5 g5, g6⟩

/-- Every block's id is below the next. -/
def AH.wf (H : AH) : Prop := ∀ b B, H.m b = some B → b < H.next
def AH.sub (H H1 : AH) : Prop := ∀ b B, H.m b = some B → H1.m b = some B
def Fn1 (P : Program) (f : FuncId) : Prop := ∃ fn, P.funcs[f]? = some fn ∧ (fn.name == "runtime.NumGoroutine") = false ∧ fn.body.isNone = false
/-- A function that leaves what was there and answers with something that names no block. -/
theorem ok1_flat {P : Program} {S : CallF} (hS : CallOk P S) {f : FuncId} (hfn : Fn1 P f) {g : List AV → AH → Option (AV × AH)}
    (h : ∀ vs H v H', g vs H = some (v, H') → H' = H ∧ flatT v = true ∧ (H.wf → ∃ n H1, aFun P (drawA P) S (iter n) f vs H = some (v, H1) ∧ H.sub H1)) : Ok1 P f g := by
  intro vs H v H' hg
  obtain ⟨rfl, hv, hr⟩ := h vs H v H' hg
  refine ⟨hfn, fun ρ w us hs hus => ?_⟩
  obtain ⟨n, H1, hrun, hsub⟩ := hr fun b B hB => hs.dom hB
  obtain ⟨h1, h2⟩ := aFun_sound (draw := drawA P) (n := n) hS (fun nt => drawA_ok hS) f vs H' v H1 hrun
  refine (h2 ρ w us hs hus).mono ?_
  rintro e w' ⟨ρ', v', rfl, hr, hout⟩
  exact ⟨ρ, v', rfl, rel_flatT hv hr, hout.forget hs hsub⟩

/-- Nothing that was there has turned. -/
theorem Out.still {P : Program} {ρ : Ro} {H : AH} {w w' : World} (h : Sim P ρ H w) (h1 : w'.os = w.os) (h2 : w'.tape = w.tape) (h3 : w'.output = w.output) (h4 : w.heap.size ≤ w'.heap.size) (h5 : ∀ i, i < w.heap.size → w'.heap[i]? = w.heap[i]?) : Out P ρ H w ρ H w' := by
  refine ⟨fun _ _ => rfl, Nat.le_refl _, ⟨fun b B hB => ?_, h.inj, h.fresh, h.glob⟩, h1, h2, h3, h4, fun i hi _ => h5 i hi, fun b B r hB hr _ => ⟨b, B, r, hB, hr, rfl, id⟩⟩
  obtain ⟨r, cs, fr, vs, g1, g2, g3⟩ := h.blk b B hB
  exact ⟨r, cs, fr, vs, g1, by rw [h5 _ (Array.getElem?_eq_some_iff.1 g2).1]; exact g2, g3⟩

/-- A call on a heap of which only the first few blocks matter. -/
theorem ok1_small {P : Program} {f : FuncId} {vs : List AV} {v : AV} {n k : Nat} {m : Nat → Option Blk} {H1 : AH} (hv : flatT v = true) (hvs : vs.all flat = true) (hg : P.globals.size ≤ n)
    (hm : ∀ b B, m b = some B → b < n ∧ B.rw_ = false ∧ B.cells.all flat = true)
    (hrun : aCall P (drawB P) k f vs ⟨m, n⟩ = some (v, H1)) : Ok1 P f (fun us H => chk (us = vs ∧ n ≤ H.next ∧ (∀ b B, m b = some B → H.m b = some B)) (some (v, H))) := by
  intro us H v' H' hc
  obtain ⟨⟨rfl, hn, hsub⟩, e⟩ := chk_some hc
  cases e
  obtain ⟨h1, h2⟩ := aCallB P k f us _ v H1 hrun
  refine ⟨h1, fun ρ w xs hs hxs => ?_⟩
  have hs0 : Sim P (fun b => if b < n then ρ b else none) ⟨m, n⟩ w := by
    refine ⟨fun b B hB => ?_, fun b b' B B' r r' hB hB' hr hr' => ?_, fun b hb => ?_, fun g hgl => ?_⟩
    · obtain ⟨hb, hrw, hfl⟩ := hm b B hB
      obtain ⟨r, cs, fr, ws, g1, g2, g3, g4, g5, g6⟩ := hs.blk b B (hsub b B hB)
      exact ⟨r, cs, fr, ws, by simp only [if_pos hb]; exact g1, g2, g3, g4, relL_flat hfl g5, g6⟩
    · simp only [if_pos (hm b B hB).1] at hr
      simp only [if_pos (hm b' B' hB').1] at hr'
      exact hs.inj b b' B B' r r' (hsub b B hB) (hsub b' B' hB') hr hr'
    · exact if_neg (by simp only at hb; omega)
    · obtain ⟨l, hl⟩ := hs.glob g hgl
      exact ⟨l, by simp only [if_pos (show g < n by omega)]; exact hl⟩
  refine (h2 _ w xs hs0 (relL_flat hvs hxs)).mono ?_
  rintro e w' ⟨ρ', v', rfl, hr, hout⟩
  refine ⟨ρ, v', rfl, rel_flatT hv hr, .still hs hout.os hout.tape hout.output hout.size fun i hi => hout.keep i hi fun b B r hB hrw _ => ?_⟩
  rw [(hm b B hB).2.1] at hrw
  cases hrw
end Go.Ri
