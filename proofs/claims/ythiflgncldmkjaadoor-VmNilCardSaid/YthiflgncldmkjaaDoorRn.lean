/- A region that draws its order: the trace of the text's order, and what the operations look at. -/
import Derived.Test.YthiflgncldmkjaaDoorRm
set_option linter.unusedVariables false
set_option linter.unusedSimpArgs false
namespace Go.Ri

/-! ### What an operation looks at -/
section
variable {ev ev' : Operand → Option AV}
theorem evL_congr : ∀ {xs : List Operand}, (∀ x ∈ xs, ev x = ev' x) → evL ev xs = evL ev' xs
  | [], _ => rfl
  | x :: xs, h => by
    simp only [evL]
    rw [h x (by simp), evL_congr fun y hy => h y (by simp [hy])]
theorem evP_congr : ∀ {xs : List (Nat × Operand)}, (∀ x ∈ xs, ev x.2 = ev' x.2) → evP ev xs = evP ev' xs
  | [], _ => rfl
  | (i, x) :: xs, h => by
    simp only [evP]
    rw [h (i, x) (by simp), evP_congr fun y hy => h y (by simp [hy])]
theorem evO_congr {x : Option Operand} (h : ∀ y, x = some y → ev y = ev' y) : evO ev x = evO ev' x := by
  cases x with
  | none => rfl
  | some x => simp only [evO, h x rfl]

theorem aLight_congr {P : Program} {o : Op} (h : ∀ x ∈ o.operands, ev x = ev' x) (H : AH) : aLight P ev o H = aLight P ev' o H := by
  cases o <;> simp only [Op.operands] at h <;> simp only [aLight]
  case build t ps => rw [evP_congr fun x hx => h x.2 (by simpa using ⟨x.1, by simpa using hx⟩)]
  case makeFunc fn first caps =>
    have e : evL ev caps.toList = evL ev' caps.toList := evL_congr fun x hx => h x (by simp at hx ⊢; exact .inr hx)
    cases fn <;> simp [e]
  case slice t x lo hi mx =>
    rw [h x (by simp), evO_congr (x := lo) fun y hy => h y (by simp [hy]), evO_congr (x := hi) fun y hy => h y (by simp [hy]), evO_congr (x := mx) fun y hy => h y (by simp [hy])]
  case call c =>
    cases hc : c.callee <;> try rfl
    rename_i b
    cases b <;> try rfl
    show (match c.args.toList, c.argTypes.toList with | [x], [t] => _ | _, _ => _) = (match c.args.toList, c.argTypes.toList with | [x], [t] => _ | _, _ => _)
    split
    · rename_i x t ha ht
      rw [h x (by simp [Call.operands, hc, list_one ha])]
    · rfl
  case pick c a b => rw [h c (by simp), h a (by simp), h b (by simp)]
  all_goals first
    | rfl
    | (rename_i a b; rw [h a (by simp)]; done)
    | simp_all

theorem aNew_congr {P : Program} {o : Op} (h : ∀ x ∈ o.operands, ev x = ev' x) : aNew P ev o = aNew P ev' o := by
  cases o <;> simp only [Op.operands] at h <;> simp only [aNew]
  case buildSlice t n ps => rw [evP_congr fun x hx => h x.2 (by simpa using ⟨x.1, by simpa using hx⟩)]
  all_goals simp_all

theorem aHeavy_congr {P : Program} {call : CallF} {o : Op} (h : ∀ x ∈ o.operands, ev x = ev' x) (H : AH) : aHeavy P call ev o H = aHeavy P call ev' o H := by
  cases o <;> simp only [Op.operands] at h <;> simp only [aHeavy]
  case call c =>
    cases hc : c.callee <;> try rfl
    · rename_i f
      simp only []
      rw [h f (by simp [Call.operands, hc]), evL_congr fun x hx => h x (by simp [Call.operands, hc] at hx ⊢; exact .inr hx)]
    · rename_i b
      cases b <;> try rfl
      all_goals
        simp only []
        split
        · first
          | (rename_i x y t u ha ht
             rw [h x (by simp [Call.operands, hc, list_two ha]), h y (by simp [Call.operands, hc, list_two ha])]
             done)
          | (rename_i x t ha ht
             rw [h x (by simp [Call.operands, hc, list_one ha])]
             done)
        · rfl
  all_goals simp_all
end

theorem evo_congr {ng : Nat} {T T' : Tm} {x : Operand} (h : ∀ t, x = .tmp t → T t = T' t) : evo ng T x = evo ng T' x := by
  cases x with
  | tmp t => simp only [evo, h t rfl]
  | _ => rfl
theorem looks_op {ops : Array Oper} {o : Oper} {t : Nat} (h : Operand.tmp t ∈ o.op.operands) : t ∈ o.looksAt ops :=
  List.mem_append_left _ (List.mem_filterMap.2 ⟨.tmp t, by simpa using h, rfl⟩)
theorem looks_evo {ng : Nat} {ops : Array Oper} {o : Oper} {T T' : Tm} (h : ∀ t ∈ o.looksAt ops, T t = T' t) : ∀ x ∈ o.op.operands, evo ng T x = evo ng T' x :=
  fun x hx => evo_congr fun t ht => h t (looks_op (by rw [← ht]; exact hx))
theorem gd_congr {ops : Array Oper} {o : Oper} {T T' : Tm} (h : ∀ t ∈ o.looksAt ops, T t = T' t) : gd ops T o = gd ops T' o := by
  unfold gd
  cases hg : o.guard with
  | none => simp
  | some gw =>
    obtain ⟨j, want⟩ := gw
    simp only []
    cases hd : (ops[j]?).bind (·.dst) with
    | none => simp
    | some d => simp only [h d (by simp [Oper.looksAt, hg, hd])]

theorem aLight_pure {P : Program} {ev : Operand → Option AV} {o : Op} (h : dK o = .pure) (H H' : AH) : aLight P ev o H = aLight P ev o H' := by
  cases o <;> first
    | rfl
    | (simp [dK, opK] at h; done)
    | (rename_i fn _ _; cases fn <;> rfl)
theorem dK_light {o : Op} (h : dK o = .pure ∨ dK o = .read) : opK o = .light := by
  unfold dK at h
  cases hk : opK o <;> simp_all

/-! ### The trace -/
structure DS where
  T : Tm
  G : AH
  mb : Nat
  id : Nat
  all : List FL

def rdF (P : Program) (ops : Array Oper) (an : Nat) (o : Oper) (T : Tm) (all : List FL) (V : AH × Nat) : Option AV :=
  gval ops T o (aLight P (evo P.globals.size T) o.op (addF (sel all an V.2) V.1))

def StepOk (P : Program) (nt : Nat) (call : CallF) (ops : Array Oper) (an i : Nat) (o : Oper) (s : DS) (v : AV) (s' : DS) : Prop :=
  putA nt s.T o.dst v = some s'.T ∧ match dK o.op with
  | .pure => gval ops s.T o (aLight P (evo P.globals.size s.T) o.op s.G) = some v ∧ s'.G = s.G ∧ s'.mb = s.mb ∧ s'.id = s.id ∧ s'.all = s.all
  | .read => rdF P ops an o s.T s.all (s.G, s.mb) = some v ∧ s'.G = s.G ∧ s'.mb = s.mb ∧ s'.id = s.id ∧ s'.all = s.all
  | .new => ∃ nb, aNew P (evo P.globals.size s.T) o.op = some nb ∧ v = nb.val s.id ∧ s'.G = s.G ∧ s'.mb = s.mb ∧ s'.id = s.id + 1 ∧ s'.all = s.all ++ [⟨i, s.id, ⟨nb.cells, nb.elem, true⟩⟩]
  | .heavy => gheavy ops s.T o (addF (sel s.all an s.mb) s.G) (aHeavy P call (evo P.globals.size s.T) o.op (addF (sel s.all an s.mb) s.G)) = some (v, s'.G) ∧ s'.mb = (s.mb ||| an) ∧ s'.id = s.id ∧ s'.all = s.all

theorem allEq_append : ∀ {a b : List (Option AV × Option AV)}, allEq (a ++ b) → allEq a ∧ allEq b
  | [], b, h => ⟨trivial, h⟩
  | (x, y) :: a, b, h => ⟨⟨h.1, (allEq_append h.2).1⟩, (allEq_append h.2).2⟩
theorem allEq_mem : ∀ {a : List (Option AV × Option AV)}, allEq a → ∀ p ∈ a, p.1 = p.2
  | (x, y) :: a, h, p, hp => by
    cases hp with
    | head => exact h.1
    | tail _ hp => exact allEq_mem h.2 p hp

def sw {α : Type} (i : Nat) (x : α) (f : Nat → α) : Nat → α := fun j => if j = i then x else f j
theorem sw_at {α : Type} (i : Nat) (x : α) (f : Nat → α) : sw i x f i = x := by simp [sw]
theorem sw_ne {α : Type} {i j : Nat} (x : α) (f : Nat → α) (h : j ≠ i) : sw i x f j = f j := by simp [sw, h]

/-- What is known of the trace from operation `i` on. -/
structure Tr (P : Program) (nt : Nat) (call : CallF) (ops : Array Oper) (anc : List Nat) (l : List Oper) (i : Nat) (D : Nat → DS) (v : Nat → AV) : Prop where
  step : ∀ j o, l[j]? = some o → StepOk P nt call ops (anc.getD (i + j) 0) (i + j) o (D (i + j)) (v (i + j)) (D (i + j + 1))
  rh : ∀ j k o q, j < k → l[j]? = some o → l[k]? = some q → dK o.op = .read → dK q.op = .heavy → (anc.getD (i + k) 0).testBit (i + j) = false →
    rdF P ops (anc.getD (i + j) 0) o (D (i + j)).T (D (i + j)).all ((D (i + k + 1)).G, (D (i + k + 1)).mb) = some (v (i + j))
  hr : ∀ j k o q, j < k → l[j]? = some o → l[k]? = some q → dK o.op = .heavy → dK q.op = .read → (anc.getD (i + k) 0).testBit (i + j) = false →
    rdF P ops (anc.getD (i + k) 0) q (D (i + k)).T (D (i + k)).all ((D (i + j)).G, (D (i + j)).mb) = some (v (i + k))

section
variable {P : Program} {nt : Nat} {call : CallF} {ops : Array Oper} {anc : List Nat} {R : Type} {K : Tm → AH → Option R}

/-- One operation ahead of a trace. -/
theorem Tr.cons {o : Oper} {l : List Oper} {i : Nat} {s : DS} {x : AV} {D : Nat → DS} {v : Nat → AV} (h : Tr P nt call ops anc l (i + 1) D v)
    (hs : StepOk P nt call ops (anc.getD i 0) i o s x (D (i + 1)))
    (h1 : dK o.op = .read → ∀ k q, l[k]? = some q → dK q.op = .heavy → (anc.getD (i + 1 + k) 0).testBit i = false → rdF P ops (anc.getD i 0) o s.T s.all ((D (i + 1 + k + 1)).G, (D (i + 1 + k + 1)).mb) = some x)
    (h2 : dK o.op = .heavy → ∀ k q, l[k]? = some q → dK q.op = .read → (anc.getD (i + 1 + k) 0).testBit i = false → rdF P ops (anc.getD (i + 1 + k) 0) q (D (i + 1 + k)).T (D (i + 1 + k)).all (s.G, s.mb) = some (v (i + 1 + k))) :
    Tr P nt call ops anc (o :: l) i (sw i s D) (sw i x v) := by
  refine ⟨fun j q hj => ?_, fun j k a q hjk hj hk ha hq hb => ?_, fun j k a q hjk hj hk ha hq hb => ?_⟩
  · cases j with
    | zero =>
      simp at hj
      subst hj
      simp only [Nat.add_zero, sw_at, sw_ne s D (show i + 1 ≠ i by omega)]
      exact hs
    | succ j =>
      rw [sw_ne s D (by omega), sw_ne x v (by omega), sw_ne s D (by omega)]
      have := h.step j q (by simpa using hj)
      rw [show i + (j + 1) = i + 1 + j by omega]
      exact this
  · cases k with
    | zero => omega
    | succ k =>
      rw [show i + (k + 1) = i + 1 + k by omega] at hb ⊢
      rw [sw_ne s D (show i + 1 + k + 1 ≠ i by omega)]
      cases j with
      | zero =>
        simp at hj
        subst hj
        simp only [Nat.add_zero, sw_at] at hb ⊢
        exact h1 ha k q (by simpa using hk) hq hb
      | succ j =>
        rw [show i + (j + 1) = i + 1 + j by omega] at hb ⊢
        rw [sw_ne s D (by omega), sw_ne x v (by omega)]
        exact h.rh j k a q (by omega) (by simpa using hj) (by simpa using hk) ha hq hb
  · cases k with
    | zero => omega
    | succ k =>
      rw [show i + (k + 1) = i + 1 + k by omega] at hb ⊢
      rw [sw_ne s D (show i + 1 + k ≠ i by omega), sw_ne x v (by omega)]
      cases j with
      | zero =>
        simp at hj
        subst hj
        simp only [Nat.add_zero, sw_at] at hb ⊢
        exact h2 ha k q (by simpa using hk) hq hb
      | succ j =>
        rw [show i + (j + 1) = i + 1 + j by omega] at hb ⊢
        rw [sw_ne s D (by omega)]
        exact h.hr j k a q (by omega) (by simpa using hj) (by simpa using hk) ha hq hb

theorem drawGo_trace : ∀ (l : List Oper) (i id : Nat) (T : Tm) (G : AH) (mb : Nat) (all : List FL) (vers : List (Nat × AH × Nat)) (pend : List PL) (chks : List (Option AV × Option AV)) (r : R),
    drawGo P nt call ops anc K l i id T G mb all vers pend chks = some r → ∃ (D : Nat → DS) (v : Nat → AV), D i = ⟨T, G, mb, id, all⟩ ∧ Tr P nt call ops anc l i D v ∧
      K (D (i + l.length)).T (addF (selR (D (i + l.length)).all (D (i + l.length)).mb) (D (i + l.length)).G) = some r ∧ allEq chks ∧
      (∀ p ∈ pend, ∀ k q, l[k]? = some q → dK q.op = .heavy → (anc.getD (i + k) 0).testBit p.i = false → p.f ((D (i + k + 1)).G, (D (i + k + 1)).mb) = some p.v) ∧
      (∀ V ∈ vers, ∀ k q, l[k]? = some q → dK q.op = .read → (anc.getD (i + k) 0).testBit V.1 = false → rdF P ops (anc.getD (i + k) 0) q (D (i + k)).T (D (i + k)).all V.2 = some (v (i + k)))
  | [], i, id, T, G, mb, all, vers, pend, chks, r, h => by
    simp only [drawGo, chkL_eq] at h
    obtain ⟨hc, h⟩ := chk_some h
    refine ⟨fun _ => ⟨T, G, mb, id, all⟩, fun _ => .tuple [], rfl, ⟨?_, ?_, ?_⟩, h, hc, ?_, ?_⟩ <;> simp
  | o :: l, i, id, T, G, mb, all, vers, pend, chks, r, h => by
    -- the clauses for what stood before, at operation `i` and behind it
    have fin : ∀ {D : Nat → DS} {v : Nat → AV} {x : AV} {vers' : List (Nat × AH × Nat)} {pend' : List PL}, (∀ p ∈ pend, p ∈ pend') → (∀ V ∈ vers, V ∈ vers') →
        Tr P nt call ops anc (o :: l) i (sw i ⟨T, G, mb, id, all⟩ D) (sw i x v) →
        K (D (i + 1 + l.length)).T (addF (selR (D (i + 1 + l.length)).all (D (i + 1 + l.length)).mb) (D (i + 1 + l.length)).G) = some r → allEq chks →
        (∀ p ∈ pend', ∀ k q, l[k]? = some q → dK q.op = .heavy → (anc.getD (i + 1 + k) 0).testBit p.i = false → p.f ((D (i + 1 + k + 1)).G, (D (i + 1 + k + 1)).mb) = some p.v) →
        (∀ V ∈ vers', ∀ k q, l[k]? = some q → dK q.op = .read → (anc.getD (i + 1 + k) 0).testBit V.1 = false → rdF P ops (anc.getD (i + 1 + k) 0) q (D (i + 1 + k)).T (D (i + 1 + k)).all V.2 = some (v (i + 1 + k))) →
        (dK o.op = .heavy → ∀ p ∈ pend, (anc.getD i 0).testBit p.i = false → p.f ((D (i + 1)).G, (D (i + 1)).mb) = some p.v) →
        (dK o.op = .read → ∀ V ∈ vers, (anc.getD i 0).testBit V.1 = false → rdF P ops (anc.getD i 0) o T all V.2 = some x) →
        ∃ (D : Nat → DS) (v : Nat → AV), D i = ⟨T, G, mb, id, all⟩ ∧ Tr P nt call ops anc (o :: l) i D v ∧
          K (D (i + (o :: l).length)).T (addF (selR (D (i + (o :: l).length)).all (D (i + (o :: l).length)).mb) (D (i + (o :: l).length)).G) = some r ∧ allEq chks ∧
          (∀ p ∈ pend, ∀ k q, (o :: l)[k]? = some q → dK q.op = .heavy → (anc.getD (i + k) 0).testBit p.i = false → p.f ((D (i + k + 1)).G, (D (i + k + 1)).mb) = some p.v) ∧
          (∀ V ∈ vers, ∀ k q, (o :: l)[k]? = some q → dK q.op = .read → (anc.getD (i + k) 0).testBit V.1 = false → rdF P ops (anc.getD (i + k) 0) q (D (i + k)).T (D (i + k)).all V.2 = some (v (i + k))) := by
      intro D v x vers' pend' hp hv htr hK hc h1 h2 h3 h4
      refine ⟨_, _, sw_at _ _ _, htr, ?_, hc, ?_, ?_⟩
      · rw [List.length_cons, show i + (l.length + 1) = i + 1 + l.length by omega, sw_ne _ D (by omega)]
        exact hK
      · intro p hpm k q hk hq hb
        cases k with
        | zero =>
          simp at hk
          subst hk
          rw [sw_ne _ D (by omega)]
          exact h3 hq p hpm hb
        | succ k =>
          rw [show i + (k + 1) = i + 1 + k by omega] at hb ⊢
          rw [sw_ne _ D (by omega)]
          exact h1 p (hp p hpm) k q (by simpa using hk) hq hb
      · intro V hVm k q hk hq hb
        cases k with
        | zero =>
          simp at hk
          subst hk
          simp only [Nat.add_zero, sw_at] at hb ⊢
          exact h4 hq V hVm hb
        | succ k =>
          rw [show i + (k + 1) = i + 1 + k by omega] at hb ⊢
          rw [sw_ne _ D (by omega), sw_ne _ v (by omega)]
          exact h2 V (hv V hVm) k q (by simpa using hk) hq hb
    simp only [drawGo] at h
    cases hk : dK o.op with
    | pure =>
      simp only [hk, Option.bind_eq_some_iff] at h
      obtain ⟨x, hx, T', hT', h⟩ := h
      obtain ⟨D, v, hD, htr, hK, hc, h1, h2⟩ := drawGo_trace l (i + 1) _ _ _ _ _ _ _ _ r h
      refine fin (x := x) (fun _ h => h) (fun _ h => h) (htr.cons ?_ (fun e => by rw [hk] at e; cases e) (fun e => by rw [hk] at e; cases e)) hK hc h1 h2 (fun e => by rw [hk] at e; cases e) (fun e => by rw [hk] at e; cases e)
      exact ⟨by rw [hD]; exact hT', by rw [hk]; exact ⟨hx, by rw [hD], by rw [hD], by rw [hD], by rw [hD]⟩⟩
    | read =>
      simp only [hk, Option.bind_eq_some_iff] at h
      obtain ⟨x, hx, T', hT', h⟩ := h
      obtain ⟨D, v, hD, htr, hK, hc, h1, h2⟩ := drawGo_trace l (i + 1) _ _ _ _ _ _ _ _ r h
      obtain ⟨hc1, hc2⟩ := allEq_append hc
      refine fin (x := x) (fun _ h => List.mem_cons_of_mem _ h) (fun _ h => h) (htr.cons ?_ (fun _ k q hkq hq hb => h1 _ (List.mem_cons_self ..) k q hkq hq hb) (fun e => by rw [hk] at e; cases e)) hK hc2 h1 h2 (fun e => by rw [hk] at e; cases e) (fun _ V hV hb => ?_)
      · exact ⟨by rw [hD]; exact hT', by rw [hk]; exact ⟨hx, by rw [hD], by rw [hD], by rw [hD], by rw [hD]⟩⟩
      · exact allEq_mem hc1 _ (List.mem_map.2 ⟨V, List.mem_filter.2 ⟨hV, by simpa using hb⟩, rfl⟩)
    | new =>
      simp only [hk, Option.bind_eq_some_iff] at h
      obtain ⟨nb, hx, T', hT', h⟩ := h
      obtain ⟨D, v, hD, htr, hK, hc, h1, h2⟩ := drawGo_trace l (i + 1) _ _ _ _ _ _ _ _ r h
      refine fin (x := nb.val id) (fun _ h => h) (fun _ h => h) (htr.cons ?_ (fun e => by rw [hk] at e; cases e) (fun e => by rw [hk] at e; cases e)) hK hc h1 h2 (fun e => by rw [hk] at e; cases e) (fun e => by rw [hk] at e; cases e)
      exact ⟨by rw [hD]; exact hT', by rw [hk]; exact ⟨nb, hx, rfl, by rw [hD], by rw [hD], by rw [hD], by rw [hD]⟩⟩
    | heavy =>
      simp only [hk, Option.bind_eq_some_iff] at h
      obtain ⟨⟨x, G1⟩, hx, T', hT', h⟩ := h
      obtain ⟨D, v, hD, htr, hK, hc, h1, h2⟩ := drawGo_trace l (i + 1) _ _ _ _ _ _ _ _ r h
      obtain ⟨hc1, hc2⟩ := allEq_append hc
      refine fin (x := x) (fun _ h => h) (fun _ h => List.mem_cons_of_mem _ h) (htr.cons ?_ (fun e => by rw [hk] at e; cases e) (fun _ k q hkq hq hb => h2 _ (List.mem_cons_self ..) k q hkq hq hb)) hK hc2 h1 h2 (fun _ p hp hb => ?_) (fun e => by rw [hk] at e; cases e)
      · exact ⟨by rw [hD]; exact hT', by rw [hk]; exact ⟨by rw [hD]; exact hx, by rw [hD], by rw [hD], by rw [hD]⟩⟩
      · rw [hD]
        exact allEq_mem hc1 _ (List.mem_map.2 ⟨p, List.mem_filter.2 ⟨hp, by simpa using hb⟩, rfl⟩)
end
end Go.Ri
