/- A region that draws its order: all orders. -/
import Derived.Test.YthiflgncldmkjaaDoorRp
set_option linter.unusedVariables false
set_option linter.unusedSimpArgs false
namespace Go.Ri

theorem least {p : Nat → Prop} (h : ∃ n, p n) : ∃ n, p n ∧ ∀ m, m < n → ¬ p m := by
  obtain ⟨n, hn⟩ := h
  induction n using Nat.strongRecOn with
  | ind n ih =>
    by_cases hex : ∃ m, m < n ∧ p m
    · obtain ⟨m, hm, hp⟩ := hex
      exact ih m hm hp
    · exact ⟨n, hn, fun m hm hp => hex ⟨m, hm, hp⟩⟩

structure InvH (P : Program) (ops : Array Oper) (H : AH) (D : Nat → DS) (ρ0 : Ro) (w0 : World) (listed : Array Bool) (p : Nat) (ρ : Ro) (X : AH) (w : World) : Prop where
  hp : p ≤ ops.size
  heavy : ∀ h o, ops[h]? = some o → dK o.op = .heavy → (listed.getD h false = true ↔ h < p)
  out : Out P ρ0 H w0 ρ X w
  nx : X.next = (D p).G.next
  N : H.next + news ops.toList ≤ X.next
  sub : ∀ b B, (D p).G.m b = some B → X.m b = some B
  fl : ∀ f ∈ AL ops D, listed.getD f.i false = true → (D p).mb.testBit f.i = false → X.m f.id = some f.B ∧ (D p).G.m f.id = none
  un : ∀ f ∈ AL ops D, listed.getD f.i false = false → ρ f.id = none

section
variable {P : Program} {nt : Nat} {call : CallF} {ops : Array Oper} {H : AH} {D : Nat → DS} {v : Nat → AV} {ρ0 : Ro} {w0 : World}

/-- The heap that an operation sees is part of what is there. -/
theorem InvH.seen (C : Ctx P nt call ops H D v) {listed : Array Bool} (hL : InvL ops listed) {i : Nat} (hr : i ∈ Region.ready .any ops listed) {p : Nat} {ρ : Ro} {X : AH} {w : World} (h : InvH P ops H D ρ0 w0 listed p ρ X w) :
    (addF (sel (D i).all ((ancs ops).getD i 0) (D p).mb) (D p).G).next = X.next ∧ ∀ b B, (addF (sel (D i).all ((ancs ops).getD i 0) (D p).mb) (D p).G).m b = some B → X.m b = some B := by
  obtain ⟨hlt, hu, o, ho, ha, hanc⟩ := hL.ready hr
  refine ⟨by rw [addF_next, h.nx], fun b B hB => ?_⟩
  rcases addF_some _ _ b B hB with ⟨f, hf, rfl, rfl⟩ | hB
  · simp only [sel, List.mem_filter, Bool.and_eq_true, Bool.not_eq_true'] at hf
    exact (h.fl f ((C.allMono (i := i) (j := ops.size) (by omega) (by omega)).2 f hf.1) (hanc _ hf.2.1) hf.2.2).1
  · exact h.sub b B hB

/-- Nothing but what looks. -/
theorem InvH.light (C : Ctx P nt call ops H D v) {listed : Array Bool} (hL : InvL ops listed) {i : Nat} (hr : i ∈ Region.ready .any ops listed) {x : Oper} (hx : ops[i]? = some x) (hk : dK x.op ≠ .heavy) (hk' : dK x.op ≠ .new)
    {p : Nat} {ρ : Ro} {X : AH} {w : World} (h : InvH P ops H D ρ0 w0 listed p ρ X w) : InvH P ops H D ρ0 w0 (listed.setIfInBounds i true) p ρ X w := by
  obtain ⟨hlt, hu, o, ho, ha, hanc⟩ := hL.ready hr
  have hs := set_at (listed := listed) (i := i) (by rw [hL.size]; exact hlt)
  have hfi : ∀ f ∈ AL ops D, f.i ≠ i := fun f hf e => by
    obtain ⟨_, o', nb, h1, h2, _⟩ := C.allSpec (Nat.le_refl _) hf
    rw [e, hx] at h1
    cases h1
    exact hk' h2
  refine ⟨h.hp, fun q o' hq hqk => ?_, h.out, h.nx, h.N, h.sub, fun f hf hl => ?_, fun f hf hl => ?_⟩
  · rw [hs, if_neg]
    · exact h.heavy q o' hq hqk
    · intro e
      subst e
      rw [hx] at hq
      cases hq
      exact hk hqk
  · rw [hs, if_neg (hfi f hf)] at hl
    exact h.fl f hf hl
  · rw [hs, if_neg (hfi f hf)] at hl
    exact h.un f hf hl

/-- What is read is the same in all orders. -/
theorem InvH.read (C : Ctx P nt call ops H D v) {listed : Array Bool} (hL : InvL ops listed) {i : Nat} (hr : i ∈ Region.ready .any ops listed) {x : Oper} (hx : ops[i]? = some x) (hk : dK x.op = .read)
    {p : Nat} {ρ : Ro} {X : AH} {w : World} (h : InvH P ops H D ρ0 w0 listed p ρ X w) : rdF P ops ((ancs ops).getD i 0) x (D i).T (D i).all ((D p).G, (D p).mb) = some (v i) := by
  obtain ⟨hlt, hu, o, ho, ha, hanc⟩ := hL.ready hr
  rw [hx] at ho
  cases ho
  have here : rdF P ops ((ancs ops).getD i 0) x (D i).T (D i).all ((D i).G, (D i).mb) = some (v i) := by
    have := (C.step hx).2
    simp only [hk] at this
    exact this.1
  have hp := h.hp
  rcases Nat.le_total p i with hpi | hip
  · -- the first heavy one from p on
    by_cases hex : ∃ q, p ≤ q ∧ q < i ∧ ∃ o, ops[q]? = some o ∧ dK o.op = .heavy
    · have : ∃ q, (p ≤ q ∧ q < i ∧ ∃ o, ops[q]? = some o ∧ dK o.op = .heavy) ∧ ∀ q', q' < q → ¬ (p ≤ q' ∧ q' < i ∧ ∃ o, ops[q']? = some o ∧ dK o.op = .heavy) := least hex
      obtain ⟨q, ⟨h1, h2, o, ho, hok⟩, hmin⟩ := this
      have hsame := C.keepVs (p := p) (q := q) h1 (by omega) fun q' o' a b hq' hk' => hmin q' b ⟨a, by omega, o', hq', hk'⟩
      have hnot : ((ancs ops).getD i 0).testBit q = false := by
        cases hb : ((ancs ops).getD i 0).testBit q with
        | false => rfl
        | true =>
          have := (h.heavy q o ho hok).1 (hanc q hb)
          omega
      have := C.tr.hr q i o x h2 (by simpa using ho) (by simpa using hx) hok hk (by simpa using hnot)
      simp only [Nat.zero_add] at this
      rw [← hsame.1, ← hsame.2]
      exact this
    · have hsame := C.keepVs (p := p) (q := i) hpi (by omega) fun q' o' a b hq' hk' => hex ⟨q', a, b, o', hq', hk'⟩
      rw [← hsame.1, ← hsame.2]
      exact here
  · by_cases hex : ∃ q, i ≤ q ∧ q < p ∧ ∃ o, ops[q]? = some o ∧ dK o.op = .heavy
    · -- the last heavy one before p
      have : ∃ q, (i ≤ q ∧ q < p ∧ ∃ o, ops[q]? = some o ∧ dK o.op = .heavy) ∧ ∀ q', q < q' → ¬ (i ≤ q' ∧ q' < p ∧ ∃ o, ops[q']? = some o ∧ dK o.op = .heavy) := by
        have hex' : ∃ d, ∃ q, q + d = p ∧ (i ≤ q ∧ q < p ∧ ∃ o, ops[q]? = some o ∧ dK o.op = .heavy) := by
          obtain ⟨q, hq⟩ := hex
          exact ⟨p - q, q, by omega, hq⟩
        obtain ⟨d, ⟨q, hq, hq'⟩, hmin⟩ := least hex'
        refine ⟨q, hq', fun q' hlt' hq'' => hmin (p - q') (by omega) ⟨q', by omega, hq''⟩⟩
      obtain ⟨q, ⟨h1, h2, o, ho, hok⟩, hmax⟩ := this
      have hiq : i ≠ q := fun e => by
        subst e
        rw [hx] at ho
        cases ho
        rw [hk] at hok
        cases hok
      have hsame := C.keepVs (p := q + 1) (q := p) (by omega) hp fun q' o' a b hq' hk' => hmax q' (by omega) ⟨by omega, b, o', hq', hk'⟩
      have hnot : ((ancs ops).getD q 0).testBit i = false := by
        cases hb : ((ancs ops).getD q 0).testBit i with
        | false => rfl
        | true =>
          have := hL.anc q o ho ((h.heavy q o ho hok).2 h2) i hb
          rw [hu] at this
          cases this
      have := C.tr.rh i q x o (by omega) (by simpa using hx) (by simpa using ho) hk hok (by simpa using hnot)
      simp only [Nat.zero_add] at this
      rw [hsame.1, hsame.2]
      exact this
    · have hsame := C.keepVs (p := i) (q := p) hip hp fun q' o' a b hq' hk' => hex ⟨q', a, b, o', hq', hk'⟩
      rw [hsame.1, hsame.2]
      exact here

theorem InvH.new (C : Ctx P nt call ops H D v) {listed : Array Bool} (hL : InvL ops listed) {i : Nat} (hr : i ∈ Region.ready .any ops listed) {x : Oper} (hx : ops[i]? = some x) (hk : dK x.op = .new)
    {p : Nat} {ρ : Ro} {X : AH} {w : World} (h : InvH P ops H D ρ0 w0 listed p ρ X w) {nb : NB} (hnb : aNew P (evo P.globals.size (D i).T) x.op = some nb)
    {arr : Array Value} (hra : relL ρ nb.cells arr.toList) (h1 : nb.cells.all AV.isOne = true) :
    ρ.le (fun b => if b = (D i).id then some ⟨w.heap.size, 0, arr.size⟩ else ρ b) ∧
    InvH P ops H D ρ0 w0 (listed.setIfInBounds i true) p (fun b => if b = (D i).id then some ⟨w.heap.size, 0, arr.size⟩ else ρ b) (X.put (D i).id ⟨nb.cells, nb.elem, true⟩) (w.alloc (.cells arr nb.elem)) := by
  obtain ⟨hlt, hu, o, ho, ha, hanc⟩ := hL.ready hr
  rw [hx] at ho
  cases ho
  have hs := set_at (listed := listed) (i := i) (by rw [hL.size]; exact hlt)
  -- the block's own place in the list
  have hmem : (⟨i, (D i).id, ⟨nb.cells, nb.elem, true⟩⟩ : FL) ∈ AL ops D := by
    rcases C.allStep hx with ⟨_, _, k⟩ | ⟨_, nb', hnb', _, _, k1⟩
    · exact absurd hk k
    · rw [hnb] at hnb'
      cases hnb'
      refine (C.allMono (i := i + 1) (j := ops.size) (by omega) (by omega)).2 _ ?_
      rw [k1]
      simp
  have hidn : ρ (D i).id = none := h.un _ hmem hu
  have hidlt : (D i).id < X.next := by
    have := (C.idB hmem).2
    have := h.N
    simp only at *
    omega
  have hge : H.next ≤ (D i).id := (C.idB hmem).1
  have hXn : X.m (D i).id = none := by
    cases hm : X.m (D i).id with
    | none => rfl
    | some B =>
      obtain ⟨r, _, _, _, g1, _⟩ := h.out.sim.blk _ B hm
      rw [hidn] at g1
      cases g1
  have hns := newAt_sound (elem := nb.elem) (us := arr.toList) (more := []) h.out.sim hidn hidlt hra h1
  simp only [List.append_nil, Array.toArray_toList, Array.length_toList] at hns
  obtain ⟨hle, hsim⟩ := hns
  refine ⟨hle, h.hp, fun q o' hq hqk => ?_, ?_, h.nx, h.N, fun b B hB => ?_, fun f hf hl hm => ?_, fun f hf hl => ?_⟩
  · rw [hs, if_neg]
    · exact h.heavy q o' hq hqk
    · intro e
      subst e
      rw [hx] at hq
      cases hq
      rw [hk] at hqk
      cases hqk
  · refine h.out.step (fun b hb => ?_) (Nat.le_refl _) hsim rfl rfl rfl (by simp) (fun j hj => ?_) (fun b B r hB hr hl => ?_)
    · have : b ≠ (D i).id := by omega
      simp [this]
    · simp only [World.alloc, Array.getElem?_push]
      rw [if_neg (by omega)]
    · by_cases e : b = (D i).id
      · subst e
        simp only [if_true] at hr
        cases hr
        simp at hl
      · simp only [AH.put, setM_other _ _ e] at hB
        simp only [e, if_false] at hr
        exact ⟨hB, hr⟩
  · have : b ≠ (D i).id := fun e => by
      subst e
      have := h.sub _ _ hB
      rw [hXn] at this
      cases this
    simp only [AH.put, setM_other _ _ this]
    exact h.sub b B hB
  · by_cases e : f.i = i
    · have := C.same hf hmem e
      subst this
      refine ⟨by simp [AH.put, setM_same], ?_⟩
      cases hm : (D p).G.m (D i).id with
      | none => rfl
      | some B =>
        have := h.sub _ _ hm
        rw [hXn] at this
        cases this
    · rw [hs, if_neg e] at hl
      have hid : f.id ≠ (D i).id := fun e' => e (C.apart hf hmem e')
      simp only [AH.put, setM_other _ _ hid]
      exact h.fl f hf hl hm
  · rw [hs] at hl
    split at hl
    · cases hl
    · rename_i e
      have hid : f.id ≠ (D i).id := fun e' => e (C.apart hf hmem e')
      simp only [hid, if_false]
      exact h.un f hf hl

theorem InvH.at_heavy (C : Ctx P nt call ops H D v) {listed : Array Bool} (hL : InvL ops listed) {i : Nat} (hr : i ∈ Region.ready .any ops listed) {x : Oper} (hx : ops[i]? = some x) (hk : dK x.op = .heavy)
    {p : Nat} {ρ : Ro} {X : AH} {w : World} (h : InvH P ops H D ρ0 w0 listed p ρ X w) : (D i).G = (D p).G ∧ (D i).mb = (D p).mb := by
  obtain ⟨hlt, hu, o, ho, ha, hanc⟩ := hL.ready hr
  have hpi : p ≤ i := by
    rcases Nat.lt_or_ge i p with hlt' | hge
    · have := (h.heavy i x hx hk).2 hlt'
      rw [hu] at this
      cases this
    · exact hge
  refine C.keepVs hpi (by omega) fun q o' h1 h2 hq hqk => ?_
  have := C.before hL hr hx hq (.inr ⟨hk, hqk⟩)
  have := (h.heavy q o' hq hqk).1 (by rw [this]; simp [h2])
  omega

theorem InvH.heavy' (C : Ctx P nt call ops H D v) {listed : Array Bool} (hL : InvL ops listed) {i : Nat} (hr : i ∈ Region.ready .any ops listed) {x : Oper} (hx : ops[i]? = some x) (hk : dK x.op = .heavy)
    {p : Nat} {ρ : Ro} {X : AH} {w : World} (h : InvH P ops H D ρ0 w0 listed p ρ X w) {ρ' : Ro} {w' : World} (ho : Out P ρ (addF (sel (D i).all ((ancs ops).getD i 0) (D p).mb) (D p).G) w ρ' (D (i + 1)).G w') :
    ∃ X', InvH P ops H D ρ0 w0 (listed.setIfInBounds i true) (i + 1) ρ' X' w' := by
  obtain ⟨hlt, hu, o, hox, ha, hanc⟩ := hL.ready hr
  rw [hx] at hox
  cases hox
  have hs := set_at (listed := listed) (i := i) (by rw [hL.size]; exact hlt)
  obtain ⟨hn, hsub⟩ := h.seen C hL hr
  obtain ⟨hG, hmb⟩ := h.at_heavy C hL hr hx hk
  have hmb' : (D (i + 1)).mb = ((D p).mb ||| (ancs ops).getD i 0) := by
    have := (C.step hx).2
    simp only [hk] at this
    rw [this.2.1, hmb]
  obtain ⟨X', hX1, hX2, hX3, hX4⟩ := frame (R := fun b => ∃ f ∈ AL ops D, listed.getD f.i false = true ∧ (D p).mb.testBit f.i = false ∧ ((ancs ops).getD i 0).testBit f.i = false ∧ f.id = b) h.out.sim hsub hn (by
    rintro b ⟨f, hf, hl, hm, hna, rfl⟩
    obtain ⟨k1, k2⟩ := h.fl f hf hl hm
    refine ⟨⟨_, k1⟩, addF_none k2 fun g hg e => ?_⟩
    simp only [sel, List.mem_filter, Bool.and_eq_true, Bool.not_eq_true'] at hg
    have := C.apart ((C.allMono (i := i) (j := ops.size) (by omega) (by omega)).2 g hg.1) hf e
    rw [this, hna] at hg
    exact absurd hg.2.1 (by simp)) ho
  refine ⟨X', by omega, fun q o' hq hqk => ?_, h.out.trans hX4, hX1, Nat.le_trans h.N hX4.next, hX3, fun f hf hl hm => ?_, fun f hf hl => ?_⟩
  · have := C.before hL hr hx hq (.inr ⟨hk, hqk⟩)
    rw [hs]
    by_cases e : q = i
    · simp [e]
    · rw [if_neg e, this]
      simp
      omega
  · have hfi : f.i ≠ i := fun e => by
      obtain ⟨_, o', nb, h1, h2, _⟩ := C.allSpec (Nat.le_refl _) hf
      rw [e, hx] at h1
      cases h1
      rw [hk] at h2
      cases h2
    rw [hs, if_neg hfi] at hl
    rw [hmb', Nat.testBit_or, Bool.or_eq_false_iff] at hm
    have hR : ∃ g ∈ AL ops D, listed.getD g.i false = true ∧ (D p).mb.testBit g.i = false ∧ ((ancs ops).getD i 0).testBit g.i = false ∧ g.id = f.id := ⟨f, hf, hl, hm.1, hm.2, rfl⟩
    obtain ⟨k1, k2⟩ := hX2 f.id hR
    rw [k1]
    exact ⟨(h.fl f hf hl hm.1).1, k2⟩
  · rw [hs] at hl
    split at hl
    · cases hl
    · rw [hX4.same f.id (by have := (C.idB hf).2; have := h.N; omega)]
      exact h.un f hf hl

/-- One step. -/
theorem inv_step (C : Ctx P nt call ops H D v) (hcall : CallOk P call) {listed : Array Bool} (hL : InvL ops listed) {i : Nat} (hr : i ∈ Region.ready .any ops listed)
    {p : Nat} {ρ : Ro} {X : AH} {w : World} {a : Act} (h : InvH P ops H D ρ0 w0 listed p ρ X w) (ht : TRel ρ nt (tmAt ops D v fun j => listed.getD j false) a) (hd : a.defers = [])
    {K : Act → World → Prop} {Q : Exit → Act → World → Prop} (hK : ∀ p' ρ' X' w' a', InvH P ops H D ρ0 w0 (listed.setIfInBounds i true) p' ρ' X' w' → TRel ρ' nt (tmAt ops D v fun j => (listed.setIfInBounds i true).getD j false) a' → a'.defers = [] → K a' w') :
    wpOp P ops Q i K a w := by
  obtain ⟨hlt, hu, x, hx, ha, hanc⟩ := hL.ready hr
  have hlook := C.looks hL hr hx
  have hput := C.put hL hr hx
  have hgd : gd ops (tmAt ops D v fun j => listed.getD j false) x = gd ops (D i).T x := gd_congr hlook
  have hev := looks_evo (ng := P.globals.size) hlook
  have hdef : ∀ v', (a.put x.dst v').defers = [] := fun v' => by cases x.dst <;> simpa [Act.put] using hd
  have hsim := h.out.sim
  unfold wpOp
  simp only [hx]
  have light : ∀ (Y : AH), Y.next = X.next → (∀ b B, Y.m b = some B → X.m b = some B) → dK x.op ≠ .heavy → dK x.op ≠ .new → gval ops (D i).T x (aLight P (evo P.globals.size (D i).T) x.op Y) = some (v i) →
      (if Region.wanted x (yielded ops a.tmps) = true then x.wp P a w K Q ∨ x.asks P a w ∧ LetsOut Q else K (a.put x.dst undef) w) := by
    intro Y hYn hYs hk1 hk2 hval
    simp only [gval, Option.bind_eq_some_iff] at hval
    obtain ⟨g, hg, hval⟩ := hval
    rw [gd_sound ht (hgd.trans hg)]
    have hH := h.light C hL hr hx hk1 hk2
    split at hval
    · rename_i hgt
      rw [if_pos hgt]
      rw [← aLight_congr hev] at hval
      have hYsim := hsim.sub hYn hYs
      obtain ⟨v', hrun, hrel⟩ := aLight_sound (w := w) hYsim (evo_rel hYsim ht) hval
      refine .inl ?_
      unfold Oper.wp
      rw [hrun]
      exact hK p ρ X w _ hH (putA_rel ht hrel hput) (hdef v')
    · rename_i hgt
      rw [if_neg hgt]
      refine hK p ρ X w _ hH (putA_rel ht ?_ hput) (hdef _)
      have e := Option.some.inj hval
      rw [← e]
      exact ⟨[], relL_nil ρ, rfl⟩
  have hst := (C.step hx).2
  cases hk : dK x.op with
  | pure =>
    simp only [hk] at hst
    rw [show aLight P (evo P.globals.size (D i).T) x.op (D i).G = aLight P (evo P.globals.size (D i).T) x.op X from aLight_pure hk _ _] at hst
    exact light X rfl (fun _ _ h => h) (by simp [hk]) (by simp [hk]) hst.1
  | read =>
    obtain ⟨hn, hsub⟩ := h.seen C hL hr
    exact light _ hn hsub (by simp [hk]) (by simp [hk]) (h.read C hL hr hx hk)
  | new =>
    simp only [hk] at hst
    obtain ⟨nb, hnb, hv, _⟩ := hst
    have hfine := C.fine.fine i x hx
    simp only [opFine, Bool.and_eq_true, Bool.or_eq_true, hk] at hfine
    have hguard : x.guard = none := by
      have := hfine.2
      simp at this
      exact this
    have hw : Region.wanted x (yielded ops a.tmps) = true := by simp [Region.wanted, hguard]
    rw [if_pos hw]
    obtain ⟨arr, v', hrun, hra, h1, hval⟩ := aNew_sound (P := P) (w := w) (evo_rel hsim ht) (by rw [aNew_congr hev]; exact hnb)
    obtain ⟨hle, hH⟩ := h.new C hL hr hx hk hnb hra h1
    refine .inl ?_
    unfold Oper.wp
    rw [hrun]
    refine hK p _ _ _ _ hH (putA_rel (ht.mono hle) ?_ hput) (hdef _)
    rw [hv]
    exact hval _ _ (by simp)
  | heavy =>
    simp only [hk] at hst
    obtain ⟨hG, hmb⟩ := h.at_heavy C hL hr hx hk
    have hval := hst.1
    rw [hG, hmb] at hval
    simp only [gheavy, Option.bind_eq_some_iff] at hval
    obtain ⟨g, hg, hval⟩ := hval
    rw [gd_sound ht (hgd.trans hg)]
    obtain ⟨hn, hsub⟩ := h.seen C hL hr
    have hYsim := hsim.sub hn hsub
    split at hval
    · rename_i hgt
      rw [if_pos hgt]
      rw [← aHeavy_congr hev] at hval
      refine .inl (aHeavy_sound hcall hYsim (evo_rel hYsim ht) hval fun ρ' v' w' hout hrel => ?_)
      obtain ⟨X', hH⟩ := h.heavy' C hL hr hx hk hout
      exact hK _ ρ' X' w' _ hH (putA_rel (ht.mono (hout.le hYsim)) hrel hput) (hdef v')
    · rename_i hgt
      rw [if_neg hgt]
      have e := Option.some.inj hval
      have e1 := congrArg Prod.fst e
      have e2 := congrArg Prod.snd e
      simp only at e1 e2
      obtain ⟨X', hH⟩ := h.heavy' C hL hr hx hk (ρ' := ρ) (w' := w) (by rw [← e2]; exact .refl hYsim)
      refine hK _ ρ X' w _ hH (putA_rel ht ?_ hput) (hdef _)
      rw [← e1]
      exact ⟨[], relL_nil ρ, rfl⟩

def unl (listed : Array Bool) : Nat → Nat
  | 0 => 0
  | n + 1 => (!(listed.getD n false)).toNat + unl listed n
theorem unl_zero {listed : Array Bool} : ∀ {n : Nat}, unl listed n = 0 → ∀ i, i < n → listed.getD i false = true
  | 0, _, i, h => by omega
  | n + 1, h0, i, h => by
    simp only [unl] at h0
    by_cases e : i = n
    · subst e
      cases hl : listed.getD i false with
      | true => rfl
      | false => rw [hl] at h0; simp at h0
    · exact unl_zero (n := n) (by omega) i (by omega)
theorem unl_step {listed : Array Bool} {i : Nat} (hi : i < listed.size) (hu : listed.getD i false = false) : ∀ {n : Nat}, unl (listed.setIfInBounds i true) n + (if i < n then 1 else 0) = unl listed n
  | 0 => by simp [unl]
  | n + 1 => by
    have ih := unl_step hi hu (n := n)
    simp only [unl, set_at hi]
    by_cases e : n = i
    · subst e
      rw [hu, if_pos rfl, if_pos (by omega)]
      rw [if_neg (by omega)] at ih
      simp only [Bool.not_true, Bool.not_false, Bool.toNat_true, Bool.toNat_false]
      omega
    · rw [if_neg e]
      by_cases h : i < n
      · rw [if_pos h] at ih
        rw [if_pos (by omega)]
        omega
      · rw [if_neg h] at ih
        rw [if_neg (by omega)]
        omega
theorem ready_nil (hf : Fine P ops) {listed : Array Bool} (hL : InvL ops listed) (h : Region.ready .any ops listed = []) : ∀ i, i < ops.size → listed.getD i false = true := by
  intro i
  induction i using Nat.strongRecOn with
  | ind i ih =>
    intro hi
    cases hl : listed.getD i false with
    | true => rfl
    | false =>
      have : i ∈ Region.ready .any ops listed := by
        rw [mem_ready]
        have hlt : i < listed.size := by rw [hL.size]; exact hi
        refine ⟨by simpa [hlt] using hl, ops[i], Array.getElem?_eq_getElem hi, fun e he hb => ?_⟩
        have := hf.on (Array.getElem?_eq_getElem hi) he hb
        exact ih e.on this (by omega)
      rw [h] at this
      cases this

theorem inv_end (C : Ctx P nt call ops H D v) {listed : Array Bool} (hL : InvL ops listed) (hall : ∀ i, i < ops.size → listed.getD i false = true) {p : Nat} {ρ : Ro} {X : AH} {w : World} {a : Act}
    (h : InvH P ops H D ρ0 w0 listed p ρ X w) (ht : TRel ρ nt (tmAt ops D v fun j => listed.getD j false) a) :
    Out P ρ0 H w0 ρ (addF (selR (D ops.size).all (D ops.size).mb) (D ops.size).G) w ∧ TRel ρ nt (D ops.size).T a := by
  have hp := h.hp
  have hsame := C.keepVs (p := p) (q := ops.size) hp (Nat.le_refl _) fun q o h1 h2 hq hk => by
    have := (h.heavy q o hq hk).1 (hall q h2)
    omega
  constructor
  · refine h.out.sub (by rw [addF_next, hsame.1, h.nx]) fun b B hB => ?_
    rcases addF_some _ _ b B hB with ⟨f, hf, rfl, rfl⟩ | hB
    · simp only [selR, List.mem_filter, Bool.not_eq_true'] at hf
      rw [hsame.2] at hf
      exact (h.fl f hf.1 (hall _ (C.ids hf.1).2.2) hf.2).1
    · rw [hsame.1] at hB
      exact h.sub b B hB
  · rw [C.text (Nat.le_refl _)]
    have : (tmAt ops D v fun j => decide (j < ops.size)) = tmAt ops D v fun j => listed.getD j false := by
      funext d
      exact tmpAt_congr fun j hj _ => by rw [hall j hj]; simp [hj]
    rw [this]
    exact ht

theorem inv_any (C : Ctx P nt call ops H D v) (hcall : CallOk P call) {Q : Exit → Act → World → Prop}
    (hQ : ∀ ρ' a' w', Out P ρ0 H w0 ρ' (addF (selR (D ops.size).all (D ops.size).mb) (D ops.size).G) w' → TRel ρ' nt (D ops.size).T a' → a'.defers = [] → Q .normal a' w') :
    ∀ (fuel : Nat) (listed : Array Bool) (p : Nat) (ρ : Ro) (X : AH) (a : Act) (w : World), unl listed ops.size ≤ fuel → InvL ops listed → InvH P ops H D ρ0 w0 listed p ρ X w → TRel ρ nt (tmAt ops D v fun j => listed.getD j false) a → a.defers = [] →
      wpAny P .any ops Q fuel listed a w := by
  intro fuel
  induction fuel with
  | zero =>
    intro listed p ρ X a w hf hL h ht hd
    have hall := unl_zero (listed := listed) (n := ops.size) (by omega)
    obtain ⟨h1, h2⟩ := inv_end C hL hall h ht
    refine ⟨?_, hQ ρ a w h1 h2 hd⟩
    cases hr : Region.ready .any ops listed with
    | nil => rfl
    | cons i is =>
      obtain ⟨hlt, hu, _⟩ := hL.ready (i := i) (by rw [hr]; simp)
      rw [hall i hlt] at hu
      cases hu
  | succ fuel ih =>
    intro listed p ρ X a w hf hL h ht hd
    refine ⟨fun hr => ?_, fun i hi => ?_⟩
    · obtain ⟨h1, h2⟩ := inv_end C hL (ready_nil C.fine hL hr) h ht
      exact hQ ρ a w h1 h2 hd
    · obtain ⟨hlt, hu, _⟩ := hL.ready hi
      refine inv_step C hcall hL hi h ht hd fun p' ρ' X' w' a' h' ht' hd' => ih _ p' ρ' X' a' w' ?_ (hL.step hi) h' ht' hd'
      have := unl_step (listed := listed) (i := i) (by rw [hL.size]; exact hlt) hu (n := ops.size)
      rw [if_pos hlt] at this
      omega
end

theorem drawA_ok {P : Program} {nt : Nat} {call : CallF} (hcall : CallOk P call) : DrawOk P nt (drawA P nt call) := by
  intro id ops ρ H w T T' H' a Q h ht hd hc hQ
  simp only [drawA, drawK] at hc
  split at hc
  · rename_i hok
    have hfine := fine_of (P := P) (ops := ops) hok
    obtain ⟨D, v, hD, htr, hK, _⟩ := drawGo_trace _ _ _ _ _ _ _ _ _ _ _ hc
    simp only [Nat.zero_add, Array.length_toList] at hK
    have e := Option.some.inj hK
    have e1 := congrArg Prod.fst e
    have e2 := congrArg Prod.snd e
    simp only at e1 e2
    have C : Ctx P nt call ops H D v := ⟨hfine, htr, by rw [hD], by rw [hD], by rw [hD]⟩
    refine wp_region_any hfine.mixed ?_
    have rep : ∀ j, (Array.replicate ops.size false).getD j false = false := fun j => by
      rw [Array.getD_eq_getD_getElem?, Array.getElem?_replicate]
      split <;> rfl
    have hun : ∀ n, unl (Array.replicate ops.size false) n ≤ n := by
      intro n
      induction n with
      | zero => simp [unl]
      | succ n ih => simp only [unl, rep]; simp; omega
    have h0 := Out.drew h (w.drawn + 1)
    have hnx : (D 0).G.next = H.next + news ops.toList := by rw [hD]
    have hG0 : (D 0).G.m = H.m := by rw [hD]
    refine inv_any (ρ0 := ρ) (w0 := w) C hcall (fun ρ' a' w' ho ht' hd' => hQ ρ' a' w' (by rw [← e2]; exact ho) (by rw [← e1]; exact ht') hd') ops.size _ 0 ρ { H with next := H.next + news ops.toList } a _ (hun _) ⟨by simp, fun i o hi hl => (by rw [rep] at hl; cases hl)⟩ ?_ ?_ hd
    · refine ⟨Nat.zero_le _, fun q o hq hk => by simp [rep], ?_, hnx.symm, Nat.le_refl _, fun b B hB => by rw [hG0] at hB; exact hB, fun f hf hl => (by rw [rep] at hl; cases hl), fun f hf _ => h.fresh _ (C.idB hf).1⟩
      exact ⟨h0.same, Nat.le_add_right _ _, h0.sim.more (Nat.le_add_right _ _), h0.os, h0.tape, h0.output, h0.size, h0.keep, h0.own⟩
    · have : (tmAt ops D v fun j => (Array.replicate ops.size false).getD j false) = T := by
        have h1 := C.text (i := 0) (Nat.zero_le _)
        rw [hD] at h1
        simp only at h1
        rw [h1]
        funext d
        exact tmpAt_congr fun j hj _ => by rw [rep]; simp
      rw [this]
      exact ht
  · cases hc

theorem aCallD (P : Program) : ∀ n, CallOk P (aCall P (drawA P) n) := aCall_sound fun nt call h => drawA_ok h
end Go.Ri
