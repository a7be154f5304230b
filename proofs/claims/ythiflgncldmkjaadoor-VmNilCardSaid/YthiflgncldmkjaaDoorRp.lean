/- A region that draws its order: the invariant. -/
import Derived.Test.YthiflgncldmkjaaDoorRo
set_option linter.unusedVariables false
set_option linter.unusedSimpArgs false
namespace Go.Ri

structure Ctx (P : Program) (nt : Nat) (call : CallF) (ops : Array Oper) (H : AH) (D : Nat → DS) (v : Nat → AV) : Prop where
  fine : Fine P ops
  tr : Tr P nt call ops (ancs ops) ops.toList 0 D v
  all0 : (D 0).all = []
  id0 : (D 0).id = H.next
  mb0 : (D 0).mb = 0

section
variable {P : Program} {nt : Nat} {call : CallF} {ops : Array Oper} {H : AH} {D : Nat → DS} {v : Nat → AV}

theorem Ctx.step (C : Ctx P nt call ops H D v) {i : Nat} {o : Oper} (hi : ops[i]? = some o) : StepOk P nt call ops ((ancs ops).getD i 0) i o (D i) (v i) (D (i + 1)) := by
  have := C.tr.step i o (by simpa using hi)
  simpa using this
theorem Ctx.some_at (C : Ctx P nt call ops H D v) {i : Nat} (h : i < ops.size) : ∃ o, ops[i]? = some o := ⟨_, Array.getElem?_eq_getElem h⟩

theorem Ctx.keepV (C : Ctx P nt call ops H D v) {i : Nat} {o : Oper} (hi : ops[i]? = some o) (hk : dK o.op ≠ .heavy) : (D (i + 1)).G = (D i).G ∧ (D (i + 1)).mb = (D i).mb := by
  have h := (C.step hi).2
  cases h' : dK o.op <;> simp only [h'] at h
  · exact ⟨h.2.1, h.2.2.1⟩
  · exact ⟨h.2.1, h.2.2.1⟩
  · obtain ⟨nb, _, _, h1, h2, _⟩ := h
    exact ⟨h1, h2⟩
  · exact absurd h' hk
theorem Ctx.keepVs (C : Ctx P nt call ops H D v) {p : Nat} : ∀ {q : Nat}, p ≤ q → q ≤ ops.size → (∀ h o, p ≤ h → h < q → ops[h]? = some o → dK o.op ≠ .heavy) → (D q).G = (D p).G ∧ (D q).mb = (D p).mb
  | 0, hpq, _, _ => by
    have : p = 0 := by omega
    subst this
    exact ⟨rfl, rfl⟩
  | q + 1, hpq, hq, hh => by
    by_cases e : p = q + 1
    · subst e; exact ⟨rfl, rfl⟩
    · obtain ⟨o, ho⟩ := C.some_at (i := q) (by omega)
      have h1 := C.keepV ho (hh q o (by omega) (by omega) ho)
      have h2 := C.keepVs (p := p) (q := q) (by omega) (by omega) fun h o a b => hh h o a (by omega)
      exact ⟨h1.1.trans h2.1, h1.2.trans h2.2⟩

def allAt (D : Nat → DS) (i : Nat) : List FL := (D i).all
theorem Ctx.allStep (C : Ctx P nt call ops H D v) {i : Nat} {o : Oper} (hi : ops[i]? = some o) :
    ((D (i + 1)).all = (D i).all ∧ (D (i + 1)).id = (D i).id ∧ dK o.op ≠ .new) ∨
    (dK o.op = .new ∧ ∃ nb, aNew P (evo P.globals.size (D i).T) o.op = some nb ∧ v i = nb.val (D i).id ∧ (D (i + 1)).id = (D i).id + 1 ∧ (D (i + 1)).all = (D i).all ++ [⟨i, (D i).id, ⟨nb.cells, nb.elem, true⟩⟩]) := by
  have h := (C.step hi).2
  cases h' : dK o.op <;> simp only [h'] at h
  · exact .inl ⟨h.2.2.2.2, h.2.2.2.1, by simp⟩
  · exact .inl ⟨h.2.2.2.2, h.2.2.2.1, by simp⟩
  · obtain ⟨nb, h0, hv, h1, h2, h3, h4⟩ := h
    exact .inr ⟨rfl, nb, h0, hv, h3, h4⟩
  · exact .inl ⟨h.2.2.2, h.2.2.1, by simp⟩
theorem Ctx.allMono (C : Ctx P nt call ops H D v) {i : Nat} : ∀ {j : Nat}, i ≤ j → j ≤ ops.size → (D i).id ≤ (D j).id ∧ ∀ f ∈ (D i).all, f ∈ (D j).all
  | 0, hij, _ => by
    have : i = 0 := by omega
    subst this
    exact ⟨Nat.le_refl _, fun f h => h⟩
  | j + 1, hij, hj => by
    by_cases e : i = j + 1
    · subst e; exact ⟨Nat.le_refl _, fun f h => h⟩
    · obtain ⟨h1, h2⟩ := C.allMono (i := i) (j := j) (by omega) (by omega)
      obtain ⟨o, ho⟩ := C.some_at (i := j) (by omega)
      rcases C.allStep ho with ⟨k1, k2, _⟩ | ⟨_, nb, _, _, k2, k1⟩
      · exact ⟨by omega, fun f hf => by rw [k1]; exact h2 f hf⟩
      · exact ⟨by omega, fun f hf => by rw [k1]; exact List.mem_append_left _ (h2 f hf)⟩
theorem Ctx.allSpec (C : Ctx P nt call ops H D v) {f : FL} : ∀ {i : Nat}, i ≤ ops.size → f ∈ (D i).all → f.i < i ∧ ∃ o nb, ops[f.i]? = some o ∧ dK o.op = .new ∧ aNew P (evo P.globals.size (D f.i).T) o.op = some nb ∧
      v f.i = nb.val (D f.i).id ∧ f = ⟨f.i, (D f.i).id, ⟨nb.cells, nb.elem, true⟩⟩
  | 0, _, h => by rw [C.all0] at h; cases h
  | i + 1, hi, h => by
    obtain ⟨o, ho⟩ := C.some_at (i := i) (by omega)
    have old : f ∈ (D i).all → _ := fun hf => by
      obtain ⟨k1, k2⟩ := C.allSpec (i := i) (by omega) hf
      exact (⟨by omega, k2⟩ : f.i < i + 1 ∧ _)
    rcases C.allStep ho with ⟨k1, k2, _⟩ | ⟨hk, nb, hnb, hv, k2, k1⟩
    · rw [k1] at h; exact old h
    · rw [k1] at h
      rcases List.mem_append.1 h with h | h
      · exact old h
      · simp only [List.mem_singleton] at h
        subst h
        exact ⟨Nat.lt_succ_self _, o, nb, ho, hk, hnb, hv, rfl⟩

def AL (ops : Array Oper) (D : Nat → DS) : List FL := (D ops.size).all
theorem Ctx.same (C : Ctx P nt call ops H D v) {f g : FL} (hf : f ∈ AL ops D) (hg : g ∈ AL ops D) (h : f.i = g.i) : f = g := by
  obtain ⟨_, o, nb, h1, h2, h3, h4, h5⟩ := C.allSpec (Nat.le_refl _) hf
  obtain ⟨_, o', nb', k1, k2, k3, k4, k5⟩ := C.allSpec (Nat.le_refl _) hg
  rw [h5, k5]
  rw [h] at h1 h3 ⊢
  rw [h1] at k1
  cases k1
  rw [h3] at k3
  cases k3
  rfl
theorem Ctx.ids (C : Ctx P nt call ops H D v) {f : FL} (hf : f ∈ AL ops D) : f.id = (D f.i).id ∧ (D f.i).id < (D (f.i + 1)).id ∧ f.i < ops.size := by
  obtain ⟨h0, o, nb, h1, h2, h3, h4, h5⟩ := C.allSpec (Nat.le_refl _) hf
  refine ⟨by rw [h5], ?_, h0⟩
  rcases C.allStep h1 with ⟨_, _, k⟩ | ⟨_, nb', _, _, k2, _⟩
  · exact absurd h2 k
  · omega
theorem Ctx.apart (C : Ctx P nt call ops H D v) {f g : FL} (hf : f ∈ AL ops D) (hg : g ∈ AL ops D) (h : f.id = g.id) : f.i = g.i := by
  obtain ⟨h1, h2, h3⟩ := C.ids hf
  obtain ⟨k1, k2, k3⟩ := C.ids hg
  rcases Nat.lt_trichotomy f.i g.i with hlt | heq | hlt
  · have := (C.allMono (i := f.i + 1) (j := g.i) (by omega) (by omega)).1
    omega
  · exact heq
  · have := (C.allMono (i := g.i + 1) (j := f.i) (by omega) (by omega)).1
    omega
theorem news_cons (o : Oper) (l : List Oper) : news (o :: l) = (if dK o.op = .new then 1 else 0) + news l := by
  unfold news
  rw [List.filter_cons]
  by_cases h : dK o.op = .new
  · simp [h]; omega
  · have : (dK o.op == DK.new) = false := by simpa using h
    simp [this, h]
theorem Ctx.idsN (C : Ctx P nt call ops H D v) : ∀ {i : Nat}, i ≤ ops.size → (D i).id + news (ops.toList.drop i) = H.next + news ops.toList
  | 0, _ => by simp [C.id0]
  | i + 1, hi => by
    have ih := C.idsN (i := i) (by omega)
    obtain ⟨o, ho⟩ := C.some_at (i := i) (by omega)
    have hd : ops.toList.drop i = o :: ops.toList.drop (i + 1) := by
      have hlt : i < ops.toList.length := by simp; omega
      rw [List.drop_eq_getElem_cons hlt]
      congr 1
      have := Array.getElem?_eq_some_iff.1 ho
      obtain ⟨h1, h2⟩ := this
      simpa using h2
    rw [hd, news_cons] at ih
    rcases C.allStep ho with ⟨_, k2, k3⟩ | ⟨hk, nb, hnb, hv, k2, k1⟩
    · rw [if_neg k3] at ih; omega
    · rw [if_pos hk] at ih; omega
theorem Ctx.idB (C : Ctx P nt call ops H D v) {f : FL} (hf : f ∈ AL ops D) : H.next ≤ f.id ∧ f.id < H.next + news ops.toList := by
  obtain ⟨h1, h2, h3⟩ := C.ids hf
  have a := (C.allMono (i := 0) (j := f.i) (by omega) (by omega)).1
  have b := (C.allMono (i := f.i + 1) (j := ops.size) (by omega) (by omega)).1
  have c := C.idsN (i := ops.size) (Nat.le_refl _)
  rw [C.id0] at a
  omega

/-! ### What is listed -/
structure InvL (ops : Array Oper) (listed : Array Bool) : Prop where
  size : listed.size = ops.size
  down : ∀ i o, ops[i]? = some o → listed.getD i false = true → ∀ e ∈ o.after, Region.binds .any e = true → listed.getD e.on false = true

theorem InvL.anc {listed : Array Bool} (h : InvL ops listed) : ∀ (i : Nat) (o : Oper), ops[i]? = some o → listed.getD i false = true → ∀ j, ((ancs ops).getD i 0).testBit j = true → listed.getD j false = true := by
  intro i
  induction i using Nat.strongRecOn with
  | ind i ih =>
    intro o hi hl j hj
    obtain ⟨e, he, hb, hj⟩ := anc_spec hi hj
    have he' := h.down i o hi hl e he hb
    rcases hj with rfl | ⟨hlt, hj⟩
    · exact he'
    · have hsz : e.on < ops.size := by
        have := (Array.getElem?_eq_some_iff.1 hi).1
        omega
      exact ih e.on hlt _ (Array.getElem?_eq_getElem hsz) he' j hj
theorem InvL.ready {listed : Array Bool} (h : InvL ops listed) {i : Nat} (hr : i ∈ Region.ready .any ops listed) : i < ops.size ∧ listed.getD i false = false ∧ ∃ o, ops[i]? = some o ∧
    (∀ e ∈ o.after, Region.binds .any e = true → listed.getD e.on false = true) ∧ ∀ j, ((ancs ops).getD i 0).testBit j = true → listed.getD j false = true := by
  obtain ⟨h1, o, ho, h2⟩ := mem_ready.1 hr
  have hlt := (Array.getElem?_eq_some_iff.1 ho).1
  have hlt' : i < listed.size := by rw [h.size]; exact hlt
  refine ⟨hlt, by simpa [hlt'] using h1, o, ho, h2, fun j hj => ?_⟩
  obtain ⟨e, he, hb, hj⟩ := anc_spec ho hj
  have he' := h2 e he hb
  rcases hj with rfl | ⟨hl, hj⟩
  · exact he'
  · exact h.anc e.on _ (Array.getElem?_eq_getElem (show e.on < ops.size by omega)) he' j hj
theorem set_at {listed : Array Bool} {i : Nat} (h : i < listed.size) (j : Nat) : (listed.setIfInBounds i true).getD j false = if j = i then true else listed.getD j false := by
  by_cases e : j = i
  · subst e; simp [h]
  · rw [if_neg e]; exact getD_set_ne false (Ne.symm e)
theorem InvL.step {listed : Array Bool} (h : InvL ops listed) {i : Nat} (hr : i ∈ Region.ready .any ops listed) : InvL ops (listed.setIfInBounds i true) := by
  obtain ⟨hlt, hu, o, ho, ha, _⟩ := h.ready hr
  refine ⟨by simp [h.size], fun j q hj hl e he hb => ?_⟩
  rw [set_at (by rw [h.size]; exact hlt)] at hl
  by_cases hji : j = i
  · subst hji
    rw [ho] at hj
    cases hj
    exact getD_set_true (ha e he hb)
  · rw [if_neg hji] at hl
    exact getD_set_true (h.down j q hj hl e he hb)

/-- Two operations of which one writes what the other touches have an order. -/
theorem Ctx.order (C : Ctx P nt call ops H D v) {i j : Nat} {x y : Oper} (hij : i < j) (hi : ops[i]? = some x) (hj : ops[j]? = some y) (h : x.apart ops y = false ∨ (dK x.op = .heavy ∧ dK y.op = .heavy)) : ((ancs ops).getD j 0).testBit i = true := by
  have := C.fine.pair i j x y hij hi hj
  simp only [pairOk, Bool.or_eq_true, Bool.and_eq_true, Bool.not_eq_true', Bool.and_eq_false_iff, beq_eq_false_iff_ne] at this
  rcases this with h' | ⟨h1, h2⟩
  · exact h'
  · rcases h with h | ⟨h3, h4⟩
    · rw [h] at h1; cases h1
    · rcases h2 with h2 | h2
      · exact absurd h3 h2
      · exact absurd h4 h2
theorem Ctx.before (C : Ctx P nt call ops H D v) {listed : Array Bool} (hL : InvL ops listed) {i : Nat} (hr : i ∈ Region.ready .any ops listed) {x : Oper} (hx : ops[i]? = some x) {j : Nat} {y : Oper} (hj : ops[j]? = some y)
    (h : (x.apart ops y = false ∧ y.apart ops x = false) ∨ (dK x.op = .heavy ∧ dK y.op = .heavy)) : listed.getD j false = decide (j < i) := by
  obtain ⟨hlt, hu, o, ho, ha, hanc⟩ := hL.ready hr
  rcases Nat.lt_trichotomy j i with hji | rfl | hji
  · rw [hanc j (C.order hji hj hx (h.imp (·.2) (fun h => ⟨h.2, h.1⟩)))]
    simp [hji]
  · rw [hu]; simp
  · have ho := C.order hji hx hj (h.imp (·.1) id)
    have : listed.getD j false ≠ true := fun hl => by
      have := hL.anc j y hj hl i ho
      rw [hu] at this
      cases this
    simp only [Bool.not_eq_true] at this
    rw [this]
    simp; omega

theorem apart_look {x y : Oper} {d : Nat} (hd : y.dst = some d) (h : d ∈ x.looksAt ops ∨ x.dst = some d) : x.apart ops y = false ∧ y.apart ops x = false := by
  constructor
  · cases hc : x.apart ops y with
    | false => rfl
    | true =>
      obtain ⟨h1, h2, h3⟩ := Oper.apart_spec hc
      rcases h with h | h
      · exact absurd h (h3 d hd)
      · exact absurd hd (h2 d h)
  · cases hc : y.apart ops x with
    | false => rfl
    | true =>
      obtain ⟨h1, h2, h3⟩ := Oper.apart_spec hc
      rcases h with h | h
      · exact absurd h (h1 d hd)
      · exact absurd h (h2 d hd)

/-- The slots at a set of operations. -/
def tmAt (ops : Array Oper) (D : Nat → DS) (v : Nat → AV) (S : Nat → Bool) : Tm := tmpAt ops v (D 0).T ops.size S
theorem Ctx.text (C : Ctx P nt call ops H D v) : ∀ {i : Nat}, i ≤ ops.size → (D i).T = tmAt ops D v fun j => decide (j < i)
  | 0, _ => by
    funext d
    have : wrote ops (fun j => decide (j < 0)) d ops.size = none := by
      generalize ops.size = n
      induction n with
      | zero => rfl
      | succ n ih => simp only [wrote]; rw [if_neg (by simp)]; exact ih
    simp only [tmAt, tmpAt, this]
  | i + 1, hi => by
    obtain ⟨o, ho⟩ := C.some_at (i := i) (by omega)
    have hp := (C.step ho).1
    have := tmpAt_put (ops := ops) (v := v) (T := (D 0).T) (n := ops.size) (S := fun j => decide (j < i)) (S' := fun j => decide (j < i + 1)) ho (by omega) hp
      (fun j => by by_cases e : j = i <;> simp [e] <;> omega) (fun j d _ h _ _ => by simp; omega)
    rw [C.text (i := i) (by omega)] at hp
    unfold tmAt at hp ⊢
    rw [this] at hp
    exact (Option.some.inj hp).symm
/-- An operation that is ready sees what it sees in the text's order. -/
theorem Ctx.looks (C : Ctx P nt call ops H D v) {listed : Array Bool} (hL : InvL ops listed) {i : Nat} (hr : i ∈ Region.ready .any ops listed) {x : Oper} (hx : ops[i]? = some x) :
    ∀ t ∈ x.looksAt ops, tmAt ops D v (fun j => listed.getD j false) t = (D i).T t := by
  intro t ht
  have hlt := (Array.getElem?_eq_some_iff.1 hx).1
  rw [C.text (i := i) (by omega)]
  refine tmpAt_congr fun j hj hd => ?_
  obtain ⟨y, hy⟩ := C.some_at hj
  refine C.before hL hr hx hy (.inl (apart_look (d := t) ?_ (.inl ht)))
  simpa [dstAt, hy] using hd
theorem Ctx.put (C : Ctx P nt call ops H D v) {listed : Array Bool} (hL : InvL ops listed) {i : Nat} (hr : i ∈ Region.ready .any ops listed) {x : Oper} (hx : ops[i]? = some x) :
    putA nt (tmAt ops D v fun j => listed.getD j false) x.dst (v i) = some (tmAt ops D v fun j => (listed.setIfInBounds i true).getD j false) := by
  obtain ⟨hlt, hu, _⟩ := hL.ready hr
  refine tmpAt_put hx hlt (C.step hx).1 (fun j => set_at (by rw [hL.size]; exact hlt) j) fun j d hd hij hjn hjd => ?_
  obtain ⟨y, hy⟩ := C.some_at hjn
  have := C.before hL hr hx hy (.inl (apart_look (d := d) (by simpa [dstAt, hy] using hjd) (.inr hd)))
  rw [this]
  simp; omega
end
end Go.Ri
