/- Abstract values, abstract heap, and the relation of these to the model's worlds. -/
import Derived.Calls
import Derived.Orders
import Derived.Scope
import Derived.Laws.Sem
import Derived.Laws.World
import Derived.Laws.CopyRow
import Derived.Laws.Cells
import Derived.KernelRfl
set_option linter.unusedVariables false
set_option linter.unusedSimpArgs false
namespace Go.Ri

/-- Where an abstract block lies: the block, where it begins in it, how many cells it may have. -/
structure RB where
  blk : Nat
  base : Nat
  lim : Nat

abbrev Ro := Nat → Option RB

/-- A slice's capacity: known, or as far as its block goes, elements of so many cells. -/
inductive Cap where
  | kn (c : Nat)
  | op (sz : Nat)
  deriving DecidableEq
def Cap.known : Cap → Option Nat
  | .kn c => some c
  | .op _ => none

inductive AV where
  | bool (b : Bool)
  | int (k : IntKind) (n : Int)
  | str (s : ByteArray)
  | ptr (a : Option (Nat × Nat))
  | slice (a : Option (Nat × Nat)) (len : Nat) (cap : Cap)
  | empty   -- a slice without elements, lying nobody knows where
  | func (f : Nat) (cs : List AV)
  | nilFunc
  | agg (cs : List AV)
  | tuple (vs : List AV)
  | other (v : Value)
  deriving Inhabited

def AV.isOne : AV → Bool
  | .agg _ | .tuple _ => false
  | .other v => v.oneCell'
  | _ => true

def cAddr (ρ : Ro) : Option (Nat × Nat) → Option (Option Addr)
  | none => some none
  | some (b, o) => (ρ b).map fun r => some ⟨r.blk, r.base + o, none⟩

def cCap (ρ : Ro) (a : Option (Nat × Nat)) : Cap → Option Nat
  | .kn c => some c
  | .op sz => match a with
    | some (b, o) => (ρ b).map fun r => (r.lim - o) / sz
    | none => none

mutual
def rel (ρ : Ro) : AV → Value → Prop
  | .bool b => fun v => v = .bool b
  | .int k n => fun v => v = .int k n
  | .str s => fun v => v = .string s
  | .ptr a => fun v => ∃ x, cAddr ρ a = some x ∧ v = .pointer x
  | .slice a n c => fun v => ∃ x y, cAddr ρ a = some x ∧ cCap ρ a c = some y ∧ n ≤ y ∧ v = .slice x n y
  | .empty => fun v => ∃ a c, v = .slice (some a) 0 c
  | .func f cs => fun v => ∃ vs, relL ρ cs vs ∧ v = .func (.func f) #[] vs.toArray
  | .nilFunc => fun v => v = .nilFunc
  | .agg cs => fun v => cs.all AV.isOne = true ∧ ∃ vs, relL ρ cs vs ∧ v = .agg vs.toArray
  | .tuple cs => fun v => ∃ vs, relL ρ cs vs ∧ v = .tuple vs.toArray
  | .other u => fun v => v = u
def relL (ρ : Ro) : List AV → List Value → Prop
  | [] => fun vs => vs = []
  | c :: cs => fun vs => ∃ v us, rel ρ c v ∧ relL ρ cs us ∧ vs = v :: us
end

def Ro.le (ρ ρ' : Ro) : Prop := ∀ b r, ρ b = some r → ρ' b = some r
theorem Ro.le.refl (ρ : Ro) : ρ.le ρ := fun _ _ h => h
theorem Ro.le.trans {ρ ρ' ρ'' : Ro} (h : ρ.le ρ') (k : ρ'.le ρ'') : ρ.le ρ'' := fun _ _ hb => k _ _ (h _ _ hb)

theorem cAddr_mono {ρ ρ' : Ro} (h : ρ.le ρ') {a x} (ha : cAddr ρ a = some x) : cAddr ρ' a = some x := by
  cases a with
  | none => exact ha
  | some p =>
    obtain ⟨b, o⟩ := p
    simp only [cAddr, Option.map_eq_some_iff] at ha ⊢
    obtain ⟨r, hr, rfl⟩ := ha
    exact ⟨r, h _ _ hr, rfl⟩
theorem cCap_mono {ρ ρ' : Ro} (h : ρ.le ρ') {a c x} (ha : cCap ρ a c = some x) : cCap ρ' a c = some x := by
  cases c with
  | kn c => exact ha
  | op sz =>
    cases a with
    | none => simp [cCap] at ha
    | some p =>
      obtain ⟨b, o⟩ := p
      simp only [cCap, Option.map_eq_some_iff] at ha ⊢
      obtain ⟨r, hr, rfl⟩ := ha
      exact ⟨r, h _ _ hr, rfl⟩

mutual
theorem rel_mono {ρ ρ' : Ro} (h : ρ.le ρ') : ∀ (c : AV) {v}, rel ρ c v → rel ρ' c v
  | .bool _, _, e => by simpa [rel] using e
  | .int _ _, _, e => by simpa [rel] using e
  | .str _, _, e => by simpa [rel] using e
  | .ptr a, v, e => by
    simp only [rel] at e ⊢
    obtain ⟨x, hx, rfl⟩ := e
    exact ⟨x, cAddr_mono h hx, rfl⟩
  | .slice a n c, v, e => by
    simp only [rel] at e ⊢
    obtain ⟨x, y, hx, hy, hn, rfl⟩ := e
    exact ⟨x, y, cAddr_mono h hx, cCap_mono h hy, hn, rfl⟩
  | .empty, _, e => by simpa [rel] using e
  | .func f cs, v, e => by
    simp only [rel] at e ⊢
    obtain ⟨x, hx, rfl⟩ := e
    exact ⟨x, relL_mono h cs hx, rfl⟩
  | .nilFunc, _, e => by simpa [rel] using e
  | .agg cs, v, e => by
    simp only [rel] at e ⊢
    obtain ⟨h1, x, hx, rfl⟩ := e
    exact ⟨h1, x, relL_mono h cs hx, rfl⟩
  | .tuple cs, v, e => by
    simp only [rel] at e ⊢
    obtain ⟨x, hx, rfl⟩ := e
    exact ⟨x, relL_mono h cs hx, rfl⟩
  | .other _, _, e => by simpa [rel] using e
theorem relL_mono {ρ ρ' : Ro} (h : ρ.le ρ') : ∀ (cs : List AV) {vs}, relL ρ cs vs → relL ρ' cs vs
  | [], _, e => by simpa [relL] using e
  | c :: cs, vs, e => by
    simp only [relL] at e ⊢
    obtain ⟨x, y, hx, hy, rfl⟩ := e
    exact ⟨x, y, rel_mono h c hx, relL_mono h cs hy, rfl⟩
end

theorem relL_nil (ρ : Ro) : relL ρ [] [] := by simp [relL]
theorem relL_cons {ρ : Ro} {c : AV} {cs : List AV} {v vs} (h : rel ρ c v) (k : relL ρ cs vs) : relL ρ (c :: cs) (v :: vs) := by
  simp only [relL]; exact ⟨v, vs, h, k, rfl⟩
theorem relL_one {ρ : Ro} {c : AV} {v} (h : rel ρ c v) : relL ρ [c] [v] := relL_cons h (relL_nil ρ)
theorem relL_length {ρ : Ro} : ∀ {cs : List AV} {vs}, relL ρ cs vs → vs.length = cs.length
  | [], vs, h => by simp [relL] at h; subst h; rfl
  | c :: cs, vs, h => by
    simp only [relL] at h
    obtain ⟨x, y, _, hy, rfl⟩ := h
    simp [relL_length hy]
theorem relL_get {ρ : Ro} : ∀ {cs : List AV} {vs : List Value}, relL ρ cs vs → ∀ (i : Nat) (c : AV), cs[i]? = some c → ∃ v, rel ρ c v ∧ vs[i]? = some v
  | [], vs, h, i, c, hi => by simp at hi
  | d :: cs, vs, h, i, c, hi => by
    simp only [relL] at h
    obtain ⟨x, y, hx, hy, rfl⟩ := h
    cases i with
    | zero => simp at hi; subst hi; exact ⟨x, hx, by simp⟩
    | succ i => simpa using relL_get hy i c (by simpa using hi)
theorem relL_append {ρ : Ro} : ∀ {cs ds : List AV} {vs us}, relL ρ cs vs → relL ρ ds us → relL ρ (cs ++ ds) (vs ++ us)
  | [], ds, vs, us, h, k => by simp [relL] at h; subst h; simpa using k
  | c :: cs, ds, vs, us, h, k => by
    simp only [relL] at h
    obtain ⟨x, y, hx, hy, rfl⟩ := h
    exact relL_cons hx (relL_append hy k)
theorem relL_take {ρ : Ro} : ∀ (n : Nat) {cs : List AV} {vs}, relL ρ cs vs → relL ρ (cs.take n) (vs.take n)
  | 0, cs, vs, h => by simp [relL]
  | n + 1, [], vs, h => by simp [relL] at h; subst h; simp [relL]
  | n + 1, c :: cs, vs, h => by
    simp only [relL] at h
    obtain ⟨x, y, hx, hy, rfl⟩ := h
    exact relL_cons hx (relL_take n hy)
theorem relL_drop {ρ : Ro} : ∀ (n : Nat) {cs : List AV} {vs}, relL ρ cs vs → relL ρ (cs.drop n) (vs.drop n)
  | 0, cs, vs, h => by simpa using h
  | n + 1, [], vs, h => by simp [relL] at h; subst h; simp [relL]
  | n + 1, c :: cs, vs, h => by
    simp only [relL] at h
    obtain ⟨x, y, hx, hy, rfl⟩ := h
    simpa using relL_drop n hy
theorem relL_mem {ρ : Ro} {cs : List AV} {vs} (h : relL ρ cs vs) {v} (hv : v ∈ vs) : ∃ c ∈ cs, rel ρ c v := by
  obtain ⟨i, hi⟩ := List.mem_iff_getElem?.1 hv
  have hl := relL_length h
  have hlt : i < cs.length := by
    rw [← hl]
    exact (List.getElem?_eq_some_iff.1 hi).1
  obtain ⟨v', hv', hi'⟩ := relL_get h i cs[i] (List.getElem?_eq_getElem hlt)
  rw [hi] at hi'
  cases hi'
  exact ⟨cs[i], List.getElem_mem _, hv'⟩
theorem oneCell_of_isOne {ρ : Ro} {c : AV} {v} (h : rel ρ c v) (h1 : c.isOne = true) : v.oneCell' = true := by
  cases c <;> simp [AV.isOne] at h1 <;> simp only [rel] at h
  case bool => subst h; rfl
  case int => subst h; rfl
  case str => subst h; rfl
  case ptr => obtain ⟨_, _, rfl⟩ := h; rfl
  case slice => obtain ⟨_, _, _, _, _, rfl⟩ := h; rfl
  case empty => obtain ⟨_, _, rfl⟩ := h; rfl
  case func => obtain ⟨_, _, rfl⟩ := h; rfl
  case nilFunc => subst h; rfl
  case other => subst h; exact h1

/-! ### The heap -/
structure Blk where
  cells : List AV
  elem : TypeId
  rw_ : Bool

structure AH where
  m : Nat → Option Blk
  next : Nat

def setM (m : Nat → Option Blk) (b : Nat) (x : Option Blk) : Nat → Option Blk := fun i => if i = b then x else m i
theorem setM_same (m : Nat → Option Blk) (b : Nat) (x : Option Blk) : setM m b x b = x := by simp [setM]
theorem setM_other (m : Nat → Option Blk) {b i : Nat} (x : Option Blk) (h : i ≠ b) : setM m b x i = m i := by simp [setM, h]

structure Sim (P : Program) (ρ : Ro) (H : AH) (w : World) : Prop where
  blk : ∀ b B, H.m b = some B → ∃ r cs fr vs, ρ b = some r ∧ w.heap[r.blk]? = some (.cells cs B.elem fr) ∧ r.base + r.lim = cs.size ∧
    (B.rw_ = true → fr = (0, 0)) ∧ relL ρ B.cells vs ∧ vs.length ≤ r.lim ∧ (∀ i v, vs[i]? = some v → cs[r.base + i]? = some v) ∧
    B.cells.all AV.isOne = true
  inj : ∀ b b' B B' r r', H.m b = some B → H.m b' = some B' → ρ b = some r → ρ b' = some r' → r.blk = r'.blk → b = b'
  fresh : ∀ b, H.next ≤ b → ρ b = none
  glob : ∀ g, g < P.globals.size → ∃ l, ρ g = some ⟨g, 0, l⟩

/-- What a step leaves: only blocks that the abstract heap may write have turned, beside new ones. -/
structure Out (P : Program) (ρ : Ro) (H : AH) (w : World) (ρ' : Ro) (H' : AH) (w' : World) : Prop where
  same : ∀ b, b < H.next → ρ' b = ρ b
  next : H.next ≤ H'.next
  sim : Sim P ρ' H' w'
  os : w'.os = w.os
  tape : w'.tape = w.tape
  output : w'.output = w.output
  size : w.heap.size ≤ w'.heap.size
  keep : ∀ i, i < w.heap.size → (∀ b B r, H.m b = some B → B.rw_ = true → ρ b = some r → r.blk ≠ i) → w'.heap[i]? = w.heap[i]?
  own : ∀ b B r, H'.m b = some B → ρ' b = some r → r.blk < w.heap.size → ∃ b0 B0 r0, H.m b0 = some B0 ∧ ρ b0 = some r0 ∧ r0.blk = r.blk ∧ (B.rw_ = true → B0.rw_ = true)

theorem Out.refl {P : Program} {ρ : Ro} {H : AH} {w : World} (h : Sim P ρ H w) : Out P ρ H w ρ H w :=
  ⟨fun _ _ => rfl, Nat.le_refl _, h, rfl, rfl, rfl, Nat.le_refl _, fun _ _ _ => rfl, fun b B r hb hρ _ => ⟨b, B, r, hb, hρ, rfl, id⟩⟩

theorem Out.trans {P : Program} {ρ ρ₁ ρ₂ : Ro} {H H₁ H₂ : AH} {w w₁ w₂ : World} (h : Out P ρ H w ρ₁ H₁ w₁) (k : Out P ρ₁ H₁ w₁ ρ₂ H₂ w₂) : Out P ρ H w ρ₂ H₂ w₂ := by
  refine ⟨fun b hb => (k.same b (Nat.lt_of_lt_of_le hb h.next)).trans (h.same b hb), Nat.le_trans h.next k.next, k.sim, k.os.trans h.os, k.tape.trans h.tape, k.output.trans h.output, Nat.le_trans h.size k.size, fun i hi hf => ?_, fun b B r hb hρ hlt => ?_⟩
  · rw [k.keep i (Nat.lt_of_lt_of_le hi h.size) ?_, h.keep i hi hf]
    intro b B r hb hr hρ he
    obtain ⟨b0, B0, r0, h0, h2, h3, h1⟩ := h.own b B r hb hρ (by rw [he]; exact hi)
    exact hf b0 B0 r0 h0 (h1 hr) h2 (h3.trans he)
  · obtain ⟨b0, B0, r0, h0, h2, h3, h1⟩ := k.own b B r hb hρ (Nat.lt_of_lt_of_le hlt h.size)
    obtain ⟨b1, B1, r1, g0, g2, g3, g1⟩ := h.own b0 B0 r0 h0 h2 (by rw [h3]; exact hlt)
    exact ⟨b1, B1, r1, g0, g2, g3.trans h3, fun hr => g1 (h1 hr)⟩

theorem Sim.dom {P : Program} {ρ : Ro} {H : AH} {w : World} (h : Sim P ρ H w) {b : Nat} {B : Blk} (hb : H.m b = some B) : b < H.next := by
  obtain ⟨r, _, _, _, hr, _⟩ := h.blk b B hb
  rcases Nat.lt_or_ge b H.next with hlt | hge
  · exact hlt
  · rw [h.fresh b hge] at hr; cases hr
theorem Sim.lt {P : Program} {ρ : Ro} {H : AH} {w : World} (h : Sim P ρ H w) {b : Nat} {r : RB} (hr : ρ b = some r) : b < H.next := by
  rcases Nat.lt_or_ge b H.next with hlt | hge
  · exact hlt
  · rw [h.fresh b hge] at hr; cases hr
theorem Out.le {P : Program} {ρ ρ' : Ro} {H H' : AH} {w w' : World} (h : Sim P ρ H w) (o : Out P ρ H w ρ' H' w') : ρ.le ρ' := fun b r hb => (o.same b (h.lt hb)).trans hb

theorem Sim.drew {P : Program} {ρ : Ro} {H : AH} {w : World} (h : Sim P ρ H w) (n : Nat) : Sim P ρ H { w with drawn := n } := ⟨h.blk, h.inj, h.fresh, h.glob⟩
theorem Out.drew {P : Program} {ρ : Ro} {H : AH} {w : World} (h : Sim P ρ H w) (n : Nat) : Out P ρ H w ρ H { w with drawn := n } :=
  ⟨fun _ _ => rfl, Nat.le_refl _, h.drew n, rfl, rfl, rfl, Nat.le_refl _, fun _ _ _ => rfl, fun b B r hb hρ _ => ⟨b, B, r, hb, hρ, rfl, id⟩⟩

end Go.Ri
