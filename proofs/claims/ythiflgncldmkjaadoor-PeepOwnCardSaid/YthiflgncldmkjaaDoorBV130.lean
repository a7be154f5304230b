/- Part 0 of the proof that: What is handed in stays as it is (PeepOwn): for every input the law returns true, and the input reads as it did. Condition: the two tables of package code start as the program's text lays them (the row's own). -/
import Derived.Calls
import Derived.Orders
import Derived.Scope
import Derived.Laws.Sem
import Derived.Laws.World
import Derived.Laws.CopyRow
import Derived.Laws.Cells
import Derived.KernelRfl
import Derived.Laws.Build
import Derived.Laws.Tables
import Derived.Laws.StructEq
import Derived.Laws.BytesArg
import Derived.Laws.AppendOwn
set_option linter.unusedVariables false
set_option linter.unusedSimpArgs false
namespace Go.Ri

structure RB where
  blk : Nat
  base : Nat
  lim : Nat

abbrev Ro := Nat → Option RB

inductive Cap where
  | kn (c : Nat)
  | op (sz : Nat)
  deriving DecidableEq
def Cap.known : Cap → Option Nat
  | .kn c => some c
  | .op _ => none

inductive AV where
  | bool (b : Bool)
  | int (k : IntKind) (n : Int)
  | str (s : ByteArray)
  | ptr (a : Option (Nat × Nat))
  | slice (a : Option (Nat × Nat)) (len : Nat) (cap : Cap)
  | empty   -- a slice without elements, lying nobody knows where
  | func (f : Nat) (cs : List AV)
  | nilFunc
  | agg (cs : List AV)
  | tuple (vs : List AV)
  | other (v : Value)
  deriving Inhabited

def AV.isOne : AV → Bool
  | .agg _ | .tuple _ => false
  | .other v => v.oneCell'
  | _ => true

def cAddr (ρ : Ro) : Option (Nat × Nat) → Option (Option Addr)
  | none => some none
  | some (b, o) => (ρ b).map fun r => some ⟨r.blk, r.base + o, none⟩

def cCap (ρ : Ro) (a : Option (Nat × Nat)) : Cap → Option Nat
  | .kn c => some c
  | .op sz => match a with
    | some (b, o) => (ρ b).map fun r => (r.lim - o) / sz
    | none => none

mutual
def rel (ρ : Ro) : AV → Value → Prop
  | .bool b => fun v => v = .bool b
  | .int k n => fun v => v = .int k n
  | .str s => fun v => v = .string s
  | .ptr a => fun v => ∃ x, cAddr ρ a = some x ∧ v = .pointer x
  | .slice a n c => fun v => ∃ x y, cAddr ρ a = some x ∧ cCap ρ a c = some y ∧ n ≤ y ∧ v = .slice x n y
  | .empty => fun v => ∃ a c, v = .slice (some a) 0 c
  | .func f cs => fun v => ∃ vs, relL ρ cs vs ∧ v = .func (.func f) #[] vs.toArray
  | .nilFunc => fun v => v = .nilFunc
  | .agg cs => fun v => cs.all AV.isOne = true ∧ ∃ vs, relL ρ cs vs ∧ v = .agg vs.toArray
  | .tuple cs => fun v => ∃ vs, relL ρ cs vs ∧ v = .tuple vs.toArray
  | .other u => fun v => v = u
def relL (ρ : Ro) : List AV → List Value → Prop
  | [] => fun vs => vs = []
  | c :: cs => fun vs => ∃ v us, rel ρ c v ∧ relL ρ cs us ∧ vs = v :: us
end
def Ro.le (ρ ρ' : Ro) : Prop := ∀ b r, ρ b = some r → ρ' b = some r
theorem Ro.le.refl (ρ : Ro) : ρ.le ρ := fun _ _ h => h
theorem Ro.le.trans {ρ ρ' ρ'' : Ro} (h : ρ.le ρ') (k : ρ'.le ρ'') : ρ.le ρ'' := fun _ _ hb => k _ _ (h _ _ hb)

theorem cAddr_mono {ρ ρ' : Ro} (h : ρ.le ρ') {a x} (ha : cAddr ρ a = some x) : cAddr ρ' a = some x := by
  cases a with
  | none => exact ha
  | some p =>
    obtain ⟨b, o⟩ := p
    simp only [cAddr, Option.map_eq_some_iff] at ha ⊢
    obtain ⟨r, hr, rfl⟩ := ha
    exact ⟨r, h _ _ hr, rfl⟩
theorem cCap_mono {ρ ρ' : Ro} (h : ρ.le ρ') {a c x} (ha : cCap ρ a c = some x) : cCap ρ' a c = some x := by
  cases c with
  | kn c => exact ha
  | op sz =>
    cases a with
    | none => simp [cCap] at ha
    | some p =>
      obtain ⟨b, o⟩ := p
      simp only [cCap, Option.map_eq_some_iff] at ha ⊢
      obtain ⟨r, hr, rfl⟩ := ha
      exact ⟨r, h _ _ hr, rfl⟩

mutual
theorem rel_mono {ρ ρ' : Ro} (h : ρ.le ρ') : ∀ (c : AV) {v}, rel ρ c v → rel ρ' c v
  | .bool _, _, e => by simpa [rel] using e
  | .int _ _, _, e => by simpa [rel] using e
  | .str _, _, e => by simpa [rel] using e
  | .ptr a, v, e => by
    simp only [rel] at e ⊢
    obtain ⟨x, hx, rfl⟩ := e
    exact ⟨x, cAddr_mono h hx, rfl⟩
  | .slice a n c, v, e => by
    simp only [rel] at e ⊢
    obtain ⟨x, y, hx, hy, hn, rfl⟩ := e
    exact ⟨x, y, cAddr_mono h hx, cCap_mono h hy, hn, rfl⟩
  | .empty, _, e => by simpa [rel] using e
  | .func f cs, v, e => by
    simp only [rel] at e ⊢
    obtain ⟨x, hx, rfl⟩ := e
    exact ⟨x, relL_mono h cs hx, rfl⟩
  | .nilFunc, _, e => by simpa [rel] using e
  | .agg cs, v, e => by
    simp only [rel] at e ⊢
    obtain ⟨h1, x, hx, rfl⟩ := e
    exact ⟨h1, x, relL_mono h cs hx, rfl⟩
  | .tuple cs, v, e => by
    simp only [rel] at e ⊢
    obtain ⟨x, hx, rfl⟩ := e
    exact ⟨x, relL_mono h cs hx, rfl⟩
  | .other _, _, e => by simpa [rel] using e
theorem relL_mono {ρ ρ' : Ro} (h : ρ.le ρ') : ∀ (cs : List AV) {vs}, relL ρ cs vs → relL ρ' cs vs
  | [], _, e => by simpa [relL] using e
  | c :: cs, vs, e => by
    simp only [relL] at e ⊢
    obtain ⟨x, y, hx, hy, rfl⟩ := e
    exact ⟨x, y, rel_mono h c hx, relL_mono h cs hy, rfl⟩
end
theorem relL_nil (ρ : Ro) : relL ρ [] [] := by simp [relL]
theorem relL_cons {ρ : Ro} {c : AV} {cs : List AV} {v vs} (h : rel ρ c v) (k : relL ρ cs vs) : relL ρ (c :: cs) (v :: vs) := by
  simp only [relL]; exact ⟨v, vs, h, k, rfl⟩
theorem relL_one {ρ : Ro} {c : AV} {v} (h : rel ρ c v) : relL ρ [c] [v] := relL_cons h (relL_nil ρ)
theorem relL_length {ρ : Ro} : ∀ {cs : List AV} {vs}, relL ρ cs vs → vs.length = cs.length
  | [], vs, h => by simp [relL] at h; subst h; rfl
  | c :: cs, vs, h => by
    simp only [relL] at h
    obtain ⟨x, y, _, hy, rfl⟩ := h
    simp [relL_length hy]
theorem relL_get {ρ : Ro} : ∀ {cs : List AV} {vs : List Value}, relL ρ cs vs → ∀ (i : Nat) (c : AV), cs[i]? = some c → ∃ v, rel ρ c v ∧ vs[i]? = some v
  | [], vs, h, i, c, hi => by simp at hi
  | d :: cs, vs, h, i, c, hi => by
    simp only [relL] at h
    obtain ⟨x, y, hx, hy, rfl⟩ := h
    cases i with
    | zero => simp at hi; subst hi; exact ⟨x, hx, by simp⟩
    | succ i => simpa using relL_get hy i c (by simpa using hi)
theorem relL_append {ρ : Ro} : ∀ {cs ds : List AV} {vs us}, relL ρ cs vs → relL ρ ds us → relL ρ (cs ++ ds) (vs ++ us)
  | [], ds, vs, us, h, k => by simp [relL] at h; subst h; simpa using k
  | c :: cs, ds, vs, us, h, k => by
    simp only [relL] at h
    obtain ⟨x, y, hx, hy, rfl⟩ := h
    exact relL_cons hx (relL_append hy k)
theorem relL_take {ρ : Ro} : ∀ (n : Nat) {cs : List AV} {vs}, relL ρ cs vs → relL ρ (cs.take n) (vs.take n)
  | 0, cs, vs, h => by simp [relL]
  | n + 1, [], vs, h => by simp [relL] at h; subst h; simp [relL]
  | n + 1, c :: cs, vs, h => by
    simp only [relL] at h
    obtain ⟨x, y, hx, hy, rfl⟩ := h
    exact relL_cons hx (relL_take n hy)
theorem relL_drop {ρ : Ro} : ∀ (n : Nat) {cs : List AV} {vs}, relL ρ cs vs → relL ρ (cs.drop n) (vs.drop n)
  | 0, cs, vs, h => by simpa using h
  | n + 1, [], vs, h => by simp [relL] at h; subst h; simp [relL]
  | n + 1, c :: cs, vs, h => by
    simp only [relL] at h
    obtain ⟨x, y, hx, hy, rfl⟩ := h
    simpa using relL_drop n hy
theorem relL_mem {ρ : Ro} {cs : List AV} {vs} (h : relL ρ cs vs) {v} (hv : v ∈ vs) : ∃ c ∈ cs, rel ρ c v := by
  obtain ⟨i, hi⟩ := List.mem_iff_getElem?.1 hv
  have hl := relL_length h
  have hlt : i < cs.length := by
    rw [← hl]
    exact (List.getElem?_eq_some_iff.1 hi).1
  obtain ⟨v', hv', hi'⟩ := relL_get h i cs[i] (List.getElem?_eq_getElem hlt)
  rw [hi] at hi'
  cases hi'
  exact ⟨cs[i], List.getElem_mem _, hv'⟩
theorem oneCell_of_isOne {ρ : Ro} {c : AV} {v} (h : rel ρ c v) (h1 : c.isOne = true) : v.oneCell' = true := by
  cases c <;> simp [AV.isOne] at h1 <;> simp only [rel] at h
  case bool => subst h; rfl
  case int => subst h; rfl
  case str => subst h; rfl
  case ptr => obtain ⟨_, _, rfl⟩ := h; rfl
  case slice => obtain ⟨_, _, _, _, _, rfl⟩ := h; rfl
  case empty => obtain ⟨_, _, rfl⟩ := h; rfl
  case func => obtain ⟨_, _, rfl⟩ := h; rfl
  case nilFunc => subst h; rfl
  case other => subst h; exact h1

structure Blk where
  cells : List AV
  elem : TypeId
  rw_ : Bool

structure AH where
  m : Nat → Option Blk
  next : Nat

def setM (m : Nat → Option Blk) (b : Nat) (x : Option Blk) : Nat → Option Blk := fun i => if i = b then x else m i
theorem setM_same (m : Nat → Option Blk) (b : Nat) (x : Option Blk) : setM m b x b = x := by simp [setM]
theorem setM_other (m : Nat → Option Blk) {b i : Nat} (x : Option Blk) (h : i ≠ b) : setM m b x i = m i := by simp [setM, h]

structure Sim (P : Program) (ρ : Ro) (H : AH) (w : World) : Prop where
  blk : ∀ b B, H.m b = some B → ∃ r cs fr vs, ρ b = some r ∧ w.heap[r.blk]? = some (.cells cs B.elem fr) ∧ r.base + r.lim = cs.size ∧
    (B.rw_ = true → fr = (0, 0)) ∧ relL ρ B.cells vs ∧ vs.length ≤ r.lim ∧ (∀ i v, vs[i]? = some v → cs[r.base + i]? = some v) ∧
    B.cells.all AV.isOne = true
  inj : ∀ b b' B B' r r', H.m b = some B → H.m b' = some B' → (B.rw_ = true ∨ B'.rw_ = true) → ρ b = some r → ρ b' = some r' → r.blk = r'.blk → b = b'
  fresh : ∀ b, H.next ≤ b → ρ b = none
  glob : ∀ g, g < P.globals.size → ∃ l, ρ g = some ⟨g, 0, l⟩

structure Out (P : Program) (ρ : Ro) (H : AH) (w : World) (ρ' : Ro) (H' : AH) (w' : World) : Prop where
  same : ∀ b, b < H.next → ρ' b = ρ b
  next : H.next ≤ H'.next
  sim : Sim P ρ' H' w'
  os : w'.os = w.os
  tape : w'.tape = w.tape
  output : w'.output = w.output
  size : w.heap.size ≤ w'.heap.size
  keep : ∀ i, i < w.heap.size → (∀ b B r, H.m b = some B → B.rw_ = true → ρ b = some r → r.blk ≠ i) → w'.heap[i]? = w.heap[i]?
  own : ∀ b B r, H'.m b = some B → ρ' b = some r → r.blk < w.heap.size → ∃ b0 B0 r0, H.m b0 = some B0 ∧ ρ b0 = some r0 ∧ r0.blk = r.blk ∧ (B.rw_ = true → B0.rw_ = true)

theorem Out.refl {P : Program} {ρ : Ro} {H : AH} {w : World} (h : Sim P ρ H w) : Out P ρ H w ρ H w :=
  ⟨fun _ _ => rfl, Nat.le_refl _, h, rfl, rfl, rfl, Nat.le_refl _, fun _ _ _ => rfl, fun b B r hb hρ _ => ⟨b, B, r, hb, hρ, rfl, id⟩⟩

theorem Out.trans {P : Program} {ρ ρ₁ ρ₂ : Ro} {H H₁ H₂ : AH} {w w₁ w₂ : World} (h : Out P ρ H w ρ₁ H₁ w₁) (k : Out P ρ₁ H₁ w₁ ρ₂ H₂ w₂) : Out P ρ H w ρ₂ H₂ w₂ := by
  refine ⟨fun b hb => (k.same b (Nat.lt_of_lt_of_le hb h.next)).trans (h.same b hb), Nat.le_trans h.next k.next, k.sim, k.os.trans h.os, k.tape.trans h.tape, k.output.trans h.output, Nat.le_trans h.size k.size, fun i hi hf => ?_, fun b B r hb hρ hlt => ?_⟩
  · rw [k.keep i (Nat.lt_of_lt_of_le hi h.size) ?_, h.keep i hi hf]
    intro b B r hb hr hρ he
    obtain ⟨b0, B0, r0, h0, h2, h3, h1⟩ := h.own b B r hb hρ (by rw [he]; exact hi)
    exact hf b0 B0 r0 h0 (h1 hr) h2 (h3.trans he)
  · obtain ⟨b0, B0, r0, h0, h2, h3, h1⟩ := k.own b B r hb hρ (Nat.lt_of_lt_of_le hlt h.size)
    obtain ⟨b1, B1, r1, g0, g2, g3, g1⟩ := h.own b0 B0 r0 h0 h2 (by rw [h3]; exact hlt)
    exact ⟨b1, B1, r1, g0, g2, g3.trans h3, fun hr => g1 (h1 hr)⟩

theorem Sim.dom {P : Program} {ρ : Ro} {H : AH} {w : World} (h : Sim P ρ H w) {b : Nat} {B : Blk} (hb : H.m b = some B) : b < H.next := by
  obtain ⟨r, _, _, _, hr, _⟩ := h.blk b B hb
  rcases Nat.lt_or_ge b H.next with hlt | hge
  · exact hlt
  · rw [h.fresh b hge] at hr; cases hr
theorem Sim.lt {P : Program} {ρ : Ro} {H : AH} {w : World} (h : Sim P ρ H w) {b : Nat} {r : RB} (hr : ρ b = some r) : b < H.next := by
  rcases Nat.lt_or_ge b H.next with hlt | hge
  · exact hlt
  · rw [h.fresh b hge] at hr; cases hr
theorem Out.le {P : Program} {ρ ρ' : Ro} {H H' : AH} {w w' : World} (h : Sim P ρ H w) (o : Out P ρ H w ρ' H' w') : ρ.le ρ' := fun b r hb => (o.same b (h.lt hb)).trans hb

theorem Sim.drew {P : Program} {ρ : Ro} {H : AH} {w : World} (h : Sim P ρ H w) (n : Nat) : Sim P ρ H { w with drawn := n } := ⟨h.blk, h.inj, h.fresh, h.glob⟩
theorem Out.drew {P : Program} {ρ : Ro} {H : AH} {w : World} (h : Sim P ρ H w) (n : Nat) : Out P ρ H w ρ H { w with drawn := n } :=
  ⟨fun _ _ => rfl, Nat.le_refl _, h.drew n, rfl, rfl, rfl, Nat.le_refl _, fun _ _ _ => rfl, fun b B r hb hρ _ => ⟨b, B, r, hb, hρ, rfl, id⟩⟩

end Go.Ri
set_option linter.unusedVariables false
set_option linter.unusedSimpArgs false
namespace Go.Ri

def AH.ld (H : AH) (p : Nat × Nat) : Option AV := (H.m p.1).bind fun B => B.cells[p.2]?
def AH.ldN (H : AH) (p : Nat × Nat) (n : Nat) : Option (List AV) :=
  (H.m p.1).bind fun B => if p.2 + n ≤ B.cells.length then some ((B.cells.drop p.2).take n) else none
def AH.st (H : AH) (p : Nat × Nat) (vs : List AV) : Option AH :=
  (H.m p.1).bind fun B => if B.rw_ = true ∧ p.2 + vs.length ≤ B.cells.length then
    some { H with m := setM H.m p.1 (some { B with cells := B.cells.take p.2 ++ vs ++ B.cells.drop (p.2 + vs.length) }) } else none
def AH.new (H : AH) (cells : List AV) (elem : TypeId) : AH := { m := setM H.m H.next (some ⟨cells, elem, true⟩), next := H.next + 1 }
def AH.kill (H : AH) (b : Nat) : AH := { H with m := setM H.m b none }

theorem add_at (g o j : Nat) : (⟨g, o, none⟩ : Addr).add j = ⟨g, o + j, none⟩ := by unfold Addr.add; split <;> simp_all

section
variable {P : Program} {ρ : Ro} {H : AH} {w : World}

theorem ld_sound (h : Sim P ρ H w) {b o : Nat} {c : AV} (hl : H.ld (b, o) = some c) :
    ∃ r v, ρ b = some r ∧ rel ρ c v ∧ w.cell? ⟨r.blk, r.base + o, none⟩ = some v ∧ c.isOne = true := by
  simp only [AH.ld, Option.bind_eq_some_iff] at hl
  obtain ⟨B, hB, hc⟩ := hl
  obtain ⟨r, cs, fr, vs, hr, hw, hs, hf, hv, hvl, hcs, h1⟩ := h.blk b B hB
  obtain ⟨v, hcv, hi⟩ := relL_get hv o c hc
  refine ⟨r, v, hr, hcv, ?_, ?_⟩
  · simp only [World.cell?, hw]
    simpa using hcs o v hi
  · exact List.all_eq_true.1 h1 c (List.mem_of_getElem? hc)

theorem ldN_sound (h : Sim P ρ H w) {b o n : Nat} {cs : List AV} (hl : H.ldN (b, o) n = some cs) :
    ∃ r vs, ρ b = some r ∧ relL ρ cs vs ∧ vs.length = n ∧ cs.length = n ∧ cs.all AV.isOne = true ∧
      (∀ j v, vs[j]? = some v → w.cell? ((⟨r.blk, r.base + o, none⟩ : Addr).add j) = some v) := by
  simp only [AH.ldN, Option.bind_eq_some_iff] at hl
  obtain ⟨B, hB, hc⟩ := hl
  split at hc
  · rename_i hle
    cases hc
    obtain ⟨r, cs, fr, vs, hr, hw, hs, hf, hv, hvl, hcs, h1⟩ := h.blk b B hB
    have hlen := relL_length hv
    refine ⟨r, (vs.drop o).take n, hr, relL_take n (relL_drop o hv), by simp; omega, by simp; omega, ?_, fun j v hj => ?_⟩
    · rw [List.all_eq_true] at h1 ⊢
      exact fun c hc => h1 c (List.mem_of_mem_drop (List.mem_of_mem_take hc))
    · rw [add_at]
      simp only [World.cell?, hw]
      rw [List.getElem?_take] at hj
      split at hj
      · rw [List.getElem?_drop] at hj
        have := hcs (o + j) v hj
        simpa [Nat.add_assoc] using this
      · cases hj
  · cases hc

theorem run_loadN (h : Sim P ρ H w) {b o n : Nat} {cs : List AV} (hl : H.ldN (b, o) n = some cs) :
    ∃ r vs, ρ b = some r ∧ relL ρ cs vs ∧ cs.length = n ∧ cs.all AV.isOne = true ∧ (loadCells ⟨r.blk, r.base + o, none⟩ n).run P w = .ok vs.toArray w := by
  obtain ⟨r, vs, hr, hc, hn, hn', h1, hcell⟩ := ldN_sound h hl
  refine ⟨r, vs, hr, hc, hn', h1, ?_⟩
  rw [← hn]
  exact run_loadCells_list w _ vs hcell

theorem getElem?_setRow (w : World) (g : Nat) (arr : Array Value) (i : Nat) (hne : i ≠ g) : (w.setRow g arr).heap[i]? = w.heap[i]? := by
  simp [World.setRow, Array.getElem?_modify, Ne.symm hne]

theorem st_sound (h : Sim P ρ H w) {b o : Nat} {vs : List AV} {H' : AH} (hst : H.st (b, o) vs = some H') {us : List Value} (hu : relL ρ vs us) (h1 : vs.all AV.isOne = true) :
    ∃ r w', ρ b = some r ∧ (storeCells ⟨r.blk, r.base + o, none⟩ us).run P w = .ok () w' ∧ Out P ρ H w ρ H' w' := by
  simp only [AH.st, Option.bind_eq_some_iff] at hst
  obtain ⟨B, hB, hc⟩ := hst
  split at hc
  · rename_i hle
    obtain ⟨hrw, hle⟩ := hle
    cases hc
    obtain ⟨r, cs, fr, ws, hr, hw, hs, hf, hv, hvl, hcs, hall⟩ := h.blk b B hB
    have hfr := hf hrw
    subst hfr
    have hlen := relL_length hv
    have hul := relL_length hu
    have hone : ∀ v ∈ us, v.oneCell' = true := fun v hvm => by
      obtain ⟨c, hc, hcv⟩ := relL_mem hu hvm
      exact oneCell_of_isOne hcv (List.all_eq_true.1 h1 c hc)
    have hrun := run_storeCells_at P r.blk (r.base + o) B.elem us 0 cs w hw (by omega) hone
    refine ⟨r, _, hr, hrun, ?_⟩
    have hlt : r.blk < w.heap.size := (Array.getElem?_eq_some_iff.1 hw).1
    have hself := setRow_heap w r.blk cs (cs.toList.take (r.base + o + 0) ++ us ++ cs.toList.drop (r.base + o + 0 + us.length)).toArray B.elem (0, 0) hw
    have hnew : relL ρ (B.cells.take o ++ vs ++ B.cells.drop (o + vs.length)) (ws.take o ++ us ++ ws.drop (o + us.length)) := by
      rw [hul]
      exact relL_append (relL_append (relL_take o hv) hu) (relL_drop _ hv)
    refine ⟨fun _ _ => rfl, Nat.le_refl _, ⟨fun b' B' hB' => ?_, ?_, h.fresh, h.glob⟩, rfl, rfl, rfl, by simp [World.setRow], fun i hi hfoot => ?_, ?_⟩
    · by_cases hbb : b' = b
      · subst hbb
        simp only [setM_same] at hB'
        cases hB'
        refine ⟨r, _, _, _, hr, hself, ?_, fun _ => rfl, hnew, ?_, fun i v hi => ?_, ?_⟩
        · simp; omega
        · simp; omega
        · simp only [List.getElem?_toArray]
          have hcl : cs.toList.length = cs.size := by simp
          rw [List.append_assoc, List.getElem?_append] at hi ⊢
          simp only [List.length_take, List.length_append, Nat.add_zero] at hi ⊢
          have e1 : min o ws.length = o := by omega
          have e2 : min (r.base + o) cs.toList.length = r.base + o := by omega
          rw [e1] at hi
          rw [e2]
          by_cases ho : i < o
          · rw [if_pos ho, List.getElem?_take, if_pos ho] at hi
            rw [if_pos (by omega), List.getElem?_take, if_pos (by omega)]
            simpa using hcs i v hi
          · rw [if_neg ho] at hi
            rw [if_neg (by omega)]
            rw [List.getElem?_append] at hi ⊢
            by_cases hu' : i - o < us.length
            · rw [if_pos hu'] at hi
              rw [if_pos (by omega)]
              rw [show r.base + i - (r.base + o) = i - o by omega]
              exact hi
            · rw [if_neg hu', List.getElem?_drop] at hi
              rw [if_neg (by omega), List.getElem?_drop]
              have := hcs _ v hi
              rw [show r.base + o + us.length + (r.base + i - (r.base + o) - us.length) = r.base + (o + us.length + (i - o - us.length)) by omega]
              simpa using this
        · simp only [List.all_append, Bool.and_eq_true]
          rw [List.all_eq_true] at hall
          refine ⟨⟨?_, h1⟩, ?_⟩
          · rw [List.all_eq_true]; exact fun c hc => hall c (List.mem_of_mem_take hc)
          · rw [List.all_eq_true]; exact fun c hc => hall c (List.mem_of_mem_drop hc)
      · simp only [setM_other _ _ hbb] at hB'
        obtain ⟨r', cs', fr', vs', g1, g2, g3⟩ := h.blk b' B' hB'
        refine ⟨r', cs', fr', vs', g1, ?_, g3⟩
        rw [getElem?_setRow]
        · exact g2
        · exact fun e => hbb (h.inj b' b B' B r' r hB' hB (.inr hrw) g1 hr e)
    · intro b1 b2 B1 B2 r1 r2 h1' h2' hor g1 g2 he
      have hs : ∀ b' B', setM H.m b (some { B with cells := B.cells.take o ++ vs ++ B.cells.drop (o + vs.length) }) b' = some B' → ∃ B0, H.m b' = some B0 ∧ B0.rw_ = B'.rw_ := by
        intro b' B' hh
        by_cases hbb : b' = b
        · subst hbb; rw [setM_same] at hh; cases hh; exact ⟨B, hB, rfl⟩
        · rw [setM_other _ _ hbb] at hh; exact ⟨B', hh, rfl⟩
      obtain ⟨C1, k1, q1⟩ := hs b1 B1 h1'
      obtain ⟨C2, k2, q2⟩ := hs b2 B2 h2'
      exact h.inj b1 b2 C1 C2 r1 r2 k1 k2 (by rw [q1, q2]; exact hor) g1 g2 he
    · rw [getElem?_setRow]
      exact fun e => hfoot b B r hB hrw hr e.symm
    · intro b' B' r' hb' hr' hlt'
      by_cases hbb : b' = b
      · subst hbb
        exact ⟨b', B, r', hB, hr', rfl, fun _ => hrw⟩
      · simp only [setM_other _ _ hbb] at hb'
        exact ⟨b', B', r', hb', hr', rfl, id⟩
  · cases hc

def AH.put (H : AH) (id : Nat) (B : Blk) : AH := { H with m := setM H.m id (some B) }
theorem newAt_sound (h : Sim P ρ H w) {id : Nat} {cells : List AV} {elem : TypeId} {us more : List Value} (hid : ρ id = none) (hin : id < H.next) (hu : relL ρ cells us) (h1 : cells.all AV.isOne = true) :
    (Ro.le ρ (fun b => if b = id then some ⟨w.heap.size, 0, (us ++ more).length⟩ else ρ b)) ∧
    Sim P (fun b => if b = id then some ⟨w.heap.size, 0, (us ++ more).length⟩ else ρ b) (H.put id ⟨cells, elem, true⟩) (w.alloc (.cells (us ++ more).toArray elem)) := by
  have hle : Ro.le ρ (fun b => if b = id then some ⟨w.heap.size, 0, (us ++ more).length⟩ else ρ b) := by
    intro b r hb
    have : b ≠ id := fun e => by
      subst e
      rw [hid] at hb
      cases hb
    simp [this, hb]
  have hlt : ∀ b B r, H.m b = some B → ρ b = some r → r.blk < w.heap.size := fun b B r hb hr => by
    obtain ⟨r', cs', fr', vs', g1, g2, g3⟩ := h.blk b B hb
    rw [hr] at g1
    cases g1
    exact (Array.getElem?_eq_some_iff.1 g2).1
  refine ⟨hle, ⟨fun b B hB => ?_, ?_, fun b hb => ?_, fun g hg => ?_⟩⟩
  · by_cases hbb : b = id
    · subst hbb
      simp only [AH.put, setM_same] at hB
      cases hB
      refine ⟨⟨w.heap.size, 0, (us ++ more).length⟩, (us ++ more).toArray, (0, 0), us, by simp, ?_, by simp, fun _ => rfl, relL_mono hle _ hu, by simp, fun i v hi => ?_, h1⟩
      · simp only [World.alloc]
        simp
      · simp only [Nat.zero_add, List.getElem?_toArray]
        rw [List.getElem?_append_left (List.getElem?_eq_some_iff.1 hi).1]
        exact hi
    · simp only [AH.put, setM_other _ _ hbb] at hB
      obtain ⟨r', cs', fr', vs', g1, g2, g3, g4, g5, g6⟩ := h.blk b B hB
      refine ⟨r', cs', fr', vs', hle _ _ g1, ?_, g3, g4, relL_mono hle _ g5, g6⟩
      have := (Array.getElem?_eq_some_iff.1 g2).1
      simp only [World.alloc, Array.getElem?_push]
      rw [if_neg (by omega)]
      exact g2
  · intro b1 b2 B1 B2 r1 r2 hb1 hb2 hor g1 g2 he
    by_cases e1 : b1 = id <;> by_cases e2 : b2 = id
    · rw [e1, e2]
    · subst e1
      simp only [AH.put, setM_other _ _ e2] at hb2
      simp only [e2, if_false, if_true] at g1 g2
      cases g1
      have := hlt b2 B2 r2 hb2 g2
      simp at he
      omega
    · subst e2
      simp only [AH.put, setM_other _ _ e1] at hb1
      simp only [e1, if_false, if_true] at g1 g2
      cases g2
      have := hlt b1 B1 r1 hb1 g1
      simp at he
      omega
    · simp only [AH.put, setM_other _ _ e1, setM_other _ _ e2] at hb1 hb2
      simp only [e1, e2, if_false] at g1 g2
      exact h.inj b1 b2 B1 B2 r1 r2 hb1 hb2 hor g1 g2 he
  · simp only [AH.put] at hb
    have : b ≠ id := by omega
    simp only [this, if_false]
    exact h.fresh b hb
  · obtain ⟨l, hg'⟩ := h.glob g hg
    exact ⟨l, hle _ _ hg'⟩

theorem Sim.more (h : Sim P ρ H w) {n : Nat} (hn : H.next ≤ n) : Sim P ρ { H with next := n } w := ⟨h.blk, h.inj, fun b hb => h.fresh b (Nat.le_trans hn hb), h.glob⟩

theorem new_sound (h : Sim P ρ H w) {cells : List AV} {elem : TypeId} {us more : List Value} (hu : relL ρ cells us) (h1 : cells.all AV.isOne = true) :
    Out P ρ H w (fun b => if b = H.next then some ⟨w.heap.size, 0, (us ++ more).length⟩ else ρ b) (H.new cells elem) (w.alloc (.cells (us ++ more).toArray elem)) := by
  have hm := h.more (Nat.le_succ H.next)
  obtain ⟨hle, hs⟩ := newAt_sound (elem := elem) (more := more) hm (h.fresh _ (Nat.le_refl _)) (Nat.lt_succ_self _) hu h1
  refine ⟨fun b hb => by simp [Nat.ne_of_lt hb], Nat.le_succ _, hs, rfl, rfl, rfl, by simp, fun i hi _ => ?_, ?_⟩
  · simp only [World.alloc, Array.getElem?_push]
    rw [if_neg (by omega)]
  · intro b B r hb hr hl
    by_cases e1 : b = H.next
    · subst e1
      simp only [if_true] at hr
      cases hr
      simp at hl
    · simp only [AH.new, setM_other _ _ e1] at hb
      simp only [e1, if_false] at hr
      exact ⟨b, B, r, hb, hr, rfl, id⟩

theorem Sim.sub (h : Sim P ρ H w) {H' : AH} (hn : H'.next = H.next) (hs : ∀ b B, H'.m b = some B → H.m b = some B) : Sim P ρ H' w :=
  ⟨fun b B hB => h.blk b B (hs _ _ hB), fun b1 b2 B1 B2 r1 r2 h1 h2 => h.inj b1 b2 B1 B2 r1 r2 (hs _ _ h1) (hs _ _ h2), fun b hb => h.fresh b (by omega), h.glob⟩
end
end Go.Ri
set_option linter.unusedVariables false
set_option linter.unusedSimpArgs false
namespace Go.Ri

theorem info_of {P : Program} {t : TypeId} {d : TypeDesc} (h : P.underlying t = some d) : ∃ i, P.info? t = some i := by
  cases hi : P.info? t with
  | none => simp [Program.underlying, hi] at h
  | some i => exact ⟨i, rfl⟩
theorem run_typeInfo {P : Program} {t : TypeId} {i : TypeInfo} (h : P.info? t = some i) (w : World) : (typeInfo t).run P w = .ok i w := by simp [typeInfo, h]
theorem run_sizeOf {P : Program} {t : TypeId} {i : TypeInfo} (h : P.info? t = some i) (w : World) : (sizeOf t).run P w = .ok i.size w := by simp [sizeOf, typeInfo, h]
theorem cellsOf_of {P : Program} {t : TypeId} {i : TypeInfo} (h : P.info? t = some i) : P.cellsOf t = i.size := by simp [Program.cellsOf, h]
theorem run_size' {P : Program} {t : TypeId} (h : (P.info? t).isSome = true) (w : World) : (sizeOf t).run P w = .ok (P.cellsOf t) w := by
  obtain ⟨i, hi⟩ := Option.isSome_iff_exists.1 h
  rw [run_sizeOf hi, cellsOf_of hi]

def aggO (P : Program) (t : TypeId) : Option Bool :=
  match P.underlying t with
  | some (.struct _) => some true
  | some (.array _ _) => some true
  | some _ => some false
  | none => none
theorem run_isAgg {P : Program} {t : TypeId} {b : Bool} (h : aggO P t = some b) (w : World) : (isAgg t).run P w = .ok b w := by
  unfold aggO at h
  cases hd : P.underlying t with
  | none => simp [hd] at h
  | some d =>
    simp only [hd] at h
    cases d <;> simp at h <;> subst h <;> simp [isAgg, run_underlying hd]
theorem aggO_info {P : Program} {t : TypeId} {b : Bool} (h : aggO P t = some b) : (P.info? t).isSome = true := by
  unfold aggO at h
  cases hd : P.underlying t with
  | none => simp [hd] at h
  | some d => obtain ⟨i, hi⟩ := info_of hd; simp [hi]

def absC1 : Value → Option AV
  | .bool b => some (.bool b)
  | .int k n => some (.int k n)
  | .string s => some (.str s)
  | .pointer none => some (.ptr none)
  | .slice none n c => if n ≤ c then some (.slice none n (.kn c)) else none
  | .nilFunc => some .nilFunc
  | _ => none
def absL : List Value → Option (List AV)
  | [] => some []
  | v :: vs => (absC1 v).bind fun c => (absL vs).map fun cs => c :: cs
def absC : Value → Option AV
  | .agg cs => (absL cs.toList).map .agg
  | .tuple vs => (absL vs.toList).map .tuple
  | v => absC1 v
theorem absC1_rel {ρ : Ro} {v : Value} {c : AV} (h : absC1 v = some c) : rel ρ c v ∧ c.isOne = true := by
  unfold absC1 at h
  split at h <;> (try split at h) <;> cases h <;> simp_all [rel, AV.isOne, cAddr, cCap]
theorem absL_rel {ρ : Ro} : ∀ {vs : List Value} {cs : List AV}, absL vs = some cs → relL ρ cs vs ∧ cs.all AV.isOne = true
  | [], cs, h => by simp [absL] at h; subst h; simp [relL]
  | v :: vs, cs, h => by
    simp only [absL, Option.bind_eq_some_iff, Option.map_eq_some_iff] at h
    obtain ⟨c, hc, ds, hd, rfl⟩ := h
    have h1 := absC1_rel (ρ := ρ) hc
    have h2 := absL_rel (ρ := ρ) hd
    refine ⟨relL_cons h1.1 h2.1, ?_⟩
    simp only [List.all_cons, h1.2, h2.2, Bool.and_self]
theorem absC_rel {ρ : Ro} {v : Value} {c : AV} (h : absC v = some c) : rel ρ c v := by
  unfold absC at h
  split at h
  · simp only [Option.map_eq_some_iff] at h
    obtain ⟨cs, hc, rfl⟩ := h
    have := absL_rel (ρ := ρ) hc
    exact ⟨this.2, _, this.1, by simp⟩
  · simp only [Option.map_eq_some_iff] at h
    obtain ⟨cs, hc, rfl⟩ := h
    have := absL_rel (ρ := ρ) hc
    exact ⟨_, this.1, by simp⟩
  · exact (absC1_rel h).1

def AV.cells : AV → Option (List AV)
  | .agg cs => some cs
  | .tuple _ => none
  | .other v => if v.oneCell' then some [.other v] else none
  | .bool b => some [.bool b]
  | .int k n => some [.int k n]
  | .str s => some [.str s]
  | .ptr a => some [.ptr a]
  | .slice a n c => some [.slice a n c]
  | .empty => some [.empty]
  | .func f cs => some [.func f cs]
  | .nilFunc => some [.nilFunc]
theorem cells_one {v : Value} (h : v.oneCell' = true) : v.cells = #[v] := by cases v <;> simp [Value.oneCell'] at h <;> rfl
theorem cells_rel {ρ : Ro} {c : AV} {v : Value} {cs : List AV} (h : rel ρ c v) (hc : c.cells = some cs) : relL ρ cs v.cells.toList ∧ cs.all AV.isOne = true := by
  have key : c.isOne = true → cs = [c] → relL ρ cs v.cells.toList ∧ cs.all AV.isOne = true := by
    rintro h1 rfl
    rw [cells_one (oneCell_of_isOne h h1)]
    exact ⟨relL_one h, by simp [h1]⟩
  cases c with
  | agg ds =>
    simp only [AV.cells] at hc
    cases hc
    obtain ⟨h1, vs, hv, rfl⟩ := h
    exact ⟨by simpa [Value.cells] using hv, h1⟩
  | tuple vs => simp [AV.cells] at hc
  | other u =>
    simp only [AV.cells] at hc
    split at hc
    · rename_i h1
      cases hc
      exact key h1 rfl
    · cases hc
  | _ => simp only [AV.cells] at hc; cases hc; exact key rfl rfl

def ldAgg (v : AV) (n : Nat) (H : AH) : Option AV := match v with
  | .ptr (some p) => (H.ldN p n).map .agg
  | _ => none
def ldOne (v : AV) (H : AH) : Option AV := match v with
  | .ptr (some p) => H.ld p
  | _ => none
def aLoad (P : Program) (t : TypeId) (v : AV) (H : AH) : Option AV := match aggO P t with
  | some true => ldAgg v (P.cellsOf t) H
  | some false => ldOne v H
  | none => none

section
variable {P : Program} {ρ : Ro} {H : AH} {w : World}

theorem rel_ptr {p : Nat × Nat} {v' : Value} (h : rel ρ (.ptr (some p)) v') : ∃ r, ρ p.1 = some r ∧ v' = .pointer (some ⟨r.blk, r.base + p.2, none⟩) := by
  simp only [rel, cAddr, Option.map_eq_some_iff] at h
  obtain ⟨x, ⟨r, hr, rfl⟩, rfl⟩ := h
  exact ⟨r, hr, rfl⟩
theorem rel_ptr_mk {b o : Nat} {r : RB} (hr : ρ b = some r) : rel ρ (.ptr (some (b, o))) (.pointer (some ⟨r.blk, r.base + o, none⟩)) := by
  simp only [rel, cAddr, Option.map_eq_some_iff]
  exact ⟨_, ⟨r, hr, rfl⟩, rfl⟩

theorem aLoad_sound (h : Sim P ρ H w) {t : TypeId} {v c : AV} {v' : Value} (hv : rel ρ v v') (hl : aLoad P t v H = some c) :
    ∃ c', (Instr.loadAt t v').run P w = .ok c' w ∧ rel ρ c c' := by
  unfold aLoad at hl
  split at hl
  · rename_i ha
    unfold ldAgg at hl
    split at hl
    · rename_i p
      obtain ⟨r, hr, rfl⟩ := rel_ptr hv
      simp only [Option.map_eq_some_iff] at hl
      obtain ⟨cs, hcs, rfl⟩ := hl
      obtain ⟨r', vs, hr', hvs, _, h1, hrun⟩ := run_loadN h hcs
      rw [hr] at hr'
      cases hr'
      exact ⟨.agg vs.toArray, by simp [Instr.loadAt, Instr.sureAddr, loadVar, run_isAgg ha, run_size' (aggO_info ha), hrun], h1, vs, hvs, rfl⟩
    · cases hl
  · rename_i ha
    unfold ldOne at hl
    split at hl
    · rename_i p
      obtain ⟨r, hr, rfl⟩ := rel_ptr hv
      obtain ⟨r', u, hr', hc, hcell, _⟩ := ld_sound h hl
      rw [hr] at hr'
      cases hr'
      exact ⟨u, by simp [Instr.loadAt, Instr.sureAddr, loadVar, run_isAgg ha, hcell], hc⟩
    · cases hl
  · cases hl

def ptrAdd (v : AV) (n : Nat) : Option AV := match v with
  | .ptr (some (b, o)) => some (.ptr (some (b, o + n)))
  | _ => none
def aFieldAddr (P : Program) (s : TypeId) (f : Nat) (v : AV) : Option AV := match P.underlying s with
  | some (.struct fs) => match fs[f]? with
    | some fd => if (P.info? fd.type).isSome = true ∧ P.cellsOf fd.type ≠ 0 then ptrAdd v fd.offset else none
    | none => none
  | _ => none
theorem ptrAdd_sound {v c : AV} {v' : Value} {n : Nat} (hv : rel ρ v v') (h : ptrAdd v n = some c) : ∃ a : Addr, v' = .pointer (some a) ∧ rel ρ c (.pointer (some (a.add n))) := by
  unfold ptrAdd at h
  split at h
  · rename_i b o
    cases h
    obtain ⟨r, hr, rfl⟩ := rel_ptr hv
    refine ⟨_, rfl, ?_⟩
    rw [add_at]
    have := rel_ptr_mk (o := o + n) hr
    simpa [Nat.add_assoc] using this
  · cases h
theorem aFieldAddr_sound {s : TypeId} {f : Nat} {v c : AV} {v' : Value} (hv : rel ρ v v') (h : aFieldAddr P s f v = some c) :
    ∃ c', (Instr.fieldAt s v' f).run P w = .ok c' w ∧ rel ρ c c' := by
  unfold aFieldAddr at h
  split at h
  · rename_i fs hs
    split at h
    · rename_i fd hf
      split at h
      · rename_i hi
        obtain ⟨a, rfl, hc⟩ := ptrAdd_sound hv h
        exact ⟨_, by simp [Instr.fieldAt, run_underlying hs, hf, Instr.sureAddr, fieldPlace, run_size' hi.1, hi.2], hc⟩
      · cases h
    · cases h
  · cases h

def aPart (P : Program) (t : TypeId) (cs : List AV) (off : Nat) : Option AV := match aggO P t with
  | some true => if off + P.cellsOf t ≤ cs.length then some (.agg ((cs.drop off).take (P.cellsOf t))) else none
  | some false => cs[off]?
  | none => none
theorem aPart_sound {t : TypeId} {cs : List AV} {vs : List Value} {off : Nat} {c : AV} (hv : relL ρ cs vs) (h1 : cs.all AV.isOne = true) (h : aPart P t cs off = some c) :
    ∃ c', (part t vs.toArray off).run P w = .ok c' w ∧ rel ρ c c' := by
  unfold aPart at h
  split at h
  · rename_i ha
    split at h
    · rename_i hle
      cases h
      refine ⟨.agg ((vs.drop off).take (P.cellsOf t)).toArray, ?_, ?_, _, relL_take _ (relL_drop _ hv), rfl⟩
      · simp only [part, Sem.run_bind, run_isAgg ha, Result.andThen_ok, if_true, run_size' (aggO_info ha), Sem.run_pure]
        congr 2
        apply Array.ext'
        simp [List.take_drop]
      · rw [List.all_eq_true] at h1 ⊢
        exact fun c hc => h1 c (List.mem_of_mem_drop (List.mem_of_mem_take hc))
    · cases h
  · rename_i ha
    obtain ⟨v, hv, hi⟩ := relL_get hv off c h
    exact ⟨v, by simp [part, run_isAgg ha, hi], hv⟩
  · cases h

def aField (P : Program) (t : TypeId) (f : Nat) (v : AV) : Option AV := match P.underlying t with
  | some (.struct fs) => match fs[f]? with
    | some fd => (match v with | .agg cs => aPart P fd.type cs fd.offset | _ => none)
    | none => none
  | _ => none
theorem aField_sound {t : TypeId} {f : Nat} {v c : AV} {v' : Value} (hv : rel ρ v v') (h : aField P t f v = some c) :
    ∃ c', (Instr.field t v' f).run P w = .ok c' w ∧ rel ρ c c' := by
  unfold aField at h
  split at h
  · rename_i fs hs
    split at h
    · rename_i fd hf
      split at h
      · rename_i cs
        obtain ⟨h1, vs, hvs, rfl⟩ := hv
        obtain ⟨c', hrun, hc⟩ := aPart_sound (P := P) (w := w) hvs h1 h
        exact ⟨c', by simp [Instr.field, run_underlying hs, hf, asAgg, hrun], hc⟩
      · cases h
    · cases h
  · cases h

def idxPtr (v i : AV) (len sz : Nat) : Option AV := match i with
  | .int _ n => if 0 ≤ n ∧ n < (len : Int) then ptrAdd v (n.toNat * sz) else none
  | _ => none
def idxSl (v i : AV) (sz : Nat) : Option AV := match v with
  | .slice (some (b, o)) len _ => (match i with
    | .int _ n => if 0 ≤ n ∧ n < (len : Int) then some (.ptr (some (b, o + n.toNat * sz))) else none
    | _ => none)
  | _ => none
def aIndexAddr (P : Program) (t : TypeId) (v i : AV) : Option AV := match P.underlying t with
  | some (.array len e) => if (P.info? e).isSome = true then idxPtr v i len (P.cellsOf e) else none
  | some (.slice e) => if (P.info? e).isSome = true then idxSl v i (P.cellsOf e) else none
  | _ => none
theorem aIndexAddr_sound {t : TypeId} {v i c : AV} {v' i' : Value} (hv : rel ρ v v') (hi : rel ρ i i') (h : aIndexAddr P t v i = some c) :
    ∃ c', (Instr.indexAt t v' i').run P w = .ok c' w ∧ rel ρ c c' := by
  unfold aIndexAddr at h
  split at h
  · rename_i len e hs
    split at h
    · rename_i hinf
      unfold idxPtr at h
      split at h
      · rename_i k n
        split at h
        · rename_i hn
          obtain ⟨a, rfl, hc⟩ := ptrAdd_sound hv h
          simp only [rel] at hi
          subst hi
          exact ⟨_, by simp [Instr.indexAt, asIntOf, run_underlying hs, Instr.sureAddr, hn, run_size' hinf], hc⟩
        · cases h
      · cases h
    · cases h
  · rename_i e hs
    split at h
    · rename_i hinf
      unfold idxSl at h
      split at h
      · rename_i b o len cap
        split at h
        · rename_i k n
          split at h
          · rename_i hn
            cases h
            simp only [rel, cAddr, Option.map_eq_some_iff] at hi hv
            subst hi
            obtain ⟨x, y, ⟨r, hr, rfl⟩, hy, _, rfl⟩ := hv
            refine ⟨.pointer (some ⟨r.blk, r.base + (o + n.toNat * P.cellsOf e), none⟩), ?_, rel_ptr_mk hr⟩
            simp [Instr.indexAt, asIntOf, run_underlying hs, hn, run_size' hinf, add_at, Nat.add_assoc]
          · cases h
        · cases h
      · cases h
    · cases h
  · cases h

def idxStr (v i : AV) : Option AV := match v, i with
  | .str s, .int _ n => if 0 ≤ n then (s[n.toNat]?).map fun b => .int .u8 b.toNat else none
  | _, _ => none
def idxAgg (P : Program) (e : TypeId) (len sz : Nat) (v i : AV) : Option AV := match v, i with
  | .agg cs, .int _ n => if 0 ≤ n ∧ n < (len : Int) then aPart P e cs (n.toNat * sz) else none
  | _, _ => none
def aIndex (P : Program) (t : TypeId) (v i : AV) : Option AV := match P.underlying t with
  | some (.array len e) => if (P.info? e).isSome = true then idxAgg P e len (P.cellsOf e) v i else none
  | some .string => idxStr v i
  | _ => none
theorem aIndex_sound {t : TypeId} {v i c : AV} {v' i' : Value} (hv : rel ρ v v') (hi : rel ρ i i') (h : aIndex P t v i = some c) :
    ∃ c', (Instr.index t v' i').run P w = .ok c' w ∧ rel ρ c c' := by
  unfold aIndex at h
  split at h
  · rename_i len e hs
    split at h
    · rename_i hinf
      unfold idxAgg at h
      split at h
      · rename_i cs k n
        split at h
        · rename_i hn
          simp only [rel] at hi
          subst hi
          obtain ⟨h1, vs, hvs, rfl⟩ := hv
          obtain ⟨c', hrun, hc⟩ := aPart_sound (P := P) (w := w) hvs h1 h
          exact ⟨c', by simp [Instr.index, asIntOf, run_underlying hs, hn, run_size' hinf, hrun], hc⟩
        · cases h
      · cases h
    · cases h
  · rename_i hs
    unfold idxStr at h
    split at h
    · rename_i s k n
      split at h
      · rename_i hn
        simp only [Option.map_eq_some_iff] at h
        obtain ⟨b, hb, rfl⟩ := h
        simp only [rel] at hi hv
        subst hi hv
        exact ⟨.int .u8 b.toNat, by simp [Instr.index, asIntOf, run_underlying hs, hn, hb], by simp [rel]⟩
      · cases h
    · cases h
  · cases h

def aExtract (v : AV) (i : Nat) : Option AV := match v with
  | .tuple vs => vs[i]?
  | _ => none
theorem aExtract_sound {v c : AV} {v' : Value} {i : Nat} (hv : rel ρ v v') (h : aExtract v i = some c) : ∃ c', (Instr.extract v' i).run P w = .ok c' w ∧ rel ρ c c' := by
  unfold aExtract at h
  split at h
  · obtain ⟨vs, hvs, rfl⟩ := hv
    obtain ⟨u, hu, hi⟩ := relL_get hvs i c h
    exact ⟨u, by simp [Instr.extract, hi], hu⟩
  · cases h

def aBinI (op : BinOp) (k : IntKind) (a b : Int) : Option AV := match op with
  | .add => some (.int k (k.wrap (a + b)))
  | .sub => some (.int k (k.wrap (a - b)))
  | .mul => some (.int k (k.wrap (a * b)))
  | .quo => if b = 0 then none else some (.int k (k.wrap (a.tdiv b)))
  | .rem => if b = 0 then none else some (.int k (a.tmod b))
  | .eql => some (.bool (a == b))
  | .neq => some (.bool (a != b))
  | .lss => some (.bool (decide (a < b)))
  | .leq => some (.bool (decide (a ≤ b)))
  | .gtr => some (.bool (decide (a > b)))
  | .geq => some (.bool (decide (a ≥ b)))
  | .and => some (.int k (bits .and k a b))
  | .or => some (.int k (bits .or k a b))
  | .xor => some (.int k (bits .xor k a b))
  | .andNot => some (.int k (bits .andNot k a b))
  | _ => none
def aShift (op : BinOp) (k : IntKind) (x y : Int) : Option AV := if y < 0 then none else match op with
  | .shl => some (.int k (k.wrap (x * 2 ^ (min y.toNat k.bits))))
  | .shr => some (.int k (x.fdiv (2 ^ (min y.toNat k.bits))))
  | _ => none
def aBinS (op : BinOp) (x y : ByteArray) : Option AV := match op with
  | .add => if ((x.size + y.size : Nat) : Int) ≤ 9223372036854775807 then some (.str (x ++ y)) else none
  | .eql => some (.bool (x.toList == y.toList))
  | .neq => some (.bool (!(x.toList == y.toList)))
  | .lss => some (.bool (Op.bytesLess x.toList y.toList))
  | .leq => some (.bool (Op.bytesLess x.toList y.toList || x.toList == y.toList))
  | .gtr => some (.bool (!(Op.bytesLess x.toList y.toList || x.toList == y.toList)))
  | .geq => some (.bool (!(Op.bytesLess x.toList y.toList)))
  | _ => none
def eqT (P : Program) (t : TypeId) (a b : AV) : Option Bool := match P.underlying t with
  | some (.int _) => (match a, b with | .int k x, .int k' y => if k = k' then some (x == y) else none | _, _ => none)
  | some .bool => (match a, b with | .bool x, .bool y => some (x == y) | _, _ => none)
  | some .string => (match a, b with | .str x, .str y => some (x.toList == y.toList) | _, _ => none)
  | _ => none
def eqFs (P : Program) : List Field → List AV → List AV → Option Bool
  | [], [], [] => some true
  | f :: fs, a :: as, b :: bs => (eqT P f.type a b).bind fun e => (eqFs P fs as bs).map fun r => e && r
  | _, _, _ => none
def flatField (i : Nat) (f : Field) : Bool :=
  f.offset == i && f.name != "_"
def flatFields : Nat → List Field → Bool
  | _, [] => true
  | i, f :: fs => flatField i f && flatFields (i + 1) fs
def flatS (P : Program) (t : TypeId) (fs : Array Field) : Bool := flatFields 0 fs.toList && !(P.stoodInHeld t) && !(P.eqGuardType P.depth t)
def aEq (P : Program) (t : TypeId) (a b : AV) : Option Bool := match P.underlying t with
  | some .bool => (match a, b with | .bool x, .bool y => some (x == y) | _, _ => none)
  | some (.pointer _) => (match a, b with
    | .ptr none, .ptr y => some y.isNone
    | .ptr (some _), .ptr none => some false
    | _, _ => none)
  | some (.slice _) => (match a, b with
    | .slice none _ _, .slice y _ _ => some y.isNone
    | .slice (some _) _ _, .slice none _ _ => some false
    | .slice none _ _, .empty => some false
    | .empty, .slice none _ _ => some false
    | _, _ => none)
  | some (.struct fs) => (match a, b with
    | .agg xs, .agg ys => if flatS P t fs then eqFs P fs.toList xs ys else none
    | _, _ => none)
  | _ => none
def aBin (P : Program) (op : BinOp) (t : TypeId) (a b : AV) : Option AV := match a, b with
  | .int k x, .int k' y => (match op with
    | .shl => aShift .shl k x y
    | .shr => aShift .shr k x y
    | op => if k = k' then aBinI op k x y else none)
  | .str x, .str y => aBinS op x y
  | a, b => (match op with
    | .eql => (aEq P t a b).map .bool
    | .neq => (aEq P t a b).map fun e => .bool (!e)
    | _ => none)
end
end Go.Ri
set_option linter.unusedVariables false
set_option linter.unusedSimpArgs false
namespace Go.Ri
section
variable {P : Program} {ρ : Ro} {H : AH} {w : World}

theorem aBinI_sound {op : BinOp} {t : TypeId} {k : IntKind} {a b : Int} {c : AV} (hs : op ≠ .shl) (hr : op ≠ .shr) (h : aBinI op k a b = some c) :
    ∃ c', (binOp op t (.int k a) (.int k b)).run P w = .ok c' w ∧ rel ρ c c' := by
  cases op <;> simp only [aBinI] at h <;> first
    | (cases h; exact ⟨_, by simp [binOp, Op.intArith, Op.intCmp, intBits_and, intBits_or, intBits_xor, intBits_andNot]; rfl, by simp [rel]⟩)
    | (split at h
       · cases h
       · rename_i hb
         cases h
         exact ⟨_, by simp [binOp, Op.intDiv, hb]; rfl, by simp [rel]⟩)
    | (exact absurd rfl hs)
    | (exact absurd rfl hr)

theorem aShift_sound {op : BinOp} {t : TypeId} {k yk : IntKind} {x y : Int} {c : AV} (h : aShift op k x y = some c) :
    ∃ c', (binOp op t (.int k x) (.int yk y)).run P w = .ok c' w ∧ rel ρ c c' := by
  unfold aShift at h
  split at h
  · cases h
  · rename_i hy
    split at h
    · cases h
      exact ⟨.int k (k.wrap (x * 2 ^ (min y.toNat k.bits))), by simp [binOp, Op.shift, hy], by simp [rel]⟩
    · cases h
      exact ⟨.int k (x.fdiv (2 ^ (min y.toNat k.bits))), by simp [binOp, Op.shift, hy], by simp [rel]⟩
    · cases h

theorem i64_max : IntKind.i64.max = 9223372036854775807 := by decide

theorem aBinS_sound {op : BinOp} {t : TypeId} {x y : ByteArray} {c : AV} (h : aBinS op x y = some c) :
    ∃ c', (binOp op t (.string x) (.string y)).run P w = .ok c' w ∧ rel ρ c c' := by
  cases op <;> simp only [aBinS] at h <;> first
    | (cases h; done)
    | (cases h; exact ⟨_, by simp [binOp, Op.stringOp]; rfl, by simp [rel]⟩)
    | (split at h
       · rename_i hle
         cases h
         have hn : ¬ (((x.size + y.size : Nat) : Int) > IntKind.i64.max) := by rw [i64_max]; omega
         exact ⟨.string (x ++ y), by simp only [binOp, Op.stringOp]; rw [if_neg hn]; rfl, by simp [rel]⟩
       · cases h)

theorem eqT_sound {d : Nat} {t : TypeId} {a b : AV} {e : Bool} {a' b' : Value} (ha : rel ρ a a') (hb : rel ρ b b') (h : eqT P t a b = some e) :
    (Op.equalIn (d + 1) t a' b').run P w = .ok e w ∧ aggO P t = some false := by
  unfold eqT at h
  split at h
  · rename_i hu
    split at h
    · simp only [rel] at ha hb
      subst ha hb
      split at h
      · rename_i hk
        cases h
        exact ⟨by simp [Op.equalIn, run_underlying hu, hk], by simp [aggO, hu]⟩
      · cases h
    · cases h
  · rename_i hu
    split at h
    · simp only [rel] at ha hb
      subst ha hb
      cases h
      exact ⟨by simp [Op.equalIn, run_underlying hu], by simp [aggO, hu]⟩
    · cases h
  · rename_i hu
    split at h
    · simp only [rel] at ha hb
      subst ha hb
      cases h
      exact ⟨run_equalIn_string w d t _ _ hu, by simp [aggO, hu]⟩
    · cases h
  · cases h

theorem eqFs_sound {d : Nat} : ∀ (fs : List Field) (i : Nat) (xs ys : List AV) (as bs : List AV) (vs us : List Value) (e : Bool), flatFields i fs = true → relL ρ as vs → relL ρ bs us →
    xs = as.drop i → ys = bs.drop i → eqFs P fs xs ys = some e → (Op.eqFields (d + 1) vs.toArray us.toArray fs).run P w = .ok e w
  | [], i, xs, ys, as, bs, vs, us, e, hf, ha, hb, hx, hy, h => by
    cases xs <;> cases ys <;> simp [eqFs] at h
    subst h
    simp [Op.eqFields]
  | f :: fs, i, xs, ys, as, bs, vs, us, e, hf, ha, hb, hx, hy, h => by
    cases xs with
    | nil => simp [eqFs] at h
    | cons x xs =>
      cases ys with
      | nil => simp [eqFs] at h
      | cons y ys =>
        simp only [eqFs, Option.bind_eq_some_iff, Option.map_eq_some_iff] at h
        obtain ⟨e1, he1, r, hr, rfl⟩ := h
        simp only [flatFields, flatField, Bool.and_eq_true, beq_iff_eq, bne_iff_ne] at hf
        obtain ⟨⟨ho, hn⟩, hf⟩ := hf
        have gx : as[i]? = some x := by
          have := congrArg (·[0]?) hx
          simpa using this.symm
        have gy : bs[i]? = some y := by
          have := congrArg (·[0]?) hy
          simpa using this.symm
        obtain ⟨x', hx', gx'⟩ := relL_get ha i x gx
        obtain ⟨y', hy', gy'⟩ := relL_get hb i y gy
        obtain ⟨hrun, hag⟩ := eqT_sound (P := P) (w := w) (d := d) hx' hy' he1
        have ih := eqFs_sound (d := d) fs (i + 1) xs ys as bs vs us r hf ha hb (by rw [← List.drop_drop, ← hx]; rfl) (by rw [← List.drop_drop, ← hy]; rfl) hr
        simp only [Op.eqFields, if_pos hn, ho]
        cases e1
        · simp [part, run_isAgg hag, gx', gy', hrun]
        · simp [part, run_isAgg hag, gx', gy', hrun, ih]

def EqOk (P : Program) (w : World) (d : Nat) (t : TypeId) (x y : Operand) (a' b' : Value) (e : Bool) : Prop :=
  (Op.equalIn (d + 2) t a' b').run P w = .ok e w ∧ (∀ op, (eqGuard op t x y a' b').run P w = .ok () w) ∧
    binOp .eql t a' b' = (do pure (.bool (← Op.equal t a' b')) : Sem Value) ∧ binOp .neq t a' b' = (do pure (.bool (!(← Op.equal t a' b'))) : Sem Value)

theorem eqI_bool {d : Nat} {t : TypeId} (hu : P.underlying t = some .bool) (p q : Bool) : (Op.equalIn (d + 1) t (.bool p) (.bool q)).run P w = .ok (p == q) w := by simp [Op.equalIn, run_underlying hu]
theorem eqI_ptr1 {d : Nat} {t e : TypeId} (hu : P.underlying t = some (.pointer e)) (q : Option Addr) : (Op.equalIn (d + 1) t (.pointer none) (.pointer q)).run P w = .ok q.isNone w := by simp [Op.equalIn, run_underlying hu]
theorem eqI_ptr2 {d : Nat} {t e : TypeId} (hu : P.underlying t = some (.pointer e)) (q : Addr) : (Op.equalIn (d + 1) t (.pointer (some q)) (.pointer none)).run P w = .ok false w := by simp [Op.equalIn, run_underlying hu]
theorem eqI_sl1 {d : Nat} {t e : TypeId} (hu : P.underlying t = some (.slice e)) (q : Option Addr) (n c m b : Nat) : (Op.equalIn (d + 1) t (.slice none n c) (.slice q m b)).run P w = .ok q.isNone w := by simp [Op.equalIn, run_underlying hu]
theorem eqI_sl2 {d : Nat} {t e : TypeId} (hu : P.underlying t = some (.slice e)) (q : Addr) (n c m b : Nat) : (Op.equalIn (d + 1) t (.slice (some q) n c) (.slice none m b)).run P w = .ok false w := by simp [Op.equalIn, run_underlying hu]
theorem eqG_other {op : BinOp} {t : TypeId} (x y : Operand) {a b : Value} (h : (match a, b with | .nilIface, .nilIface => false | .agg _, .agg _ => false | _, _ => true) = true) : (eqGuard op t x y a b).run P w = .ok () w := by
  cases a <;> cases b <;> first | (simp at h; done) | (cases op <;> simp [eqGuard])
theorem cAddr_some {p : Nat × Nat} {x : Option Addr} (h : cAddr ρ (some p) = some x) : ∃ a, x = some a := by
  obtain ⟨b, o⟩ := p
  simp only [cAddr, Option.map_eq_some_iff] at h
  obtain ⟨r, _, rfl⟩ := h
  exact ⟨_, rfl⟩
theorem cAddr_isNone {p : Option (Nat × Nat)} {x : Option Addr} (h : cAddr ρ p = some x) : x.isNone = p.isNone := by
  cases p with
  | none => simp [cAddr] at h; subst h; rfl
  | some p => obtain ⟨a, rfl⟩ := cAddr_some h; rfl

theorem aEq_sound {d : Nat} {t : TypeId} {a b : AV} {e : Bool} {a' b' : Value} (x y : Operand) (ha : rel ρ a a') (hb : rel ρ b b') (h : aEq P t a b = some e) :
    EqOk P w d t x y a' b' e := by
  unfold aEq at h
  split at h
  · rename_i hu
    split at h
    · simp only [rel] at ha hb
      subst ha hb
      cases h
      exact ⟨eqI_bool hu _ _, fun op => eqG_other x y rfl, rfl, rfl⟩
    · cases h
  · rename_i hu
    split at h
    · simp only [rel] at ha hb
      obtain ⟨_, hx, rfl⟩ := ha
      obtain ⟨z, hz, rfl⟩ := hb
      cases hx
      cases h
      exact ⟨by rw [← cAddr_isNone hz]; exact eqI_ptr1 hu z, fun op => eqG_other x y rfl, rfl, rfl⟩
    · simp only [rel] at ha hb
      obtain ⟨z, hz, rfl⟩ := ha
      obtain ⟨_, hx, rfl⟩ := hb
      obtain ⟨_, rfl⟩ := cAddr_some hz
      cases hx
      cases h
      exact ⟨eqI_ptr2 hu _, fun op => eqG_other x y rfl, rfl, rfl⟩
    · cases h
  · rename_i hu
    split at h
    · simp only [rel] at ha hb
      obtain ⟨_, ca, hx, _, _, rfl⟩ := ha
      obtain ⟨z, cb, hz, _, _, rfl⟩ := hb
      cases hx
      cases h
      exact ⟨by rw [← cAddr_isNone hz]; exact eqI_sl1 hu z _ _ _ _, fun op => eqG_other x y rfl, rfl, rfl⟩
    · simp only [rel] at ha hb
      obtain ⟨z, ca, hz, _, _, rfl⟩ := ha
      obtain ⟨_, cb, hx, _, _, rfl⟩ := hb
      obtain ⟨_, rfl⟩ := cAddr_some hz
      cases hx
      cases h
      exact ⟨eqI_sl2 hu _ _ _ _ _, fun op => eqG_other x y rfl, rfl, rfl⟩
    · simp only [rel] at ha hb
      obtain ⟨_, ca, hx, _, _, rfl⟩ := ha
      obtain ⟨_, _, rfl⟩ := hb
      cases hx
      cases h
      exact ⟨eqI_sl1 hu _ _ _ _ _, fun op => eqG_other x y rfl, rfl, rfl⟩
    · simp only [rel] at ha hb
      obtain ⟨_, _, rfl⟩ := ha
      obtain ⟨_, cb, hx, _, _, rfl⟩ := hb
      cases hx
      cases h
      exact ⟨eqI_sl2 hu _ _ _ _ _, fun op => eqG_other x y rfl, rfl, rfl⟩
    · cases h
  · rename_i fs hu
    split at h
    · rename_i xs ys
      split at h
      · rename_i hf
        simp only [flatS, Bool.and_eq_true, Bool.not_eq_true'] at hf
        obtain ⟨⟨hf, hst⟩, hg⟩ := hf
        obtain ⟨_, vs, hvs, rfl⟩ := ha
        obtain ⟨_, us, hus, rfl⟩ := hb
        have hfo : P.fieldsOf t = fs := by simp [Program.fieldsOf, hu]
        refine ⟨?_, fun op => run_eqGuard_agg w op t x y _ _ hg, rfl, rfl⟩
        rw [run_equalIn_struct (P := P) w (d + 1) t _ _ (by rw [hfo]; exact hu) hst, hfo]
        exact eqFs_sound (d := d) fs.toList 0 xs ys xs ys vs us e hf hvs hus rfl rfl h
      · cases h
    · cases h
  · cases h

theorem run_equal {t : TypeId} {a b : Value} {e : Bool} (h : (Op.equalIn (9998 + 2) t a b).run P w = .ok e w) : (Op.equal t a b).run P w = .ok e w := h

theorem aBin_sound {op : BinOp} {t : TypeId} {a b c : AV} {a' b' : Value} (x y : Operand) (ha : rel ρ a a') (hb : rel ρ b b') (h : aBin P op t a b = some c) :
    ∃ c', (do eqGuard op t x y a' b'; binOp op t a' b' : Sem Value).run P w = .ok c' w ∧ rel ρ c c' := by
  unfold aBin at h
  split at h
  · rename_i k p k' q
    simp only [rel] at ha hb
    subst ha hb
    have hg : (eqGuard op t x y (.int k p) (.int k' q)).run P w = .ok () w := by cases op <;> simp [eqGuard]
    simp only [Sem.run_bind, hg, Result.andThen_ok]
    split at h
    · exact aShift_sound h
    · exact aShift_sound h
    · rename_i h1 h2
      split at h
      · rename_i hk
        subst hk
        exact aBinI_sound (fun e => h1 e) (fun e => h2 e) h
      · cases h
  · rename_i p q
    simp only [rel] at ha hb
    subst ha hb
    have hg : (eqGuard op t x y (.string p) (.string q)).run P w = .ok () w := by cases op <;> simp [eqGuard]
    simp only [Sem.run_bind, hg, Result.andThen_ok]
    exact aBinS_sound h
  · split at h
    · simp only [Option.map_eq_some_iff] at h
      obtain ⟨e, he, rfl⟩ := h
      obtain ⟨hrun, hg, heq, _⟩ := aEq_sound (P := P) (w := w) (d := 9998) x y ha hb he
      exact ⟨.bool e, by simp only [Sem.run_bind, hg, Result.andThen_ok, heq, run_equal hrun, Sem.run_pure], by simp [rel]⟩
    · simp only [Option.map_eq_some_iff] at h
      obtain ⟨e, he, rfl⟩ := h
      obtain ⟨hrun, hg, _, hne⟩ := aEq_sound (P := P) (w := w) (d := 9998) x y ha hb he
      exact ⟨.bool (!e), by simp only [Sem.run_bind, hg, Result.andThen_ok, hne, run_equal hrun, Sem.run_pure], by simp [rel]⟩
    · cases h
end
end Go.Ri
set_option linter.unusedVariables false
set_option linter.unusedSimpArgs false
namespace Go.Ri
section
variable {P : Program} {ρ : Ro} {H : AH} {w : World}

def aUn (op : UnOp) (v : AV) : Option AV := match op, v with
  | .neg, .int k n => some (.int k (k.wrap (0 - n)))
  | .not, .bool b => some (.bool (!b))
  | _, _ => none
theorem aUn_sound {op : UnOp} {v c : AV} {v' : Value} (hv : rel ρ v v') (h : aUn op v = some c) : ∃ c', (Op.unary op v').run P w = .ok c' w ∧ rel ρ c c' := by
  unfold aUn at h
  split at h
  · simp only [rel] at hv
    subst hv
    cases h
    exact ⟨_, rfl, by simp [rel]⟩
  · simp only [rel] at hv
    subst hv
    cases h
    exact ⟨_, rfl, by simp [rel]⟩
  · cases h

def byteInts : List AV → Option (List Int)
  | [] => some []
  | .int .u8 n :: cs => (byteInts cs).map fun l => n :: l
  | _ => none
theorem byteInts_rel : ∀ {cs : List AV} {vs : List Value} {l : List Int}, relL ρ cs vs → byteInts cs = some l → vs = l.map (Value.int .u8)
  | [], vs, l, h, k => by simp [byteInts] at k; subst k; simp [relL] at h; subst h; rfl
  | c :: cs, vs, l, h, k => by
    unfold byteInts at k
    split at k
    · rename_i heq; cases heq
    · rename_i n ds heq
      cases heq
      simp only [Option.map_eq_some_iff] at k
      obtain ⟨l', hl', rfl⟩ := k
      simp only [relL] at h
      obtain ⟨v, us, hv, hus, rfl⟩ := h
      simp only [rel] at hv
      subst hv
      rw [byteInts_rel hus hl']
      rfl
    · cases k
def cvInt (k : IntKind) (v : AV) : Option AV := match v with
  | .int _ n => some (.int k (k.wrap n))
  | _ => none
def cvStr (v : AV) : Option AV := match v with
  | .str s => some (.str s)
  | _ => none
def cvBytes (v : AV) (H : AH) : Option AV := match v with
  | .slice (some p) n _ => (H.ldN p n).bind fun cs => (byteInts cs).map fun l => .str (strOfNums l)
  | .slice none _ _ => some (.str ByteArray.empty)
  | _ => none
def aConvert (P : Program) (src dst : TypeId) (v : AV) (H : AH) : Option AV := match P.underlying src with
  | none => none
  | some s => match P.underlying dst with
    | some (.int k) => cvInt k v
    | some .string => (match s with
      | .string => cvStr v
      | .slice e => (match P.underlying e with
        | some (.int .u8) => cvBytes v H
        | _ => none)
      | _ => none)
    | _ => none
theorem aConvert_sound (h : Sim P ρ H w) {src dst : TypeId} {v c : AV} {v' : Value} (hv : rel ρ v v') (hc : aConvert P src dst v H = some c) :
    ∃ c', (convert src dst v').run P w = .ok c' w ∧ rel ρ c c' := by
  unfold aConvert at hc
  split at hc
  · cases hc
  · rename_i s hs
    split at hc
    · rename_i k hd
      unfold cvInt at hc
      split at hc
      · simp only [rel] at hv
        subst hv
        cases hc
        rename_i kk n
        exact ⟨.int k (k.wrap n), by simp [convert, run_underlying hs, run_underlying hd, Conv.intToInt], by simp [rel]⟩
      · cases hc
    · rename_i hd
      split at hc
      · unfold cvStr at hc
        split at hc
        · rename_i x
          simp only [rel] at hv
          subst hv
          cases hc
          exact ⟨.string x, by simp [convert, run_underlying hs, run_underlying hd], by simp [rel]⟩
        · cases hc
      · rename_i e
        split at hc
        · rename_i he
          unfold cvBytes at hc
          split at hc
          · rename_i p n c'
            obtain ⟨b, o⟩ := p
            simp only [Option.bind_eq_some_iff, Option.map_eq_some_iff] at hc
            obtain ⟨cs, hcs, l, hl, rfl⟩ := hc
            simp only [rel, cAddr, Option.map_eq_some_iff] at hv
            obtain ⟨x, y, ⟨r, hr, rfl⟩, hy, _, rfl⟩ := hv
            obtain ⟨r', vs, hr', hvs, hn, _, _, hcell⟩ := ldN_sound h hcs
            rw [hr] at hr'
            cases hr'
            have hvl := byteInts_rel hvs hl
            subst hvl
            have hlen : l.length = n := by simpa using hn
            have hrun := run_convert_bytes_arg (P := P) w src e hs he r.blk (r.base + o) n y l hlen (fun i hi => by
              have := hcell i (.int .u8 (l.getD i 0)) (by simp [List.getElem?_eq_getElem (show i < l.length by omega), List.getD_eq_getElem?_getD])
              rwa [add_at] at this) dst hd
            exact ⟨_, hrun, by simp [rel]⟩
          · simp only [rel, cAddr] at hv
            obtain ⟨x, y, hx, hy, _, rfl⟩ := hv
            cases hx
            cases hc
            exact ⟨_, run_convert_bytes_nil w src e hs he _ _ dst hd, by simp [rel]⟩
          · cases hc
        · cases hc
      · cases hc
    · cases hc

def bnd (v : AV) (y : Nat) : Option Nat := match v with
  | .int _ i => if 0 ≤ i ∧ i ≤ (y : Int) then some i.toNat else none
  | _ => none
theorem bnd_sound {v : AV} {v' : Value} {y n : Nat} (code : BoundsCode) (hv : rel ρ v v') (h : bnd v y = some n) : (Instr.sliceBound v' y code).run P w = .ok n w ∧ n ≤ y := by
  unfold bnd at h
  split at h
  · split at h
    · rename_i hi
      simp only [rel] at hv
      subst hv
      cases h
      exact ⟨by simp [Instr.sliceBound, asIntOf, hi], by omega⟩
    · cases h
  · cases h
def oRel (ρ : Ro) : Option AV → Option Value → Prop
  | none, none => True
  | some a, some b => rel ρ a b
  | _, _ => False
def bnds (len : Nat) (cap : Option Nat) (lo hi mx : Option AV) : Option (Nat × Nat × Option Nat) :=
  match mx with
  | some m => (bnd m (cap.getD len)).bind fun m => (match hi with
    | some h => (bnd h m).bind fun h => (match lo with
      | some l => (bnd l h).map fun l => (l, h, some m)
      | none => some (0, h, some m))
    | none => none)
  | none => (match hi with
    | some h => (bnd h (cap.getD len)).bind fun h => (match lo with
      | some l => (bnd l h).map fun l => (l, h, cap)
      | none => some (0, h, cap))
    | none => (match lo with
      | some l => (bnd l len).map fun l => (l, len, cap)
      | none => some (0, len, cap)))
theorem bnds_sound {isS : Bool} {len c' : Nat} {cap : Option Nat} {lo hi mx : Option AV} {lo' hi' mx' : Option Value} {l h : Nat} {m : Option Nat}
    (hl : oRel ρ lo lo') (hh : oRel ρ hi hi') (hm : oRel ρ mx mx') (hlen : len ≤ c') (hcap : ∀ x, cap = some x → x = c') (hb : bnds len cap lo hi mx = some (l, h, m)) :
    ∃ m', (Instr.sliceBounds isS len c' lo' hi' mx').run P w = .ok (l, h, m') w ∧ l ≤ h ∧ h ≤ m' ∧ m' ≤ c' ∧ (∀ x, m = some x → x = m') ∧ (m = none → m' = c') := by
  have hg : cap.getD len ≤ c' := by
    cases cap with
    | none => exact hlen
    | some x => rw [hcap x rfl]; exact Nat.le_refl _
  have up : ∀ (a : AV) (y z n : Nat), bnd a y = some n → y ≤ z → bnd a z = some n := fun a y z n ha hyz => by
    unfold bnd at ha ⊢
    split at ha
    · split at ha
      · cases ha
        rw [if_pos (by omega)]
      · cases ha
    · cases ha
  unfold bnds at hb
  cases mx with
  | some mv =>
    cases mx' with
    | none => exact hm.elim
    | some mv' =>
      simp only [Option.bind_eq_some_iff] at hb
      obtain ⟨m0, hm0, hb⟩ := hb
      obtain ⟨r1, l1⟩ := bnd_sound (P := P) (w := w) (y := c') (if isS then .slice3Acap else .slice3Alen) hm (up _ _ _ _ hm0 hg)
      cases hi with
      | none => cases hb
      | some hv =>
        cases hi' with
        | none => exact hh.elim
        | some hv' =>
          simp only [Option.bind_eq_some_iff] at hb
          obtain ⟨h0, hh0, hb⟩ := hb
          obtain ⟨r2, l2⟩ := bnd_sound (P := P) (w := w) .slice3B hh hh0
          cases lo with
          | none =>
            cases lo' with
            | some _ => exact hl.elim
            | none =>
              cases hb
              exact ⟨m0, by simp [Instr.sliceBounds, r1, r2], Nat.zero_le _, l2, l1, fun x hx => by cases hx; rfl, fun hx => by cases hx⟩
          | some lv =>
            cases lo' with
            | none => exact hl.elim
            | some lv' =>
              simp only [Option.map_eq_some_iff] at hb
              obtain ⟨l0, hl0, hb⟩ := hb
              cases hb
              obtain ⟨r3, l3⟩ := bnd_sound (P := P) (w := w) .slice3C hl hl0
              exact ⟨m0, by simp [Instr.sliceBounds, r1, r2, r3], l3, l2, l1, fun x hx => by cases hx; rfl, fun hx => by cases hx⟩
  | none =>
    cases mx' with
    | some _ => exact hm.elim
    | none =>
      cases hi with
      | some hv =>
        cases hi' with
        | none => exact hh.elim
        | some hv' =>
          simp only [Option.bind_eq_some_iff] at hb
          obtain ⟨h0, hh0, hb⟩ := hb
          obtain ⟨r2, l2⟩ := bnd_sound (P := P) (w := w) (y := c') (if isS then .sliceAcap else .sliceAlen) hh (up _ _ _ _ hh0 hg)
          cases lo with
          | none =>
            cases lo' with
            | some _ => exact hl.elim
            | none =>
              cases hb
              exact ⟨c', by simp [Instr.sliceBounds, r2], Nat.zero_le _, l2, Nat.le_refl _, hcap, fun _ => rfl⟩
          | some lv =>
            cases lo' with
            | none => exact hl.elim
            | some lv' =>
              simp only [Option.map_eq_some_iff] at hb
              obtain ⟨l0, hl0, hb⟩ := hb
              cases hb
              obtain ⟨r3, l3⟩ := bnd_sound (P := P) (w := w) .sliceB hl hl0
              exact ⟨c', by simp [Instr.sliceBounds, r2, r3], l3, l2, Nat.le_refl _, hcap, fun _ => rfl⟩
      | none =>
        cases hi' with
        | some _ => exact hh.elim
        | none =>
          cases lo with
          | none =>
            cases lo' with
            | some _ => exact hl.elim
            | none =>
              cases hb
              exact ⟨c', by simp [Instr.sliceBounds], Nat.zero_le _, hlen, Nat.le_refl _, hcap, fun _ => rfl⟩
          | some lv =>
            cases lo' with
            | none => exact hl.elim
            | some lv' =>
              simp only [Option.map_eq_some_iff] at hb
              obtain ⟨l0, hl0, hb⟩ := hb
              cases hb
              obtain ⟨r3, l3⟩ := bnd_sound (P := P) (w := w) .sliceB hl hl0
              exact ⟨c', by simp [Instr.sliceBounds, r3], l3, hlen, Nat.le_refl _, hcap, fun _ => rfl⟩

def capOf (m : Option Nat) (sz : Nat) : Cap := match m with
  | some c => .kn c
  | none => .op sz
def cutAt (p : Nat × Nat) (sz l h : Nat) (m : Option Nat) : AV :=
  if l = 0 then .slice (some p) h (capOf m sz)
  else if l < h then .slice (some (p.1, p.2 + l * sz)) (h - l) (capOf (m.map (· - l)) sz)
  else .empty
def slSl (v : AV) (sz : Nat) (lo hi mx : Option AV) : Option AV := match v with
  | .slice (some p) len cap => if cap = .op sz ∨ cap.known.isSome = true then (bnds len cap.known lo hi mx).bind fun (l, h, m) => some (cutAt p sz l h m) else none
  | .slice none len cap => (bnds len cap.known lo hi mx).bind fun (l, h, m) => if l = 0 then m.map fun c => .slice none h (.kn c) else none
  | .empty => (bnds 0 none lo hi mx).bind fun (l, h, m) => some .empty
  | _ => none
def slArr (v : AV) (n sz : Nat) (lo hi mx : Option AV) : Option AV := match v with
  | .ptr (some p) => (bnds n (some n) lo hi mx).bind fun (l, h, m) => some (cutAt p sz l h m)
  | _ => none
def slStr (v : AV) (lo hi mx : Option AV) : Option AV := match v, mx with
  | .str s, none => (bnds s.size (some s.size) lo hi none).map fun (l, h, _) => .str (s.extract l h)
  | _, _ => none
def aSlice (P : Program) (t : TypeId) (v : AV) (lo hi mx : Option AV) : Option AV := match P.underlying t with
  | some (.array n e) => if (P.info? e).isSome = true then slArr v n (P.cellsOf e) lo hi mx else none
  | some (.slice e) => if (P.info? e).isSome = true then slSl v (P.cellsOf e) lo hi mx else none
  | some .string => slStr v lo hi mx
  | _ => none

theorem cutAt_rel {b o sz l h c m' : Nat} {m : Option Nat} {r : RB} (hr : ρ b = some r) (h1 : l ≤ h) (h2 : h ≤ m') (h3 : m' ≤ c) (h4 : ∀ x, m = some x → x = m') (h5 : m = none → m' = c ∧ c = (r.lim - o) / sz) :
    rel ρ (cutAt (b, o) sz l h m) (.slice (if m' = l then some ⟨r.blk, r.base + o, none⟩ else some ((⟨r.blk, r.base + o, none⟩ : Addr).add (l * sz))) (h - l) (m' - l)) := by
  unfold cutAt
  split
  · rename_i h0
    subst h0
    have ha : (if m' = 0 then some ⟨r.blk, r.base + o, none⟩ else some ((⟨r.blk, r.base + o, none⟩ : Addr).add (0 * sz))) = some (⟨r.blk, r.base + o, none⟩ : Addr) := by
      rw [add_at]; simp
    rw [ha]
    refine ⟨some ⟨r.blk, r.base + o, none⟩, m', by simp [cAddr, hr], ?_, h2, by simp⟩
    cases m with
    | some x => rw [h4 x rfl]; rfl
    | none => obtain ⟨e1, e2⟩ := h5 rfl; simp [capOf, cCap, hr, e1, e2]
  · rename_i h0
    split
    · rename_i hlt
      rw [if_neg (by omega)]
      refine ⟨some ⟨r.blk, r.base + (o + l * sz), none⟩, m' - l, by simp [cAddr, hr], ?_, by omega, by rw [add_at, Nat.add_assoc]⟩
      cases m with
      | some x => rw [h4 x rfl]; rfl
      | none =>
        obtain ⟨e1, e2⟩ := h5 rfl
        simp only [capOf, Option.map_none, cCap, hr, Option.map_some, Option.some.injEq]
        rw [e1, e2, ← Nat.sub_sub, Nat.mul_comm, Nat.sub_mul_div]
    · rename_i hlt
      have : h - l = 0 := by omega
      rw [this]
      split <;> exact ⟨_, _, rfl⟩

theorem aSlice_sound {t : TypeId} {v c : AV} {v' : Value} {lo hi mx : Option AV} {lo' hi' mx' : Option Value} (hv : rel ρ v v') (hl : oRel ρ lo lo') (hh : oRel ρ hi hi') (hm : oRel ρ mx mx')
    (hc : aSlice P t v lo hi mx = some c) : ∃ c', (Instr.sliceAt t v' lo' hi' mx').run P w = .ok c' w ∧ rel ρ c c' := by
  unfold aSlice at hc
  split at hc
  · rename_i n e hu
    split at hc
    · rename_i hinf
      unfold slArr at hc
      split at hc
      · rename_i p
        obtain ⟨b, o⟩ := p
        simp only [Option.bind_eq_some_iff] at hc
        obtain ⟨⟨l, h, m⟩, hb, hc⟩ := hc
        cases hc
        obtain ⟨r, hr, rfl⟩ := rel_ptr hv
        obtain ⟨m', hrun, h1, h2, h3, h4, h5⟩ := bnds_sound (P := P) (w := w) (isS := false) hl hh hm (Nat.le_refl n) (fun x hx => by cases hx; rfl) hb
        have hmm : m ≠ none := by
          intro e
          subst e
          unfold bnds at hb
          cases mx <;> cases hi <;> cases lo <;> simp [Option.bind_eq_some_iff] at hb
        refine ⟨_, ?_, cutAt_rel hr h1 h2 h3 h4 (fun e => absurd e hmm)⟩
        simp [Instr.sliceAt, run_underlying hu, Instr.sureAddr, hrun, run_size' hinf]
        split <;> rfl
      · cases hc
    · cases hc
  · rename_i e hu
    split at hc
    · rename_i hinf
      unfold slSl at hc
      split at hc
      · rename_i p len cap
        obtain ⟨b, o⟩ := p
        split at hc
        · rename_i hcap
          simp only [Option.bind_eq_some_iff] at hc
          obtain ⟨⟨l, h, m⟩, hb, hc⟩ := hc
          cases hc
          simp only [rel, cAddr, Option.map_eq_some_iff] at hv
          obtain ⟨x, y, ⟨r, hr, rfl⟩, hy, hle, rfl⟩ := hv
          have hk : ∀ x, cap.known = some x → x = y := fun x hx => by
            cases cap with
            | kn z => simp only [cCap] at hy; simp only [Cap.known] at hx; cases hy; cases hx; rfl
            | op z => simp [Cap.known] at hx
          obtain ⟨m', hrun, h1, h2, h3, h4, h5⟩ := bnds_sound (P := P) (w := w) (isS := true) hl hh hm hle hk hb
          refine ⟨_, ?_, cutAt_rel hr h1 h2 h3 h4 (fun e => ⟨h5 e, ?_⟩)⟩
          · simp only [Instr.sliceAt, run_underlying hu, Sem.run_bind, Result.andThen_ok, Instr.slice, hrun, run_size' hinf, Sem.run_pure]
            split <;> rfl
          · cases cap with
            | kn z =>
              exfalso
              subst e
              unfold bnds at hb
              cases mx <;> cases hi <;> cases lo <;> simp [Option.bind_eq_some_iff, Cap.known] at hb
            | op z =>
              rcases hcap with hcap | hcap
              · cases hcap
                simp only [cCap, hr, Option.map_some, Option.some.injEq] at hy
                exact hy.symm
              · simp [Cap.known] at hcap
        · cases hc
      · rename_i len cap
        simp only [Option.bind_eq_some_iff] at hc
        obtain ⟨⟨l, h, m⟩, hb, hc⟩ := hc
        simp only [rel, cAddr] at hv
        obtain ⟨x, y, hx, hy, hle, rfl⟩ := hv
        cases hx
        have hk : ∀ x, cap.known = some x → x = y := fun x hx => by
          cases cap with
          | kn z => simp only [cCap] at hy; simp only [Cap.known] at hx; cases hy; cases hx; rfl
          | op z => simp [Cap.known] at hx
        obtain ⟨m', hrun, h1, h2, h3, h4, h5⟩ := bnds_sound (P := P) (w := w) (isS := true) hl hh hm hle hk hb
        split at hc
        · rename_i h0
          subst h0
          simp only [Option.map_eq_some_iff] at hc
          obtain ⟨z, hz, rfl⟩ := hc
          have := h4 z hz
          subst this
          refine ⟨.slice none h z, ?_, none, z, rfl, rfl, h2, rfl⟩
          simp [Instr.sliceAt, run_underlying hu, Instr.slice, hrun, run_size' hinf]
        · cases hc
      · simp only [Option.bind_eq_some_iff] at hc
        obtain ⟨⟨l, h, m⟩, hb, hc⟩ := hc
        cases hc
        obtain ⟨a, y, rfl⟩ := hv
        obtain ⟨m', hrun, h1, h2, h3, h4, h5⟩ := bnds_sound (P := P) (w := w) (isS := true) (c' := y) hl hh hm (Nat.zero_le y) (fun x hx => by cases hx) hb
        have hh0 : h = 0 := by
          have up0 : ∀ (a : AV) (y n : Nat), bnd a y = some n → n ≤ y := fun a y n ha => by
            unfold bnd at ha
            split at ha
            · split at ha
              · cases ha; omega
              · cases ha
            · cases ha
          unfold bnds at hb
          cases mx with
          | some mv =>
            cases hi with
            | none => simp [Option.bind_eq_some_iff] at hb
            | some hv' =>
              simp only [Option.bind_eq_some_iff, Option.getD_none] at hb
              obtain ⟨m0, hm0, h0, hh0, hb⟩ := hb
              have := up0 _ _ _ hm0
              have := up0 _ _ _ hh0
              cases lo with
              | none => cases hb; omega
              | some lv => simp only [Option.map_eq_some_iff] at hb; obtain ⟨_, _, hb⟩ := hb; cases hb; omega
          | none =>
            cases hi with
            | none =>
              cases lo with
              | none => cases hb; rfl
              | some lv => simp only [Option.map_eq_some_iff] at hb; obtain ⟨_, _, hb⟩ := hb; cases hb; rfl
            | some hv' =>
              simp only [Option.bind_eq_some_iff, Option.getD_none] at hb
              obtain ⟨h0, hh0, hb⟩ := hb
              have := up0 _ _ _ hh0
              cases lo with
              | none => cases hb; omega
              | some lv => simp only [Option.map_eq_some_iff] at hb; obtain ⟨_, _, hb⟩ := hb; cases hb; omega
        subst hh0
        obtain rfl : l = 0 := by omega
        refine ⟨.slice (some a) 0 m', ?_, a, m', rfl⟩
        simp only [Instr.sliceAt, run_underlying hu, Sem.run_bind, Result.andThen_ok, Instr.slice, hrun, run_size' hinf, Sem.run_pure]
        have : a.add 0 = a := by simp [Addr.add]
        simp [this]
      · cases hc
    · cases hc
  · rename_i hu
    unfold slStr at hc
    split at hc
    · rename_i s
      cases mx' with
      | some _ => exact hm.elim
      | none =>
        simp only [Option.map_eq_some_iff] at hc
        obtain ⟨⟨l, h, m⟩, hb, rfl⟩ := hc
        simp only [rel] at hv
        subst hv
        obtain ⟨m', hrun, h1, h2, h3, h4, h5⟩ := bnds_sound (P := P) (w := w) (isS := false) (c' := s.size) hl hh (show oRel ρ none none from trivial) (Nat.le_refl _) (fun x hx => by cases hx; rfl) hb
        exact ⟨.string (s.extract l h), by simp [Instr.sliceAt, run_underlying hu, Instr.slice, hrun], by simp [rel]⟩
    · cases hc
  · cases hc

def aLen (P : Program) (t : TypeId) (v : AV) : Option AV := match P.underlying t with
  | some .string => (match v with | .str s => some (.int .i64 s.size) | _ => none)
  | some (.array n _) => some (.int .i64 n)
  | some (.slice _) => (match v with | .slice _ n _ => some (.int .i64 n) | .empty => some (.int .i64 0) | _ => none)
  | _ => none
theorem aLen_sound {t ty : TypeId} {v c : AV} {v' : Value} (hv : rel ρ v v') (h : aLen P t v = some c) : ∃ c', (Builtin.len_ #[t] ty #[v']).run P w = .ok c' w ∧ rel ρ c c' := by
  unfold aLen at h
  split at h
  · rename_i hu
    split at h
    · simp only [rel] at hv; subst hv; cases h
      exact ⟨_, by simp [Builtin.len_, run_underlying hu]; rfl, by simp [rel, goInt]⟩
    · cases h
  · rename_i hu
    cases h
    exact ⟨_, by simp [Builtin.len_, run_underlying hu]; rfl, by simp [rel, goInt]⟩
  · rename_i hu
    split at h
    · obtain ⟨x, y, hx, hy, hle, rfl⟩ := hv
      cases h
      exact ⟨_, by simp [Builtin.len_, run_underlying hu]; rfl, by simp [rel, goInt]⟩
    · obtain ⟨x, y, rfl⟩ := hv
      cases h
      exact ⟨_, by simp [Builtin.len_, run_underlying hu]; rfl, by simp [rel, goInt]⟩
    · cases h
  · cases h
end
end Go.Ri
set_option linter.unusedVariables false
set_option linter.unusedSimpArgs false
namespace Go.Ri
section
variable {P : Program} {ρ : Ro} {H : AH} {w : World}

theorem foldl_set : ∀ (us : List Value) (k off : Nat) (arr : Array Value), off + k + us.length ≤ arr.size →
    ((us.zipIdx k).foldl (fun (cs : Array Value) (p : Value × Nat) => cs.setIfInBounds (off + p.2) p.1) arr).toList = arr.toList.take (off + k) ++ us ++ arr.toList.drop (off + k + us.length)
  | [], k, off, arr, h => by simp
  | u :: us, k, off, arr, h => by
    simp only [List.length_cons] at h
    simp only [List.zipIdx_cons, List.foldl_cons]
    rw [foldl_set us (k + 1) off (arr.setIfInBounds (off + k) u) (by simp; omega)]
    have e := list_seg_step arr.toList (off + k) u us (by simp; omega)
    simp only [Array.toList_setIfInBounds, List.length_cons]
    rw [← Nat.add_assoc off k 1]
    exact e

def splice (cs : List AV) (n : Nat) : Nat → List AV → List AV
  | 0, l => cs ++ l.drop n
  | _ + 1, [] => []
  | k + 1, x :: l => x :: splice cs n k l
theorem splice_eq (cs : List AV) (n : Nat) : ∀ (k : Nat) (l : List AV), k ≤ l.length → splice cs n k l = l.take k ++ cs ++ l.drop (k + n)
  | 0, l, _ => by simp [splice]
  | k + 1, [], h => by simp at h
  | k + 1, x :: l, h => by
    rw [splice, splice_eq cs n k l (by simpa using h)]
    simp [Nat.add_right_comm]

def aFill (place : Nat → Option (Nat × Nat)) (tot : Nat) (cells : List AV) : List (Nat × AV) → Option (List AV)
  | [] => some cells
  | (i, v) :: rest => (place i).bind fun q => v.cells.bind fun cs =>
    if cs.length = q.2 ∧ q.1 + q.2 ≤ tot then aFill place tot (splice cs q.2 q.1 cells) rest else none

def partsRel (ρ : Ro) : List (Nat × AV) → List (Nat × Value) → Prop
  | [], [] => True
  | (i, a) :: xs, (j, b) :: ys => i = j ∧ rel ρ a b ∧ partsRel ρ xs ys
  | _, _ => False

theorem aFill_sound {place : Nat → Option (Nat × Nat)} {tot : Nat} : ∀ {parts : List (Nat × AV)} {parts' : List (Nat × Value)} {cells out : List AV} {arr : Array Value}, partsRel ρ parts parts' → relL ρ cells arr.toList →
    cells.all AV.isOne = true → tot = cells.length → aFill place tot cells parts = some out → ∃ arr', Instr.fill place arr parts' = some arr' ∧ relL ρ out arr'.toList ∧ out.all AV.isOne = true
  | [], [], cells, out, arr, hp, hr, h1, htot, h => by
    simp only [aFill] at h
    cases h
    exact ⟨arr, rfl, hr, h1⟩
  | (i, a) :: xs, (j, b) :: ys, cells, out, arr, hp, hr, h1, htot, h => by
    obtain ⟨rfl, hab, hp⟩ := hp
    simp only [aFill, Option.bind_eq_some_iff] at h
    obtain ⟨⟨off, size⟩, hq, cs, hcs, h⟩ := h
    split at h
    · rename_i hle
      obtain ⟨hl, hle⟩ := hle
      simp only at hl hle h
      rw [htot] at hle
      rw [splice_eq _ _ _ _ (by omega)] at h
      obtain ⟨hcr, hc1⟩ := cells_rel hab hcs
      have hlen := relL_length hcr
      have hal := relL_length hr
      simp only [Array.length_toList] at hlen hal
      have hfold : (b.cells.zipIdx.foldl (fun cs (p : Value × Nat) => cs.setIfInBounds (off + p.2) p.1) arr).toList = arr.toList.take off ++ b.cells.toList ++ arr.toList.drop (off + size) := by
        rw [← Array.foldl_toList, Array.toList_zipIdx, foldl_set _ 0 off arr (by simp; omega)]
        simp [hlen, hl]
      have hrel2 : relL ρ (cells.take off ++ cs ++ cells.drop (off + size)) (b.cells.zipIdx.foldl (fun cs (p : Value × Nat) => cs.setIfInBounds (off + p.2) p.1) arr).toList := by
        rw [hfold]
        exact relL_append (relL_append (relL_take _ hr) hcr) (relL_drop _ hr)
      have hone : (cells.take off ++ cs ++ cells.drop (off + size)).all AV.isOne = true := by
        rw [List.all_eq_true] at h1 hc1 ⊢
        intro c hc
        simp only [List.mem_append] at hc
        rcases hc with (hc | hc) | hc
        · exact h1 c (List.mem_of_mem_take hc)
        · exact hc1 c hc
        · exact h1 c (List.mem_of_mem_drop hc)
      obtain ⟨arr', hf, hr', ho⟩ := aFill_sound hp hrel2 hone (by rw [htot]; simp; omega) h
      refine ⟨arr', ?_, hr', ho⟩
      rw [← hf]
      simp only [Instr.fill, hq]
      rw [if_neg]
      simp only [Bool.or_eq_true, decide_eq_true_eq, bne_iff_ne, ne_eq]
      omega
    · cases h
  | [], _ :: _, _, _, _, hp, _, _, _, _ => hp.elim
  | _ :: _, [], _, _, _, hp, _, _, _, _ => hp.elim

def zeroL (P : Program) (t : TypeId) : Option (List AV) := (P.info? t).bind fun i => i.zero.bind fun z => (absC z).bind AV.cells
theorem zeroL_sound {t : TypeId} {cs : List AV} (h : zeroL P t = some cs) : ∃ i z, P.info? t = some i ∧ i.zero = some z ∧ relL ρ cs z.cells.toList ∧ cs.all AV.isOne = true := by
  simp only [zeroL, Option.bind_eq_some_iff] at h
  obtain ⟨i, hi, z, hz, c, hc, hcs⟩ := h
  have := cells_rel (absC_rel (ρ := ρ) hc) hcs
  exact ⟨i, z, hi, hz, this.1, this.2⟩

def placesOf (P : Program) : List Field → Option (List (Nat × Nat))
  | [] => some []
  | f :: fs => (P.info? f.type).bind fun i => (placesOf P fs).map fun l => (f.offset, i.size) :: l
theorem placesOf_mapM : ∀ {fs : List Field} {l}, placesOf P fs = some l → fs.mapM (fun f => (P.info? f.type).map fun i => (f.offset, i.size)) = some l
  | [], l, h => by simp [placesOf] at h; simp [h]
  | f :: fs, l, h => by
    simp only [placesOf, Option.bind_eq_some_iff, Option.map_eq_some_iff] at h
    obtain ⟨i, hi, l', hl', rfl⟩ := h
    simp [List.mapM_cons, hi, placesOf_mapM hl']

def aBuild (P : Program) (t : TypeId) (parts : List (Nat × AV)) : Option AV := match P.underlying t with
  | some (.array _ e) => (P.info? e).bind fun ie => (zeroL P t).bind fun z => (aFill (fun i => some (i * ie.size, ie.size)) z.length z parts).map .agg
  | some (.struct fs) => (placesOf P fs.toList).bind fun pl => (zeroL P t).bind fun z => (aFill (fun i => pl[i]?) z.length z parts).map .agg
  | _ => none
theorem aBuild_sound {t : TypeId} {parts : List (Nat × AV)} {parts' : Array (Nat × Value)} {c : AV} (hp : partsRel ρ parts parts'.toList) (h : aBuild P t parts = some c) :
    ∃ c', (Instr.build t parts').run P w = .ok c' w ∧ rel ρ c c' := by
  unfold aBuild at h
  split at h
  · rename_i n e hu
    simp only [Option.bind_eq_some_iff, Option.map_eq_some_iff] at h
    obtain ⟨ie, hie, z, hz, cs, hcs, rfl⟩ := h
    obtain ⟨i, zv, hi, hzv, hzr, hz1⟩ := zeroL_sound (ρ := ρ) hz
    obtain ⟨arr, hf, hr, h1⟩ := aFill_sound hp hzr hz1 rfl hcs
    refine ⟨.agg arr, run_build w t parts' arr ?_, h1, arr.toList, hr, by simp⟩
    simp only [Program.built, hi, hu, hzv, hie]
    exact hf
  · rename_i fs hu
    simp only [Option.bind_eq_some_iff, Option.map_eq_some_iff] at h
    obtain ⟨pl, hpl, z, hz, cs, hcs, rfl⟩ := h
    obtain ⟨i, zv, hi, hzv, hzr, hz1⟩ := zeroL_sound (ρ := ρ) hz
    obtain ⟨arr, hf, hr, h1⟩ := aFill_sound hp hzr hz1 rfl hcs
    refine ⟨.agg arr, run_build w t parts' arr ?_, h1, arr.toList, hr, by simp⟩
    simp only [Program.built, hi, hu, hzv, placesOf_mapM hpl]
    simpa using hf
  · cases h

structure NB where
  cells : List AV
  elem : TypeId
  val : Nat → AV
def ptrTo (id : Nat) : AV := .ptr (some (id, 0))
def slTo (n c : Nat) (id : Nat) : AV := .slice (some (id, 0)) n (.kn c)
def NBok (P : Program) (ρ : Ro) (w : World) (nb : NB) (s : Sem Value) : Prop :=
  ∃ arr v', s.run P w = .ok v' (w.alloc (.cells arr nb.elem)) ∧ relL ρ nb.cells arr.toList ∧ nb.cells.all AV.isOne = true ∧ ∀ (ρ' : Ro) id, ρ' id = some ⟨w.heap.size, 0, arr.size⟩ → rel ρ' (nb.val id) v'
theorem run_newRow (elem : TypeId) (cells : Array Value) : (newRow elem cells).run P w = .ok ⟨w.heap.size, 0, none⟩ (w.alloc (.cells cells elem)) := by
  simp [newRow]
theorem ptrTo_rel {ρ' : Ro} {id n l : Nat} (h : ρ' id = some ⟨n, 0, l⟩) : rel ρ' (ptrTo id) (.pointer (some ⟨n, 0, none⟩)) := by
  have := rel_ptr_mk (o := 0) h
  exact this
theorem slTo_rel {ρ' : Ro} {id n l k c : Nat} (h : ρ' id = some ⟨n, 0, l⟩) (hk : k ≤ c) : rel ρ' (slTo k c id) (.slice (some ⟨n, 0, none⟩) k c) :=
  ⟨_, c, by simp [cAddr, h], rfl, hk, rfl⟩

def nAlloc (P : Program) (e : TypeId) : Option NB := (zeroL P e).map fun z => ⟨z, e, ptrTo⟩
theorem nAlloc_sound {e : TypeId} {nb : NB} (hc : nAlloc P e = some nb) (old : Value) : NBok P ρ w nb (Instr.alloc e true old) := by
  simp only [nAlloc, Option.map_eq_some_iff] at hc
  obtain ⟨z, hz, rfl⟩ := hc
  obtain ⟨i, zv, hi, hzv, hzr, hz1⟩ := zeroL_sound (ρ := ρ) hz
  refine ⟨zv.cells, _, ?_, hzr, hz1, fun ρ' id hid => ptrTo_rel hid⟩
  simp only [Instr.alloc, zeroValue, Sem.run_bind, run_typeInfo hi, Result.andThen_ok, hzv, newVar, run_newRow, Sem.run_pure]
def nBox (e : TypeId) (v : AV) : Option NB := v.cells.map fun cs => ⟨cs, e, ptrTo⟩
theorem nBox_sound {e : TypeId} {x : AV} {x' : Value} {nb : NB} (hx : rel ρ x x') (hc : nBox e x = some nb) : NBok P ρ w nb (Instr.box e x') := by
  simp only [nBox, Option.map_eq_some_iff] at hc
  obtain ⟨z, hz, rfl⟩ := hc
  obtain ⟨hzr, hz1⟩ := cells_rel hx hz
  refine ⟨x'.cells, _, ?_, hzr, hz1, fun ρ' id hid => ptrTo_rel hid⟩
  simp only [Instr.box, newVar, run_newRow, Sem.run_bind, Result.andThen_ok, Sem.run_pure]

def pat (z : List AV) (n : Nat) : List AV := (List.range n).map fun i => z.getD (i % z.length) .nilFunc
theorem pat_rel {z : List AV} {zs : Array Value} (hz : relL ρ z zs.toList) (h1 : z.all AV.isOne = true) (n : Nat) (hn : n = 0 ∨ 0 < z.length) :
    relL ρ (pat z n) ((Array.range n).map (zs[· % zs.size]!)).toList ∧ (pat z n).all AV.isOne = true := by
  have hl := relL_length hz
  simp only [Array.length_toList] at hl
  rcases hn with rfl | hn
  · simp [pat, relL]
  · have key : ∀ l : List Nat, relL ρ (l.map fun i => z.getD (i % z.length) .nilFunc) (l.map (zs[· % zs.size]!)) := by
      intro l
      induction l with
      | nil => simp [relL]
      | cons i l ih =>
        have hlt : i % z.length < z.length := Nat.mod_lt _ hn
        obtain ⟨v, hv, hi⟩ := relL_get hz (i % z.length) z[i % z.length] (List.getElem?_eq_getElem hlt)
        refine relL_cons ?_ ih
        have e1 : z.getD (i % z.length) .nilFunc = z[i % z.length] := by simp [List.getD_eq_getElem?_getD, List.getElem?_eq_getElem hlt]
        have e2 : zs[i % zs.size]! = v := by
          rw [hl]
          have : zs[i % z.length]? = some v := by simpa using hi
          simp [getElem!_def, this]
        show rel ρ (z.getD (i % z.length) .nilFunc) (zs[i % zs.size]!)
        rw [e1, e2]
        exact hv
    refine ⟨by simpa [pat] using key (List.range n), ?_⟩
    rw [List.all_eq_true] at h1 ⊢
    intro c hc
    simp only [pat, List.mem_map] at hc
    obtain ⟨i, _, rfl⟩ := hc
    have hlt : i % z.length < z.length := Nat.mod_lt _ hn
    simp only [List.getD_eq_getElem?_getD, List.getElem?_eq_getElem hlt, Option.getD_some]
    exact h1 _ (List.getElem_mem hlt)

def nBuildSlice (P : Program) (t : TypeId) (len : Nat) (parts : List (Nat × AV)) : Option NB := match P.underlying t with
  | some (.slice e) => (zeroL P e).bind fun z => if len * P.cellsOf e ≤ 16777216 ∧ 0 < z.length then
      (aFill (fun i => some (i * P.cellsOf e, P.cellsOf e)) (len * P.cellsOf e) (pat z (len * P.cellsOf e)) parts).map fun cs => ⟨cs, e, slTo len len⟩ else none
  | _ => none
theorem nBuildSlice_sound {t : TypeId} {len : Nat} {parts : List (Nat × AV)} {parts' : Array (Nat × Value)} {nb : NB} (hp : partsRel ρ parts parts'.toList)
    (hc : nBuildSlice P t len parts = some nb) : NBok P ρ w nb (Instr.buildSlice t len parts') := by
  unfold nBuildSlice at hc
  split at hc
  · rename_i e hu
    simp only [Option.bind_eq_some_iff] at hc
    obtain ⟨z, hz, hc⟩ := hc
    split at hc
    · rename_i hle
      simp only [Option.map_eq_some_iff] at hc
      obtain ⟨cs, hcs, rfl⟩ := hc
      obtain ⟨i, zv, hi, hzv, hzr, hz1⟩ := zeroL_sound (ρ := ρ) hz
      obtain ⟨hpr, hp1⟩ := pat_rel hzr hz1 (len * P.cellsOf e) (.inr hle.2)
      obtain ⟨arr, hf, hr, h1⟩ := aFill_sound hp hpr hp1 (by simp [pat]) hcs
      refine ⟨arr, .slice (some ⟨w.heap.size, 0, none⟩) len len, ?_, hr, h1, fun ρ' id hid => slTo_rel hid (Nat.le_refl _)⟩
      have hs : (sizeOf e).run P w = .ok (P.cellsOf e) w := by rw [run_sizeOf hi, cellsOf_of hi]
      have hle' : ¬ (len * P.cellsOf e > 2 ^ 24) := by have := hle.1; omega
      simp only [Instr.buildSlice, run_underlying hu, Sem.run_bind, Result.andThen_ok, hs, Sem.run_ite, if_neg hle', Sem.run_pure]
      by_cases h0 : len * P.cellsOf e = 0
      · rw [h0] at hf
        simp only [h0, if_true, Result.andThen_ok]
        have : ((Array.range 0).map fun x => (#[] : Array Value)[x % (#[] : Array Value).size]!) = (Array.range 0).map (zv.cells[· % zv.cells.size]!) := by simp
        rw [this, hf]
        simp [run_newRow]
      · simp only [if_neg h0, zeroValue, Sem.run_bind, run_typeInfo hi, hzv, Result.andThen_ok, Sem.run_pure, hf, run_newRow]
    · cases hc
  · cases hc

def nMakeSlice (P : Program) (t : TypeId) (l c : AV) : Option NB := match P.underlying t with
  | some (.slice e) => (P.info? e).bind fun i => (zeroL P e).bind fun z => (match l, c with
    | .int .i64 l, .int .i64 c => if 0 ≤ l ∧ l ≤ c ∧ (i.bytes : Int) * c ≤ 281474976710656 ∧ c ≤ 9223372036854775807 ∧ 0 < z.length then
        some ⟨pat z (c.toNat * P.cellsOf e), e, slTo l.toNat c.toNat⟩ else none
    | _, _ => none)
  | _ => none
theorem wrap_small {n : Int} (h0 : 0 ≤ n) (h : n ≤ 9223372036854775807) : IntKind.i64.wrap n = n := by
  rw [IntKind.wrap_i64]
  omega
theorem nMakeSlice_sound {t : TypeId} {l c : AV} {l' c' : Value} {nb : NB} (hl : rel ρ l l') (hcc : rel ρ c c')
    (hc : nMakeSlice P t l c = some nb) : NBok P ρ w nb (Instr.makeSlice t l' c') := by
  unfold nMakeSlice at hc
  split at hc
  · rename_i e hu
    simp only [Option.bind_eq_some_iff] at hc
    obtain ⟨i, hi, z, hz, hc⟩ := hc
    split at hc
    · rename_i l c
      split at hc
      · rename_i hcond
        obtain ⟨h0, h1, h2, h3, h4⟩ := hcond
        cases hc
        simp only [rel] at hl hcc
        subst hl hcc
        obtain ⟨i', zv, hi', hzv, hzr, hz1⟩ := zeroL_sound (ρ := ρ) hz
        rw [hi] at hi'
        cases hi'
        obtain ⟨hpr, hp1⟩ := pat_rel hzr hz1 (c.toNat * P.cellsOf e) (.inr h4)
        refine ⟨_, .slice (some ⟨w.heap.size, 0, none⟩) l.toNat c.toNat, ?_, hpr, hp1, fun ρ' id hid => slTo_rel hid (by omega)⟩
        have hs : (sizeOf e).run P w = .ok (P.cellsOf e) w := by rw [run_sizeOf hi, cellsOf_of hi]
        have w1 := wrap_small h0 (by omega)
        have w2 := wrap_small (n := c) (by omega) h3
        have hcond : (decide (c < 0) || decide ((i.bytes : Int) * c > 2 ^ 48) || decide (l < 0) || decide (l > c)) = false := by
          simp only [Bool.or_eq_false_iff, decide_eq_false_iff_not]
          omega
        simp only [Instr.makeSlice, run_underlying hu, Sem.run_bind, Result.andThen_ok, asInt, asIntOf, Sem.run_pure, run_typeInfo hi, w1, w2, hcond]
        simp only [Bool.false_eq_true, if_false, Result.andThen_ok, Sem.run_pure, Sem.run_bind]
        simp only [run_askRoom, Result.andThen_ok, hs]
        by_cases hz0 : c.toNat * P.cellsOf e = 0
        · simp only [hz0, if_true, Sem.run_pure, Sem.run_bind, Result.andThen_ok, run_newRow]
          have e1 : ((Array.range 0).map fun x => (#[] : Array Value)[x % (#[] : Array Value).size]!) = (Array.range 0).map (zv.cells[· % zv.cells.size]!) := by simp
          rw [e1]
        · simp only [if_neg hz0, zeroValue, Sem.run_bind, run_typeInfo hi, hzv, Result.andThen_ok, Sem.run_pure, run_newRow]
      · cases hc
    · cases hc
  · cases hc
end
end Go.Ri
set_option linter.unusedVariables false
set_option linter.unusedSimpArgs false
namespace Go.Ri
section
variable {P : Program} {ρ : Ro} {H : AH} {w : World}

def stAt (p : Nat × Nat) (cs : List AV) (H : AH) : Option AH := match cs with
  | [] => some H
  | c :: cs => H.st p (c :: cs)
theorem stAt_sound (h : Sim P ρ H w) {b o : Nat} {cs : List AV} {H' : AH} {r : RB} (hr : ρ b = some r) (hc : stAt (b, o) cs H = some H') {us : List Value} (hu : relL ρ cs us) (h1 : cs.all AV.isOne = true) :
    ∃ w', (storeCells ⟨r.blk, r.base + o, none⟩ us).run P w = .ok () w' ∧ Out P ρ H w ρ H' w' := by
  cases cs with
  | nil =>
    cases hc
    simp only [relL] at hu
    subst hu
    exact ⟨w, rfl, .refl h⟩
  | cons c cs =>
    obtain ⟨r', w', hr', hrun, ho⟩ := st_sound h hc hu h1
    rw [hr] at hr'
    cases hr'
    exact ⟨w', hrun, ho⟩

def stV (v : AV) (cs : List AV) (H : AH) : Option AH := match v with
  | .ptr (some p) => H.st p cs
  | _ => none
def aStore (P : Program) (t : TypeId) (v x : AV) (H : AH) : Option AH :=
  if (P.info? t).isSome = true then x.cells.bind fun cs => if cs.length = P.cellsOf t then stV v cs H else none else none
theorem aStore_sound (h : Sim P ρ H w) {t : TypeId} {v x : AV} {v' x' : Value} {H' : AH} (hv : rel ρ v v') (hx : rel ρ x x') (hc : aStore P t v x H = some H') :
    ∃ w', (Instr.storeAt t v' x').run P w = .ok () w' ∧ Out P ρ H w ρ H' w' := by
  unfold aStore at hc
  split at hc
  · rename_i hinf
    simp only [Option.bind_eq_some_iff] at hc
    obtain ⟨cs, hcs, hc⟩ := hc
    split at hc
    · rename_i hl
      unfold stV at hc
      split at hc
      · rename_i p
        obtain ⟨b, o⟩ := p
        obtain ⟨r, hr, rfl⟩ := rel_ptr hv
        obtain ⟨hcr, h1⟩ := cells_rel hx hcs
        obtain ⟨r', w', hr', hrun, ho⟩ := st_sound h hc hcr h1
        rw [hr] at hr'
        cases hr'
        have hsz : x'.cells.size = P.cellsOf t := by
          have := relL_length hcr
          simp only [Array.length_toList] at this
          omega
        exact ⟨w', by simp [Instr.storeAt, Instr.sureAddr, storeVar, run_size' hinf, hsz, hrun], ho⟩
      · cases hc
    · cases hc
  · cases hc

def aLenOf (v : AV) : Option Nat := match v with
  | .slice _ n _ => some n
  | .empty => some 0
  | .str s => some s.size
  | _ => none
theorem aLenOf_sound {v : AV} {v' : Value} {n : Nat} (hv : rel ρ v v') (h : aLenOf v = some n) : (Builtin.lenOf v').run P w = .ok n w := by
  unfold aLenOf at h
  split at h
  · obtain ⟨_, _, _, _, _, rfl⟩ := hv; cases h; rfl
  · obtain ⟨_, _, rfl⟩ := hv; cases h; rfl
  · simp only [rel] at hv; subst hv; cases h; rfl
  · cases h

def strCells (s : ByteArray) : List AV := s.data.toList.map fun b => .int .u8 b.toNat
def srcN (sz n : Nat) (v : AV) (H : AH) : Option (List AV) := match n with
  | 0 => some []
  | n + 1 => match v with
    | .slice (some p) _ _ => H.ldN p ((n + 1) * sz)
    | .str s => if n + 1 = s.size ∧ sz = 1 then some (strCells s) else none
    | _ => none
theorem strCells_rel (s : ByteArray) : relL ρ (strCells s) (s.data.map fun b => Value.int .u8 b.toNat).toList ∧ (strCells s).all AV.isOne = true := by
  have key : ∀ l : List UInt8, relL ρ (l.map fun b => AV.int .u8 b.toNat) (l.map fun b => Value.int .u8 b.toNat) ∧ (l.map fun b => AV.int .u8 b.toNat).all AV.isOne = true := by
    intro l
    induction l with
    | nil => simp [relL]
    | cons b l ih =>
      refine ⟨relL_cons (by simp [rel]) ih.1, ?_⟩
      simp only [List.map_cons, List.all_cons, ih.2, Bool.and_true]
      rfl
  simpa [strCells] using key s.data.toList

theorem srcN_sound (h : Sim P ρ H w) {sz n : Nat} {v : AV} {v' : Value} {cs : List AV} (hv : rel ρ v v') (hn : ∃ m, aLenOf v = some m) (hc : srcN sz n v H = some cs) :
    ∃ us : Array Value, relL ρ cs us.toList ∧ cs.all AV.isOne = true ∧ cs.length = n * sz ∧ (∀ k, (Builtin.firstCells sz n v').run P { w with drawn := k } = .ok us { w with drawn := k }) := by
  cases n with
  | zero =>
    cases hc
    refine ⟨#[], by simp [relL], rfl, by simp, fun k => ?_⟩
    obtain ⟨m, hm⟩ := hn
    unfold aLenOf at hm
    split at hm
    · obtain ⟨x, _, _, _, _, rfl⟩ := hv
      cases x <;> simp [Builtin.firstCells, loadCells, loadCellsFrom]
    · obtain ⟨x, _, rfl⟩ := hv
      simp [Builtin.firstCells, loadCells, loadCellsFrom]
    · simp only [rel] at hv; subst hv
      simp [Builtin.firstCells]
    · cases hm
  | succ n =>
    unfold srcN at hc
    simp only at hc
    split at hc
    · rename_i p len cap
      obtain ⟨b, o⟩ := p
      obtain ⟨r, vs, hr, hvs, hn', hcl, h1, hcell⟩ := ldN_sound h hc
      simp only [rel, cAddr, Option.map_eq_some_iff] at hv
      obtain ⟨x, y, ⟨r', hr', rfl⟩, hy, hle, rfl⟩ := hv
      rw [hr] at hr'
      cases hr'
      refine ⟨vs.toArray, hvs, h1, hcl, fun k => ?_⟩
      have := run_loadCells_list (P := P) { w with drawn := k } ⟨r.blk, r.base + o, none⟩ vs (fun j v hj => hcell j v hj)
      rw [hn'] at this
      simpa [Builtin.firstCells] using this
    · rename_i s
      split at hc
      · rename_i hs
        obtain ⟨hs, rfl⟩ := hs
        cases hc
        simp only [rel] at hv
        subst hv
        refine ⟨s.data.map fun b => Value.int .u8 b.toNat, (strCells_rel s).1, (strCells_rel (ρ := ρ) s).2, ?_, fun k => ?_⟩
        · simp only [strCells, List.length_map, Array.length_toList, Nat.mul_one]
          exact hs.symm
        · rw [hs]
          have : (s.extract 0 s.size).data = s.data := by simp [ByteArray.data_extract]
          simp [Builtin.firstCells, this]
      · cases hc
    · cases hc

theorem run_append_fit {st xt ty e : TypeId} {i : TypeInfo} {dx : TypeDesc} {base : Option Addr} {sLen sCap n : Nat} {x' : Value} {us : Array Value} {w' : World} (ht : P.underlying st = some (.slice e)) (hx : P.underlying xt = some dx)
    (hdx : ∀ k, dx ≠ .int k) (hi : P.info? e = some i) (hl : (Builtin.lenOf x').run P w = .ok n w) (hf : (Builtin.firstCells i.size n x').run P w = .ok us w) (hfit : sLen + n ≤ sCap)
    (hst : (match base with | some a => storeCells (a.add (sLen * i.size)) us.toList | none => pure () : Sem Unit).run P w = .ok () w') :
    (Builtin.append_ #[st, xt] ty #[.slice base sLen sCap, x']).run P w = .ok (.slice base (sLen + n) sCap) w' := by
  have hz : (dx matches .int _) = false := by
    cases dx <;> first | rfl | (exact absurd rfl (hdx _))
  cases base with
  | none =>
    simp only [Sem.run_pure] at hst
    cases hst
    simp [Builtin.append_, run_underlying ht, run_underlying hx, sizeOf, typeInfo, hi, hl, hf, hfit, hz]
  | some a =>
    simp [Builtin.append_, run_underlying ht, run_underlying hx, sizeOf, typeInfo, hi, hl, hf, hfit, hz, hst]

theorem run_append_more {st xt ty e : TypeId} {i : TypeInfo} {z : Value} {dx : TypeDesc} {base : Option Addr} {sLen sCap n : Nat} {x' : Value} {us os : Array Value} (ht : P.underlying st = some (.slice e)) (hx : P.underlying xt = some dx)
    (hdx : ∀ k, dx ≠ .int k) (hi : P.info? e = some i) (hz : i.zero = some z) (hl : (Builtin.lenOf x').run P w = .ok n w) (hf : ∀ k, (Builtin.firstCells i.size n x').run P { w with drawn := k } = .ok us { w with drawn := k })
    (ho : ∀ k, (Builtin.firstCells i.size sLen (.slice base sLen sCap)).run P { w with drawn := k } = .ok os { w with drawn := k }) (hg : sCap < sLen + n) (hb : (sLen + n) * i.bytes ≤ 140737488355328) (h63 : sLen + n ≤ 9223372036854775807) :
    ∃ cap more, sLen + n ≤ cap ∧ more = Builtin.zeroCells z.cells (cap - (sLen + n)) ∧ (Builtin.append_ #[st, xt] ty #[.slice base sLen sCap, x']).run P w =
      .ok (.slice (some ⟨w.heap.size, 0, none⟩) (sLen + n) cap) (World.alloc { w with drawn := w.drawn + 1 } (.cells (os ++ us ++ more) e)) := by
  have hzz : (dx matches .int _) = false := by
    cases dx <;> first | rfl | (exact absurd rfl (hdx _))
  have hn : ¬ (sLen + n ≤ sCap) := by omega
  have h63' : ¬ (9223372036854775807 < ((sLen : Int) + (n : Int))) := by omega
  have hfits := growslice_fits (bytes := i.bytes) hg hb
  have h48' : ¬ (281474976710656 < Builtin.nextslicecap (sLen + n) sCap * i.bytes) := by omega
  refine ⟨grownCap w (sLen + n) sCap e, _, grownCap_ge w _ _ _, rfl, ?_⟩
  have hf' := hf (w.drawn + 1)
  have ho' := ho (w.drawn + 1)
  simp only [World.drew_eq] at hf' ho'
  simp [Builtin.append_, run_underlying ht, run_underlying hx, sizeOf, typeInfo, zeroValue, hi, hz, hl, hf', ho', hn, hzz, h63', h48', Question.forced, newRow, grownCap]

def oldN (sz n : Nat) (p : Option (Nat × Nat)) (H : AH) : Option (List AV) := match n, p with
  | 0, _ => some []
  | n + 1, some p => H.ldN p ((n + 1) * sz)
  | _, none => none
theorem oldN_sound (h : Sim P ρ H w) {sz n c : Nat} {p : Option (Nat × Nat)} {x : Option Addr} {cs : List AV} (hx : cAddr ρ p = some x) (hc : oldN sz n p H = some cs) :
    ∃ us : Array Value, relL ρ cs us.toList ∧ cs.all AV.isOne = true ∧ cs.length = n * sz ∧ (∀ k, (Builtin.firstCells sz n (.slice x n c)).run P { w with drawn := k } = .ok us { w with drawn := k }) := by
  unfold oldN at hc
  split at hc
  · cases hc
    refine ⟨#[], by simp [relL], rfl, by simp, fun k => ?_⟩
    cases x <;> simp [Builtin.firstCells, loadCells, loadCellsFrom]
  · rename_i n q
    obtain ⟨b, o⟩ := q
    obtain ⟨r, vs, hr, hvs, hn', hcl, h1, hcell⟩ := ldN_sound h hc
    simp only [cAddr, Option.map_eq_some_iff] at hx
    obtain ⟨r', hr', rfl⟩ := hx
    rw [hr] at hr'
    cases hr'
    refine ⟨vs.toArray, hvs, h1, hcl, fun k => ?_⟩
    have := run_loadCells_list (P := P) { w with drawn := k } ⟨r.blk, r.base + o, none⟩ vs (fun j v hj => hcell j v hj)
    rw [hn'] at this
    simpa [Builtin.firstCells] using this
  · cases hc

def grow (sz bytes : Nat) (e : TypeId) (olds news : List AV) (need : Nat) (H : AH) : Option (AV × AH) :=
  if need * bytes ≤ 140737488355328 ∧ need ≤ 9223372036854775807 then some (.slice (some (H.next, 0)) need (.op sz), H.new (olds ++ news) e) else none

theorem zeroCells_size (z : Array Value) (n : Nat) : (Builtin.zeroCells z n).size = n * z.size := by simp [Builtin.zeroCells]

theorem grow_sound (h : Sim P ρ H w) {H0 : AH} (hk : ∀ b B, H0.m b = some B → H.m b = some B) (hn : H0.next = H.next) {st xt ty e : TypeId} {i : TypeInfo} {z : Value} {dx : TypeDesc} {base : Option Addr} {sLen sCap n sz : Nat} {x' : Value} {us os : Array Value} {news olds : List AV} {v : AV} {H' : AH}
    (ht : P.underlying st = some (.slice e)) (hx : P.underlying xt = some dx) (hdx : ∀ k, dx ≠ .int k) (hi : P.info? e = some i) (hz : i.zero = some z) (hsz : i.size = sz) (hzs : z.cells.size = sz) (hpos : 0 < sz)
    (hl : (Builtin.lenOf x').run P w = .ok n w) (hf : ∀ k, (Builtin.firstCells i.size n x').run P { w with drawn := k } = .ok us { w with drawn := k })
    (ho : ∀ k, (Builtin.firstCells i.size sLen (.slice base sLen sCap)).run P { w with drawn := k } = .ok os { w with drawn := k }) (hg : sCap < sLen + n)
    (hus : relL ρ news us.toList) (hos : relL ρ olds os.toList) (h1 : news.all AV.isOne = true) (h2 : olds.all AV.isOne = true) (hnl : news.length = n * sz) (hol : olds.length = sLen * sz)
    (hc : grow sz i.bytes e olds news (sLen + n) H0 = some (v, H')) :
    ∃ ρ' v' w', (Builtin.append_ #[st, xt] ty #[.slice base sLen sCap, x']).run P w = .ok v' w' ∧ rel ρ' v v' ∧ Out P ρ H w ρ' H' w' := by
  unfold grow at hc
  split at hc
  · rename_i hb
    obtain ⟨hb, h63⟩ := hb
    cases hc
    obtain ⟨cap, more, hcap, hmore, hrun⟩ := run_append_more (P := P) (w := w) ht hx hdx hi hz hl hf ho hg hb h63 (ty := ty)
    have h0 : Sim P ρ H0 w := h.sub hn hk
    have hd := h0.drew (w.drawn + 1)
    have hrel : relL ρ (olds ++ news) (os ++ us).toList := by rw [Array.toList_append]; exact relL_append hos hus
    have hall : (olds ++ news).all AV.isOne = true := by rw [List.all_append, h1, h2]; rfl
    obtain ⟨ρ', hρ, hout⟩ : ∃ ρ', ρ' H0.next = some ⟨w.heap.size, 0, ((os ++ us).toList ++ more.toList).length⟩ ∧ Out P ρ H0 { w with drawn := w.drawn + 1 } ρ' (H0.new (olds ++ news) e) (World.alloc { w with drawn := w.drawn + 1 } (.cells ((os ++ us).toList ++ more.toList).toArray e)) :=
      ⟨_, by simp, new_sound (elem := e) (more := more.toList) hd hrel hall⟩
    have hout2 : Out P ρ H w ρ' (H0.new (olds ++ news) e) (World.alloc { w with drawn := w.drawn + 1 } (.cells (os ++ us ++ more) e)) := by
      have e1 : ((os ++ us).toList ++ more.toList).toArray = os ++ us ++ more := by apply Array.ext'; simp
      rw [e1] at hout
      have hsub : Out P ρ H w ρ H0 { w with drawn := w.drawn + 1 } :=
        ⟨fun _ _ => rfl, Nat.le_of_eq hn.symm, hd, rfl, rfl, rfl, Nat.le_refl _, fun _ _ _ => rfl, fun b B r hb hρ _ => ⟨b, B, r, hk b B hb, hρ, rfl, id⟩⟩
      exact hsub.trans hout
    refine ⟨ρ', _, _, hrun, ?_, hout2⟩
    have hlen1 := relL_length hrel
    have hlim : ((os ++ us).toList ++ more.toList).length = cap * sz := by
      rw [List.length_append, hlen1, List.length_append, hnl, hol, hmore, Array.length_toList, zeroCells_size, hzs, ← Nat.add_mul, ← Nat.add_mul]
      congr 1
      omega
    refine ⟨some ⟨w.heap.size, 0, none⟩, cap, ?_, ?_, hcap, rfl⟩
    · simp only [cAddr, hρ]
      rfl
    · simp only [cCap, hρ, Option.map_some, hlim, Nat.sub_zero, Option.some.injEq]
      exact Nat.mul_div_cancel _ hpos
  · cases hc

def seqT (P : Program) (t : TypeId) : Bool := match P.underlying t with
  | some (.slice _) => true
  | some .string => true
  | _ => false
theorem seqT_spec {t : TypeId} (h : seqT P t = true) : ∃ d, P.underlying t = some d ∧ ∀ k, d ≠ .int k := by
  unfold seqT at h
  split at h
  · rename_i hu; exact ⟨_, hu, fun k => by simp⟩
  · rename_i hu; exact ⟨_, hu, fun k => by simp⟩
  · cases h

def isSl : AV → Bool
  | .slice _ _ _ => true
  | .empty => true
  | _ => false
theorem inplace_sound (h : Sim P ρ H w) {b o len n sz y : Nat} {B : Blk} {r : RB} {e : TypeId} {us : List Value} {news olds : List AV} (hB : H.m b = some B) (hr : ρ b = some r) (hrw : B.rw_ = true) (hel : B.elem = e)
    (hy : y = (r.lim - o) / sz) (hpos : 0 < sz) (hn : 0 < n) (hfit : len + n ≤ y) (hold : oldN sz len (some (b, o)) H = some olds) (hus : relL ρ news us) (h1 : news.all AV.isOne = true) (h2 : olds.all AV.isOne = true) (hul : us.length = n * sz) :
    ∃ ρ' w', (storeCells ⟨r.blk, r.base + o + len * sz, none⟩ us).run P w = .ok () w' ∧ rel ρ' (.slice (some (H.next, 0)) (len + n) (.op sz)) (.slice (some ⟨r.blk, r.base + o, none⟩) (len + n) y) ∧
      Out P ρ H w ρ' ((H.kill b).new (olds ++ news) e) w' := by
  obtain ⟨r0, cs, fr, vs, hr0, hw, hs, hf, hv, hvl, hcs, hall⟩ := h.blk b B hB
  rw [hr] at hr0
  cases hr0
  have hfr := hf hrw
  subst hfr
  subst hel
  have hroom : (len + n) * sz ≤ r.lim - o := by
    have := Nat.div_mul_le_self (r.lim - o) sz
    rw [← hy] at this
    exact Nat.le_trans (Nat.mul_le_mul_right _ hfit) this
  have hexp : (len + n) * sz = len * sz + n * sz := Nat.add_mul _ _ _
  have hp2 : 0 < n * sz := Nat.mul_pos hn hpos
  have hone : ∀ v ∈ us, v.oneCell' = true := fun v hvm => by
    obtain ⟨c, hc, hcv⟩ := relL_mem hus hvm
    exact oneCell_of_isOne hcv (List.all_eq_true.1 h1 c hc)
  have hrun := run_storeCells_at P r.blk (r.base + o + len * sz) B.elem us 0 cs w hw (by omega) hone
  have hlt : r.blk < w.heap.size := (Array.getElem?_eq_some_iff.1 hw).1
  have hself := setRow_heap w r.blk cs (cs.toList.take (r.base + o + len * sz + 0) ++ us ++ cs.toList.drop (r.base + o + len * sz + 0 + us.length)).toArray B.elem (0, 0) hw
  have hbl := relL_length hv
  -- the old cells
  have holds : relL ρ olds ((vs.drop o).take (len * sz)) ∧ olds.length = len * sz ∧ o + len * sz ≤ vs.length ∨ (len = 0 ∧ olds = []) := by
    unfold oldN at hold
    split at hold
    · cases hold; exact .inr ⟨rfl, rfl⟩
    · rename_i k q heq
      cases heq
      simp only [Nat.succ_eq_add_one] at *
      simp only [AH.ldN, hB, Option.bind_some] at hold
      split at hold
      · rename_i hle
        cases hold
        exact .inl ⟨relL_take _ (relL_drop _ hv), by simp; omega, by omega⟩
      · cases hold
    · cases hold
  obtain ⟨os, hos, hol, hocs⟩ : ∃ os, relL ρ olds os ∧ os.length = len * sz ∧ ∀ i v, os[i]? = some v → cs[r.base + o + i]? = some v := by
    rcases holds with ⟨ha, hb, hc⟩ | ⟨rfl, rfl⟩
    · refine ⟨_, ha, by simp; omega, fun i v hi => ?_⟩
      rw [List.getElem?_take] at hi
      split at hi
      · rw [List.getElem?_drop] at hi
        have := hcs _ v hi
        rwa [← Nat.add_assoc] at this
      · cases hi
    · exact ⟨[], relL_nil ρ, by simp, fun i v hi => by simp at hi⟩
  have hle : ρ.le (fun x => if x = H.next then some ⟨r.blk, r.base + o, r.lim - o⟩ else ρ x) := by
    intro b' r' hb'
    have : b' ≠ H.next := fun e => by
      subst e
      rw [h.fresh _ (Nat.le_refl _)] at hb'
      cases hb'
    simp [this, hb']
  have hkill : ∀ b' B', b' ≠ H.next → ((H.kill b).new (olds ++ news) B.elem).m b' = some B' → b' ≠ b ∧ H.m b' = some B' := by
    intro b' B' hne hh
    simp only [AH.new, AH.kill, setM_other _ _ hne] at hh
    by_cases hbb : b' = b
    · subst hbb; simp [setM_same] at hh
    · rw [setM_other _ _ hbb] at hh; exact ⟨hbb, hh⟩
  have hnext : ((H.kill b).new (olds ++ news) B.elem).m H.next = some ⟨olds ++ news, B.elem, true⟩ := by simp [AH.new, AH.kill, setM_same]
  refine ⟨fun x => if x = H.next then some ⟨r.blk, r.base + o, r.lim - o⟩ else ρ x, _, hrun, ⟨some ⟨r.blk, r.base + o, none⟩, y, by simp [cAddr], ?_, hfit, rfl⟩, fun b' hb' => by simp [Nat.ne_of_lt hb'], Nat.le_succ _, ⟨fun b' B' hB' => ?_, ?_, fun b' hb' => ?_, fun g hg => ?_⟩, rfl, rfl, rfl, by simp [World.setRow], fun i hi hfoot => ?_, ?_⟩
  · simp only [cCap, if_true, Option.map_some, Nat.sub_zero, hy]
  · by_cases hbb : b' = H.next
    · subst hbb
      rw [hnext] at hB'
      cases hB'
      refine ⟨⟨r.blk, r.base + o, r.lim - o⟩, _, _, os ++ us, by simp, hself, ?_, fun _ => rfl, relL_mono hle _ (relL_append hos hus), ?_, fun i v hi => ?_, ?_⟩
      · simp; omega
      · simp only [List.length_append]; omega
      · simp only [List.getElem?_toArray]
        have hcl : cs.toList.length = cs.size := by simp
        have e2 : min (r.base + o + len * sz + 0) cs.toList.length = r.base + o + len * sz := by omega
        rw [List.append_assoc, List.getElem?_append]
        simp only [List.length_take, e2]
        rw [List.getElem?_append] at hi
        by_cases hi1 : i < os.length
        · rw [if_pos hi1] at hi
          rw [if_pos (by omega), List.getElem?_take, if_pos (by omega)]
          have := hocs i v hi
          simpa using this
        · rw [if_neg hi1] at hi
          rw [if_neg (by omega), List.getElem?_append]
          have hlt2 := (List.getElem?_eq_some_iff.1 hi).1
          rw [if_pos (by omega), show r.base + o + i - (r.base + o + len * sz) = i - os.length by omega]
          exact hi
      · rw [List.all_append, h1, h2]; rfl
    · obtain ⟨hne, hB0⟩ := hkill b' B' hbb hB'
      obtain ⟨r', cs', fr', vs', g1, g2, g3, g4, g5, g6⟩ := h.blk b' B' hB0
      refine ⟨r', cs', fr', vs', hle _ _ g1, ?_, g3, g4, relL_mono hle _ g5, g6⟩
      rw [getElem?_setRow]
      · exact g2
      · exact fun e => hne (h.inj b' b B' B r' r hB0 hB (.inr hrw) g1 hr e)
  · intro b1 b2 B1 B2 r1 r2 hb1 hb2 hor g1 g2 he
    by_cases e1 : b1 = H.next <;> by_cases e2 : b2 = H.next
    · rw [e1, e2]
    · obtain ⟨hne, hB0⟩ := hkill b2 B2 e2 hb2
      simp only [e1, e2, if_false, if_true] at g1 g2
      cases g1
      exact absurd (h.inj b2 b B2 B r2 r hB0 hB (.inr hrw) g2 hr he.symm) hne
    · obtain ⟨hne, hB0⟩ := hkill b1 B1 e1 hb1
      simp only [e1, e2, if_false, if_true] at g1 g2
      cases g2
      exact absurd (h.inj b1 b B1 B r1 r hB0 hB (.inr hrw) g1 hr he) hne
    · obtain ⟨_, k1⟩ := hkill b1 B1 e1 hb1
      obtain ⟨_, k2⟩ := hkill b2 B2 e2 hb2
      simp only [e1, e2, if_false] at g1 g2
      exact h.inj b1 b2 B1 B2 r1 r2 k1 k2 hor g1 g2 he
  · simp only [AH.new, AH.kill] at hb'
    have : b' ≠ H.next := by omega
    simp only [this, if_false]
    exact h.fresh b' (by omega)
  · obtain ⟨l, hg'⟩ := h.glob g hg
    exact ⟨l, hle _ _ hg'⟩
  · rw [getElem?_setRow]
    exact fun e => hfoot b B r hB hrw hr e.symm
  · intro b' B' r' hb' hr' hlt'
    by_cases hbb : b' = H.next
    · simp only [hbb, if_true] at hr'
      cases hr'
      exact ⟨b, B, r, hB, hr, rfl, fun _ => hrw⟩
    · obtain ⟨_, hB0⟩ := hkill b' B' hbb hb'
      simp only [hbb, if_false] at hr'
      exact ⟨b', B', r', hB0, hr', rfl, id⟩

def appTo (sz bytes : Nat) (e : TypeId) (s : AV) (n : Nat) (news : List AV) (H : AH) : Option (AV × AH) := match n with
  | 0 => some (s, H)
  | n + 1 => match s with
    | .slice p len (.kn c) => if len + (n + 1) ≤ c then (match p with
        | some p => (stAt (p.1, p.2 + len * sz) news H).map fun H' => (.slice (some p) (len + (n + 1)) (.kn c), H')
        | none => none)
      else (oldN sz len p H).bind fun olds => grow sz bytes e olds news (len + (n + 1)) H
    | .slice (some p) len (.op z) => (H.m p.1).bind fun B => if z = sz ∧ B.rw_ = true ∧ B.elem = e then
        (oldN sz len (some p) H).bind fun olds => grow sz bytes e olds news (len + (n + 1)) (H.kill p.1) else none
    | _ => none
def aAppend (P : Program) (st xt : TypeId) (s x : AV) (H : AH) : Option (AV × AH) := match P.underlying st with
  | some (.slice e) => (P.info? e).bind fun i => (zeroL P e).bind fun z => if seqT P xt = true ∧ 0 < z.length ∧ z.length = i.size ∧ isSl s = true then
      (aLenOf x).bind fun n => (srcN i.size n x H).bind fun news => appTo i.size i.bytes e s n news H else none
  | _ => none

theorem aAppend_sound (h : Sim P ρ H w) {st xt ty : TypeId} {s x v : AV} {s' x' : Value} {H' : AH} (hs : rel ρ s s') (hx : rel ρ x x') (hc : aAppend P st xt s x H = some (v, H')) :
    ∃ ρ' v' w', (Builtin.append_ #[st, xt] ty #[s', x']).run P w = .ok v' w' ∧ rel ρ' v v' ∧ Out P ρ H w ρ' H' w' := by
  unfold aAppend at hc
  split at hc
  · rename_i e ht
    simp only [Option.bind_eq_some_iff] at hc
    obtain ⟨i, hi, z, hz, hc⟩ := hc
    split at hc
    · rename_i hcond
      obtain ⟨hseq, hz0, hzl, hsl⟩ := hcond
      obtain ⟨dx, hxt, hdx⟩ := seqT_spec hseq
      simp only [Option.bind_eq_some_iff] at hc
      obtain ⟨n, hn, news, hnews, hc⟩ := hc
      obtain ⟨i', zv, hi', hzv, hzr, hz1⟩ := zeroL_sound (ρ := ρ) hz
      rw [hi] at hi'
      cases hi'
      have hzs : zv.cells.size = i.size := by
        have := relL_length hzr
        simp only [Array.length_toList] at this
        omega
      have hl := aLenOf_sound (P := P) (w := w) hx hn
      obtain ⟨us, hus, h1, hnl, hf⟩ := srcN_sound h hx ⟨n, hn⟩ hnews
      have hfw : (Builtin.firstCells i.size n x').run P w = .ok us w := hf w.drawn
      unfold appTo at hc
      split at hc
      · cases hc
        have hus0 : us = #[] := by
          have := relL_length hus
          simp only [Array.length_toList] at this
          exact Array.eq_empty_of_size_eq_zero (by omega)
        subst hus0
        unfold isSl at hsl
        split at hsl
        · obtain ⟨a, c, ha, hcc, hle, rfl⟩ := hs
          refine ⟨ρ, _, w, run_append_fit (P := P) (w := w) ht hxt hdx hi hl hfw (by omega) ?_, ⟨a, c, ha, hcc, hle, rfl⟩, .refl h⟩
          cases a <;> simp [storeCells]
        · obtain ⟨a, c, rfl⟩ := hs
          refine ⟨ρ, _, w, run_append_fit (P := P) (w := w) ht hxt hdx hi hl hfw (by omega) ?_, ⟨a, c, rfl⟩, .refl h⟩
          simp [storeCells]
        · cases hsl
      · rename_i n
        split at hc
        · rename_i p len c
          obtain ⟨a, y, ha, hy, hle, rfl⟩ := hs
          cases hy
          split at hc
          · rename_i hfit
            split at hc
            · rename_i p
              obtain ⟨b, o⟩ := p
              simp only [Option.map_eq_some_iff] at hc
              obtain ⟨H1, hst, hc⟩ := hc
              cases hc
              simp only [cAddr, Option.map_eq_some_iff] at ha
              obtain ⟨r, hr, rfl⟩ := ha
              obtain ⟨w1, hrun, hout⟩ := stAt_sound h hr hst hus h1
              refine ⟨ρ, _, w1, run_append_fit (P := P) (w := w) ht hxt hdx hi hl hfw hfit ?_, ⟨_, _, ?_, rfl, hfit, rfl⟩, hout⟩
              · simp only [add_at]
                rw [Nat.add_assoc]
                exact hrun
              · simp [cAddr, hr]
            · cases hc
          · rename_i hfit
            simp only [Option.bind_eq_some_iff] at hc
            obtain ⟨olds, hold, hc⟩ := hc
            obtain ⟨os, hos, h2, hol, hof⟩ := oldN_sound (c := c) h ha hold
            exact grow_sound h (fun _ _ hb => hb) rfl ht hxt hdx hi hzv rfl hzs (by omega) hl hf hof (by omega) hus hos h1 h2 hnl hol hc
        · rename_i p len zz
          obtain ⟨b, o⟩ := p
          simp only [Option.bind_eq_some_iff] at hc
          obtain ⟨B, hB, hc⟩ := hc
          split at hc
          · rename_i hcc
            obtain ⟨rfl, hrw, hel⟩ := hcc
            simp only [Option.bind_eq_some_iff] at hc
            obtain ⟨olds, hold, hc⟩ := hc
            obtain ⟨a, y, ha, hy, hle, rfl⟩ := hs
            have hold0 := hold
            obtain ⟨os, hos, h2, hol, hof⟩ := oldN_sound (c := y) h ha hold
            by_cases hfit : len + (n + 1) ≤ y
            · unfold grow at hc
              split at hc
              · rename_i hbb
                cases hc
                simp only [cAddr, Option.map_eq_some_iff] at ha
                obtain ⟨r, hr, rfl⟩ := ha
                simp only [cCap, hr, Option.map_some, Option.some.injEq] at hy
                have hul := relL_length hus
                obtain ⟨ρ', w1, hrun, hrel, hout⟩ := inplace_sound h hB hr hrw hel hy.symm (by omega) (Nat.succ_pos n) hfit hold0 hus h1 h2 (by omega)
                refine ⟨ρ', _, w1, run_append_fit (P := P) (w := w) ht hxt hdx hi hl hfw hfit ?_, hrel, hout⟩
                simp only [add_at]
                exact hrun
              · cases hc
            · have hk : ∀ b' B', (H.kill b).m b' = some B' → H.m b' = some B' := fun b' B' hh => by
                by_cases hbb : b' = b
                · subst hbb; simp [AH.kill, setM_same] at hh
                · simpa [AH.kill, setM_other _ _ hbb] using hh
              exact grow_sound h hk rfl ht hxt hdx hi hzv rfl hzs (by omega) hl hf hof (by omega) hus hos h1 h2 hnl hol hc
          · cases hc
        · cases hc
    · cases hc
  · cases hc

def aCopy (P : Program) (dt : TypeId) (d x : AV) (H : AH) : Option (AV × AH) := match P.underlying dt with
  | some (.slice e) => (P.info? e).bind fun i => (aLenOf x).bind fun m => (match d with
    | .slice p len _ => (srcN i.size (Nat.min m len) x H).bind fun cs => (match p with
      | some p => (stAt p cs H).map fun H' => (.int .i64 (Nat.min m len : Nat), H')
      | none => some (.int .i64 (Nat.min m len : Nat), H))
    | .empty => some (.int .i64 0, H)
    | _ => none)
  | _ => none
theorem aCopy_sound (h : Sim P ρ H w) {dt st ty : TypeId} {d x v : AV} {d' x' : Value} {H' : AH} (hd : rel ρ d d') (hx : rel ρ x x') (hc : aCopy P dt d x H = some (v, H')) :
    ∃ v' w', (Builtin.copy_ #[dt, st] ty #[d', x']).run P w = .ok v' w' ∧ rel ρ v v' ∧ Out P ρ H w ρ H' w' := by
  unfold aCopy at hc
  split at hc
  · rename_i e ht
    simp only [Option.bind_eq_some_iff] at hc
    obtain ⟨i, hi, m, hm, hc⟩ := hc
    have hl := aLenOf_sound (P := P) (w := w) hx hm
    split at hc
    · rename_i p len cap
      simp only [Option.bind_eq_some_iff] at hc
      obtain ⟨cs, hcs, hc⟩ := hc
      obtain ⟨us, hus, h1, hnl, hf⟩ := srcN_sound h hx ⟨m, hm⟩ hcs
      have hfw : (Builtin.firstCells i.size (Nat.min m len) x').run P w = .ok us w := hf w.drawn
      obtain ⟨a, c, ha, hcc, hle, rfl⟩ := hd
      split at hc
      · rename_i q
        obtain ⟨b, o⟩ := q
        simp only [Option.map_eq_some_iff] at hc
        obtain ⟨H1, hst, hc⟩ := hc
        cases hc
        simp only [cAddr, Option.map_eq_some_iff] at ha
        obtain ⟨r, hr, rfl⟩ := ha
        obtain ⟨w1, hrun, hout⟩ := stAt_sound h hr hst hus h1
        have hfw2 : (Builtin.firstCells i.size (min m len) x').run P w = .ok us w := hfw
        exact ⟨goInt (Nat.min m len : Nat), w1, by simp [Builtin.copy_, run_underlying ht, hl, sizeOf, typeInfo, hi, hfw2, hrun], by simp [rel, goInt], hout⟩
      · cases hc
        simp only [cAddr, Option.some.injEq] at ha
        subst ha
        have hfw2 : (Builtin.firstCells i.size (min m len) x').run P w = .ok us w := hfw
        exact ⟨goInt (Nat.min m len : Nat), w, by simp [Builtin.copy_, run_underlying ht, hl, sizeOf, typeInfo, hi, hfw2], by simp [rel, goInt], .refl h⟩
    · cases hc
      obtain ⟨a, c, rfl⟩ := hd
      have hmin : Nat.min m 0 = 0 := Nat.min_zero m
      obtain ⟨us, hus, h1, hnl, hf⟩ := srcN_sound (sz := i.size) (n := 0) (cs := []) h hx ⟨m, hm⟩ rfl
      have hfw : (Builtin.firstCells i.size 0 x').run P w = .ok us w := hf w.drawn
      have hus0 : us = #[] := by
        have := relL_length hus
        simp only [Array.length_toList] at this
        exact Array.eq_empty_of_size_eq_zero (by simpa using this)
      subst hus0
      refine ⟨.int .i64 0, w, ?_, by simp [rel], .refl h⟩
      simp [Builtin.copy_, run_underlying ht, hl, sizeOf, typeInfo, hi, hfw, storeCells, goInt]
    · cases hc
  · cases hc

def aClear (P : Program) (t : TypeId) (v : AV) (H : AH) : Option (AV × AH) := match P.underlying t with
  | some (.slice e) => (match v with
    | .slice (some p) n _ => (zeroL P e).bind fun z => if 0 < z.length then (stAt p (pat z (n * z.length)) H).map fun H' => (.tuple [], H') else none
    | .slice none _ _ => some (.tuple [], H)
    | .empty => some (.tuple [], H)
    | _ => none)
  | _ => none
theorem aClear_sound (h : Sim P ρ H w) {t ty : TypeId} {x v : AV} {x' : Value} {H' : AH} (hx : rel ρ x x') (hc : aClear P t x H = some (v, H')) :
    ∃ v' w', (Builtin.clear_ #[t] ty #[x']).run P w = .ok v' w' ∧ rel ρ v v' ∧ Out P ρ H w ρ H' w' := by
  have hnil : rel ρ (.tuple []) (.tuple #[]) := ⟨[], relL_nil ρ, rfl⟩
  unfold aClear at hc
  split at hc
  · rename_i e ht
    split at hc
    · rename_i p n cap
      obtain ⟨b, o⟩ := p
      simp only [Option.bind_eq_some_iff] at hc
      obtain ⟨z, hz, hc⟩ := hc
      split at hc
      · rename_i hpos
        simp only [Option.map_eq_some_iff] at hc
        obtain ⟨H1, hst, hc⟩ := hc
        cases hc
        obtain ⟨i, zv, hi, hzv, hzr, hz1⟩ := zeroL_sound (ρ := ρ) hz
        have hzl : zv.cells.size = z.length := by
          have := relL_length hzr
          simpa using this
        obtain ⟨hpr, hp1⟩ := pat_rel hzr hz1 (n * z.length) (.inr hpos)
        obtain ⟨a, c, ha, hcc, hle, rfl⟩ := hx
        simp only [cAddr, Option.map_eq_some_iff] at ha
        obtain ⟨r, hr, rfl⟩ := ha
        obtain ⟨w1, hrun, hout⟩ := stAt_sound h hr hst hpr hp1
        refine ⟨.tuple #[], w1, ?_, hnil, hout⟩
        cases n with
        | zero =>
          simp only [Nat.zero_mul] at hrun
          simp [storeCells] at hrun
          subst hrun
          simp [Builtin.clear_, run_underlying ht]
        | succ n =>
          have hzc : (zeroValue e).run P w = .ok zv w := by simp [zeroValue, run_typeInfo hi, hzv]
          have hz' : (Builtin.zeroCells zv.cells (n + 1)).toList = ((Array.range ((n + 1) * z.length)).map (zv.cells[· % zv.cells.size]!)).toList := by simp [Builtin.zeroCells, hzl]
          have hrun' : (storeCells ⟨r.blk, r.base + o, none⟩ (Builtin.zeroCells zv.cells (n + 1)).toList).run P w = .ok () w1 := by rw [hz']; exact hrun
          simp [Builtin.clear_, run_underlying ht, hzc, hrun']
      · cases hc
    · cases hc
      obtain ⟨a, c, ha, hcc, hle, rfl⟩ := hx
      cases ha
      exact ⟨.tuple #[], w, by simp [Builtin.clear_, run_underlying ht], hnil, .refl h⟩
    · cases hc
      obtain ⟨a, c, rfl⟩ := hx
      exact ⟨.tuple #[], w, by simp [Builtin.clear_, run_underlying ht], hnil, .refl h⟩
    · cases hc
  · cases hc
end
end Go.Ri
set_option linter.unusedVariables false
set_option linter.unusedSimpArgs false
namespace Go.Ri

abbrev CallF := FuncId → List AV → AH → Option (AV × AH)

def evo (ng : Nat) (T : Nat → AV) : Operand → Option AV
  | .tmp t => some (T t)
  | .const v => absC v
  | .global g => if g < ng then some (.ptr (some (g, 0))) else none
  | .func f => some (.func f [])
def evL (ev : Operand → Option AV) : List Operand → Option (List AV)
  | [] => some []
  | x :: xs => (ev x).bind fun v => (evL ev xs).map fun vs => v :: vs
def evP (ev : Operand → Option AV) : List (Nat × Operand) → Option (List (Nat × AV))
  | [] => some []
  | (i, x) :: xs => (ev x).bind fun v => (evP ev xs).map fun vs => (i, v) :: vs
def evO (ev : Operand → Option AV) : Option Operand → Option (Option AV)
  | none => some none
  | some x => (ev x).map some
def asB : AV → Option Bool
  | .bool b => some b
  | _ => none
def nilC : AV → Option AV
  | .ptr (some p) => some (.ptr (some p))
  | _ => none

def aLight (P : Program) (ev : Operand → Option AV) (o : Op) (H : AH) : Option AV := match o with
  | .move x => ev x
  | .assign x => ev x
  | .pick c a b => (ev c).bind fun v => (asB v).bind fun t => if t = true then ev a else ev b
  | .build t parts => (evP ev parts.toList).bind fun ps => aBuild P t ps
  | .load t x => (ev x).bind fun v => aLoad P t v H
  | .nilCheck x => (ev x).bind nilC
  | .binOp op t x y _ => (ev x).bind fun a => (ev y).bind fun b => aBin P op t a b
  | .unOp op _ x => (ev x).bind fun v => aUn op v
  | .convert s d x => (ev x).bind fun v => aConvert P s d v H
  | .makeFunc (.func f) first caps => if first.size = 0 then (evL ev caps.toList).map fun cs => .func f cs else none
  | .slice t x lo hi mx => (ev x).bind fun v => (evO ev lo).bind fun lo => (evO ev hi).bind fun hi => (evO ev mx).bind fun mx => aSlice P t v lo hi mx
  | .fieldAddr s x f => (ev x).bind fun v => aFieldAddr P s f v
  | .field t x f => (ev x).bind fun v => aField P t f v
  | .indexAddr t x i => (ev x).bind fun v => (ev i).bind fun i => aIndexAddr P t v i
  | .index t x i => (ev x).bind fun v => (ev i).bind fun i => aIndex P t v i
  | .extract x i => (ev x).bind fun v => aExtract v i
  | .call c => (match c.callee with
    | .builtin .len => (match c.args.toList, c.argTypes.toList with
      | [x], [t] => (ev x).bind fun v => aLen P t v
      | _, _ => none)
    | _ => none)
  | _ => none

def aNew (P : Program) (ev : Operand → Option AV) (o : Op) : Option NB := match o with
  | .alloc e => nAlloc P e
  | .box e x => (ev x).bind fun v => nBox e v
  | .buildSlice t len parts => (evP ev parts.toList).bind fun ps => nBuildSlice P t len ps
  | .makeSlice t l c => (ev l).bind fun l => (ev c).bind fun c => nMakeSlice P t l c
  | _ => none

def aHeavy (P : Program) (call : CallF) (ev : Operand → Option AV) (o : Op) (H : AH) : Option (AV × AH) := match o with
  | .store t a x => (ev a).bind fun p => (ev x).bind fun v => (aStore P t p v H).map fun H' => (.tuple [], H')
  | .call c => (match c.callee with
    | .value f => (ev f).bind fun fv => (match fv with
      | .func f cs => (evL ev c.args.toList).bind fun vs => call f (vs ++ cs) H
      | _ => none)
    | .builtin .append => (match c.args.toList, c.argTypes.toList with
      | [s, x], [st, xt] => (ev s).bind fun s => (ev x).bind fun x => aAppend P st xt s x H
      | _, _ => none)
    | .builtin .copy => (match c.args.toList, c.argTypes.toList with
      | [s, x], [st, xt] => (ev s).bind fun s => (ev x).bind fun x => aCopy P st s x H
      | _, _ => none)
    | .builtin .clear => (match c.args.toList, c.argTypes.toList with
      | [x], [t] => (ev x).bind fun x => aClear P t x H
      | _, _ => none)
    | _ => none)
  | _ => none

section
variable {P : Program} {ρ : Ro} {H : AH} {w : World}

def EvRel (ρ : Ro) (ev : Operand → Option AV) (e' : Operand → Value) : Prop := ∀ x c, ev x = some c → rel ρ c (e' x)
theorem evL_sound {ev : Operand → Option AV} {e' : Operand → Value} (h : EvRel ρ ev e') : ∀ {xs : List Operand} {vs}, evL ev xs = some vs → relL ρ vs (xs.map e')
  | [], vs, k => by simp [evL] at k; subst k; simp [relL]
  | x :: xs, vs, k => by
    simp only [evL, Option.bind_eq_some_iff, Option.map_eq_some_iff] at k
    obtain ⟨v, hv, us, hus, rfl⟩ := k
    exact relL_cons (h _ _ hv) (evL_sound h hus)
theorem evP_sound {ev : Operand → Option AV} {e' : Operand → Value} (h : EvRel ρ ev e') : ∀ {xs : List (Nat × Operand)} {vs}, evP ev xs = some vs → partsRel ρ vs (xs.map fun (i, x) => (i, e' x))
  | [], vs, k => by simp [evP] at k; subst k; trivial
  | (i, x) :: xs, vs, k => by
    simp only [evP, Option.bind_eq_some_iff, Option.map_eq_some_iff] at k
    obtain ⟨v, hv, us, hus, rfl⟩ := k
    exact ⟨rfl, h _ _ hv, evP_sound h hus⟩
theorem evO_sound {ev : Operand → Option AV} {e' : Operand → Value} (h : EvRel ρ ev e') {x : Option Operand} {v : Option AV} (k : evO ev x = some v) : oRel ρ v (x.map e') := by
  cases x with
  | none => cases k; trivial
  | some x =>
    simp only [evO, Option.map_eq_some_iff] at k
    obtain ⟨u, hu, rfl⟩ := k
    exact h _ _ hu

theorem list_one {α : Type} {a : Array α} {x : α} (h : a.toList = [x]) : a = #[x] := by apply Array.ext'; simpa using h
theorem list_two {α : Type} {a : Array α} {x y : α} (h : a.toList = [x, y]) : a = #[x, y] := by apply Array.ext'; simpa using h

theorem aLight_sound (h : Sim P ρ H w) {ev : Operand → Option AV} {e' : Operand → Value} (he : EvRel ρ ev e') {o : Oper} {v : AV} (hc : aLight P ev o.op H = some v) :
    ∃ v', (execOp e' o).run P w = .ok (.value v') w ∧ rel ρ v v' := by
  have fin : ∀ {s : Sem Value} {v' : Value}, s.run P w = .ok v' w → (do pure (Next.value (← s)) : Sem Next).run P w = .ok (.value v') w := fun hs => by simp [hs]
  unfold aLight at hc
  split at hc
  · rename_i x ho
    exact ⟨e' x, by simp [execOp, ho], he _ _ hc⟩
  · rename_i x ho
    exact ⟨e' x, by simp [execOp, ho], he _ _ hc⟩
  · rename_i c a b ho
    simp only [Option.bind_eq_some_iff] at hc
    obtain ⟨cv, hcv, t, ht, hc⟩ := hc
    unfold asB at ht
    split at ht
    · cases ht
      have hcr := he _ _ hcv
      simp only [rel] at hcr
      refine ⟨if t = true then e' a else e' b, by simp [execOp, ho, hcr, asBool], ?_⟩
      split at hc
      · rename_i htt; rw [if_pos htt]; exact he _ _ hc
      · rename_i htt; rw [if_neg htt]; exact he _ _ hc
    · cases ht
  · rename_i t parts ho
    simp only [Option.bind_eq_some_iff] at hc
    obtain ⟨ps, hps, hc⟩ := hc
    have hp := evP_sound he hps
    obtain ⟨c', hrun, hr⟩ := aBuild_sound (P := P) (w := w) (parts' := parts.map fun (i, x) => (i, e' x)) (by simpa using hp) hc
    exact ⟨c', by simp only [execOp, ho]; exact fin hrun, hr⟩
  · rename_i t x ho
    simp only [Option.bind_eq_some_iff] at hc
    obtain ⟨xv, hx, hc⟩ := hc
    obtain ⟨c', hrun, hr⟩ := aLoad_sound h (he _ _ hx) hc
    exact ⟨c', by simp only [execOp, ho]; exact fin hrun, hr⟩
  · rename_i x ho
    simp only [Option.bind_eq_some_iff] at hc
    obtain ⟨xv, hx, hc⟩ := hc
    unfold nilC at hc
    split at hc
    · rename_i p
      cases hc
      have hr := he _ _ hx
      obtain ⟨r, hrr, hv⟩ := rel_ptr hr
      exact ⟨e' x, by simp [execOp, ho, hv], hr⟩
    · cases hc
  · rename_i op t x y _ ho
    simp only [Option.bind_eq_some_iff] at hc
    obtain ⟨xv, hx, yv, hy, hc⟩ := hc
    obtain ⟨c', hrun, hr⟩ := aBin_sound (P := P) (w := w) x y (he _ _ hx) (he _ _ hy) hc
    exact ⟨c', by simp only [execOp, ho]; exact fin hrun, hr⟩
  · rename_i op _ x ho
    simp only [Option.bind_eq_some_iff] at hc
    obtain ⟨xv, hx, hc⟩ := hc
    obtain ⟨c', hrun, hr⟩ := aUn_sound (P := P) (w := w) (he _ _ hx) hc
    exact ⟨c', by simp only [execOp, ho]; exact fin hrun, hr⟩
  · rename_i s d x ho
    simp only [Option.bind_eq_some_iff] at hc
    obtain ⟨xv, hx, hc⟩ := hc
    obtain ⟨c', hrun, hr⟩ := aConvert_sound h (he _ _ hx) hc
    exact ⟨c', by simp only [execOp, ho]; exact fin hrun, hr⟩
  · rename_i f first caps ho
    split at hc
    · rename_i hz
      simp only [Option.map_eq_some_iff] at hc
      obtain ⟨cs, hcs, rfl⟩ := hc
      have hf : first = #[] := Array.eq_empty_of_size_eq_zero hz
      subst hf
      refine ⟨.func (.func f) #[] (caps.map e'), by simp [execOp, ho, Instr.makeFunc], (caps.map e').toList, by simpa using evL_sound he hcs, by simp only [Array.toArray_toList]⟩
    · cases hc
  · rename_i t x lo hi mx ho
    simp only [Option.bind_eq_some_iff] at hc
    obtain ⟨xv, hx, lv, hl, hv, hh, mv, hm, hc⟩ := hc
    obtain ⟨c', hrun, hr⟩ := aSlice_sound (P := P) (w := w) (he _ _ hx) (evO_sound he hl) (evO_sound he hh) (evO_sound he hm) hc
    exact ⟨c', by simp only [execOp, ho]; exact fin hrun, hr⟩
  · rename_i s x f ho
    simp only [Option.bind_eq_some_iff] at hc
    obtain ⟨xv, hx, hc⟩ := hc
    obtain ⟨c', hrun, hr⟩ := aFieldAddr_sound (P := P) (w := w) (he _ _ hx) hc
    exact ⟨c', by simp only [execOp, ho]; exact fin hrun, hr⟩
  · rename_i s x f ho
    simp only [Option.bind_eq_some_iff] at hc
    obtain ⟨xv, hx, hc⟩ := hc
    obtain ⟨c', hrun, hr⟩ := aField_sound (P := P) (w := w) (he _ _ hx) hc
    exact ⟨c', by simp only [execOp, ho]; exact fin hrun, hr⟩
  · rename_i t x i ho
    simp only [Option.bind_eq_some_iff] at hc
    obtain ⟨xv, hx, iv, hi, hc⟩ := hc
    obtain ⟨c', hrun, hr⟩ := aIndexAddr_sound (P := P) (w := w) (he _ _ hx) (he _ _ hi) hc
    exact ⟨c', by simp only [execOp, ho]; exact fin hrun, hr⟩
  · rename_i t x i ho
    simp only [Option.bind_eq_some_iff] at hc
    obtain ⟨xv, hx, iv, hi, hc⟩ := hc
    obtain ⟨c', hrun, hr⟩ := aIndex_sound (P := P) (w := w) (he _ _ hx) (he _ _ hi) hc
    exact ⟨c', by simp only [execOp, ho]; exact fin hrun, hr⟩
  · rename_i x i ho
    simp only [Option.bind_eq_some_iff] at hc
    obtain ⟨xv, hx, hc⟩ := hc
    obtain ⟨c', hrun, hr⟩ := aExtract_sound (P := P) (w := w) (he _ _ hx) hc
    exact ⟨c', by simp only [execOp, ho]; exact fin hrun, hr⟩
  · rename_i c ho
    split at hc
    · rename_i hcal
      split at hc
      · rename_i x t ha ht
        simp only [Option.bind_eq_some_iff] at hc
        obtain ⟨xv, hx, hc⟩ := hc
        obtain ⟨c', hrun, hr⟩ := aLen_sound (P := P) (w := w) (ty := o.type) (he _ _ hx) hc
        exact ⟨c', by simp [execOp, ho, resolve, hcal, invoke, builtin, list_one ha, list_one ht, hrun], hr⟩
      · cases hc
    · cases hc
  · cases hc

theorem aNew_sound {ev : Operand → Option AV} {e' : Operand → Value} (he : EvRel ρ ev e') {o : Oper} {nb : NB} (hc : aNew P ev o.op = some nb) :
    ∃ arr v', (execOp e' o).run P w = .ok (.value v') (w.alloc (.cells arr nb.elem)) ∧ relL ρ nb.cells arr.toList ∧ nb.cells.all AV.isOne = true ∧ ∀ (ρ' : Ro) id, ρ' id = some ⟨w.heap.size, 0, arr.size⟩ → rel ρ' (nb.val id) v' := by
  unfold aNew at hc
  split at hc
  · rename_i e ho
    obtain ⟨arr, v', hrun, h1, h2, h3⟩ := nAlloc_sound (P := P) (ρ := ρ) (w := w) hc (.tuple #[])
    exact ⟨arr, v', by simp [execOp, ho, hrun], h1, h2, h3⟩
  · rename_i e x ho
    simp only [Option.bind_eq_some_iff] at hc
    obtain ⟨xv, hx, hc⟩ := hc
    obtain ⟨arr, v', hrun, h1, h2, h3⟩ := nBox_sound (P := P) (w := w) (he _ _ hx) hc
    exact ⟨arr, v', by simp [execOp, ho, hrun], h1, h2, h3⟩
  · rename_i t len parts ho
    simp only [Option.bind_eq_some_iff] at hc
    obtain ⟨ps, hps, hc⟩ := hc
    have hp := evP_sound he hps
    obtain ⟨arr, v', hrun, h1, h2, h3⟩ := nBuildSlice_sound (P := P) (w := w) (parts' := parts.map fun (i, x) => (i, e' x)) (by simpa using hp) hc
    exact ⟨arr, v', by simp [execOp, ho, hrun], h1, h2, h3⟩
  · rename_i t l c ho
    simp only [Option.bind_eq_some_iff] at hc
    obtain ⟨lv, hl, cv, hcv, hc⟩ := hc
    obtain ⟨arr, v', hrun, h1, h2, h3⟩ := nMakeSlice_sound (P := P) (w := w) (he _ _ hl) (he _ _ hcv) hc
    exact ⟨arr, v', by simp [execOp, ho, hrun], h1, h2, h3⟩
  · cases hc

def CallOk (P : Program) (call : CallF) : Prop := ∀ f vs H v H', call f vs H = some (v, H') →
  (∃ fn, P.funcs[f]? = some fn ∧ (fn.name == "runtime.NumGoroutine") = false ∧ fn.body.isNone = false) ∧
  ∀ ρ w us, Sim P ρ H w → relL ρ vs us → Calls P f us.toArray w fun e w' => ∃ ρ' v', e = .returned v' ∧ rel ρ' v v' ∧ Out P ρ H w ρ' H' w'

theorem aHeavy_sound {call : CallF} (hcall : CallOk P call) (h : Sim P ρ H w) {ev : Operand → Option AV} {a : Act} (he : EvRel ρ ev a.eval) {o : Oper} {v : AV} {H' : AH} (hc : aHeavy P call ev o.op H = some (v, H'))
    {K : Act → World → Prop} {Q : Exit → Act → World → Prop} (hK : ∀ ρ' v' w', Out P ρ H w ρ' H' w' → rel ρ' v v' → K (a.put o.dst v') w') : o.wp P a w K Q := by
  unfold aHeavy at hc
  split at hc
  · rename_i t p x ho
    simp only [Option.bind_eq_some_iff, Option.map_eq_some_iff] at hc
    obtain ⟨pv, hp, xv, hx, H1, hst, hc⟩ := hc
    cases hc
    obtain ⟨w', hrun, hout⟩ := aStore_sound h (he _ _ hp) (he _ _ hx) hst
    have : (execOp a.eval o).run P w = .ok .skip w' := by simp [execOp, ho, hrun]
    unfold Oper.wp
    rw [this]
    exact hK ρ undef w' hout ⟨[], relL_nil ρ, rfl⟩
  · rename_i c ho
    split at hc
    · rename_i f hcal
      simp only [Option.bind_eq_some_iff] at hc
      obtain ⟨fv, hf, hc⟩ := hc
      split at hc
      · rename_i g cs
        simp only [Option.bind_eq_some_iff] at hc
        obtain ⟨vs, hvs, hc⟩ := hc
        obtain ⟨⟨fn, hfn, hname, hbody⟩, hC⟩ := hcall _ _ _ _ _ hc
        obtain ⟨cs', hcs', hfv⟩ := he _ _ hf
        have hargs := evL_sound he hvs
        have hall := relL_append hargs hcs'
        have hrun : (execOp a.eval o).run P w = .ok (.enter g (c.args.map a.eval ++ cs'.toArray)) w := by
          simp only [execOp, ho, resolve, hcal, hfv, Deferred.ofValue, Sem.run_bind, Sem.run_pure, Result.andThen_ok, invoke, callFunc, run_program, hfn, hname, hbody]
          simp
        unfold Oper.wp
        rw [hrun, Oper.upon_enter]
        have e1 : (c.args.map a.eval ++ cs'.toArray) = (c.args.toList.map a.eval ++ cs').toArray := by apply Array.ext'; simp
        rw [e1]
        refine (hC ρ w _ h hall).mono ?_
        rintro e w' ⟨ρ', v', rfl, hr, hout⟩
        exact hK ρ' v' w' hout hr
      · cases hc
    · rename_i hcal
      split at hc
      · rename_i s x st xt ha ht
        simp only [Option.bind_eq_some_iff] at hc
        obtain ⟨sv, hs, xv, hx, hc⟩ := hc
        obtain ⟨ρ', v', w', hrun, hr, hout⟩ := aAppend_sound (ty := o.type) h (he _ _ hs) (he _ _ hx) hc
        have : (execOp a.eval o).run P w = .ok (.value v') w' := by simp [execOp, ho, resolve, hcal, invoke, builtin, list_two ha, list_two ht, hrun]
        unfold Oper.wp
        rw [this]
        exact hK ρ' v' w' hout hr
      · cases hc
    · rename_i hcal
      split at hc
      · rename_i s x st xt ha ht
        simp only [Option.bind_eq_some_iff] at hc
        obtain ⟨sv, hs, xv, hx, hc⟩ := hc
        obtain ⟨v', w', hrun, hr, hout⟩ := aCopy_sound (ty := o.type) (st := xt) h (he _ _ hs) (he _ _ hx) hc
        have : (execOp a.eval o).run P w = .ok (.value v') w' := by simp [execOp, ho, resolve, hcal, invoke, builtin, list_two ha, list_two ht, hrun]
        unfold Oper.wp
        rw [this]
        exact hK ρ v' w' hout hr
      · cases hc
    · rename_i hcal
      split at hc
      · rename_i x t ha ht
        simp only [Option.bind_eq_some_iff] at hc
        obtain ⟨xv, hx, hc⟩ := hc
        obtain ⟨v', w', hrun, hr, hout⟩ := aClear_sound (ty := o.type) h (he _ _ hx) hc
        have : (execOp a.eval o).run P w = .ok (.value v') w' := by simp [execOp, ho, resolve, hcal, invoke, builtin, list_one ha, list_one ht, hrun]
        unfold Oper.wp
        rw [this]
        exact hK ρ v' w' hout hr
      · cases hc
    · cases hc
  · cases hc
end
end Go.Ri
set_option linter.unusedVariables false
set_option linter.unusedSimpArgs false
namespace Go.Ri

abbrev Tm := Nat → AV
def upd (T : Tm) (d : Nat) (v : AV) : Tm := fun t => if t = d then v else T t
def putA (nt : Nat) (T : Tm) (d : Option Nat) (v : AV) : Option Tm := match d with
  | none => some T
  | some d => if d < nt then some (upd T d v) else none

def TRel (ρ : Ro) (nt : Nat) (T : Tm) (a : Act) : Prop := a.tmps.size = nt ∧ ∀ t, rel ρ (T t) (a.tmps.getD t undef)

theorem TRel.mono {ρ ρ' : Ro} {nt : Nat} {T : Tm} {a : Act} (h : TRel ρ nt T a) (hl : ρ.le ρ') : TRel ρ' nt T a := ⟨h.1, fun t => rel_mono hl _ (h.2 t)⟩
theorem putA_rel {ρ : Ro} {nt : Nat} {T T' : Tm} {a : Act} {d : Option Nat} {v : AV} {v' : Value} (h : TRel ρ nt T a) (hv : rel ρ v v') (hp : putA nt T d v = some T') : TRel ρ nt T' (a.put d v') := by
  cases d with
  | none => cases hp; exact h
  | some d =>
    simp only [putA] at hp
    split at hp
    · rename_i hlt
      cases hp
      refine ⟨by simp [Act.put, h.1], fun t => ?_⟩
      by_cases e : t = d
      · subst e
        have : t < a.tmps.size := by rw [h.1]; exact hlt
        simp [upd, Act.put, this, hv]
      · have := h.2 t
        simp only [upd, if_neg e, Act.put]
        simpa [Array.getD_eq_getD_getElem?, Array.getElem?_setIfInBounds_ne (Ne.symm e)] using this
    · cases hp

theorem evo_rel {P : Program} {ρ : Ro} {H : AH} {w : World} (h : Sim P ρ H w) {nt : Nat} {T : Tm} {a : Act} (ht : TRel ρ nt T a) : EvRel ρ (evo P.globals.size T) a.eval := by
  intro x c hx
  cases x with
  | tmp t => cases hx; exact ht.2 t
  | const v => exact absC_rel hx
  | global g =>
    simp only [evo] at hx
    split at hx
    · rename_i hg
      cases hx
      obtain ⟨l, hl⟩ := h.glob g hg
      have := rel_ptr_mk (o := 0) hl
      exact this
    · cases hx
  | func f =>
    cases hx
    exact ⟨[], relL_nil ρ, rfl⟩

def gd (ops : Array Oper) (T : Tm) (o : Oper) : Option Bool := match o.guard with
  | none => some true
  | some (j, want) => match (ops[j]?).bind (·.dst) with
    | some d => (match T d with
      | .bool b => some (b == want)
      | .tuple _ => some false
      | _ => none)
    | none => some false
theorem gd_sound {ρ : Ro} {nt : Nat} {ops : Array Oper} {T : Tm} {a : Act} {o : Oper} {g : Bool} (ht : TRel ρ nt T a) (h : gd ops T o = some g) : Region.wanted o (yielded ops a.tmps) = g := by
  unfold gd at h
  unfold Region.wanted
  split at h
  · rename_i hg
    cases h
    simp [hg]
  · rename_i j want hg
    simp only [hg]
    split at h
    · rename_i d hd
      have hr := ht.2 d
      split at h
      · rename_i b hb
        cases h
        rw [hb] at hr
        simp only [rel] at hr
        have hlt : d < a.tmps.size := by
          rcases Nat.lt_or_ge d a.tmps.size with hlt | hge
          · exact hlt
          · simp [Array.getD_eq_getD_getElem?, Array.getElem?_eq_none hge, undef] at hr
        have : a.tmps[d]? = some (.bool b) := by
          rw [Array.getD_eq_getD_getElem?, Array.getElem?_eq_getElem hlt, Option.getD_some] at hr
          rw [Array.getElem?_eq_getElem hlt, hr]
        simp [yielded, hd, this]
      · rename_i vs hb
        cases h
        rw [hb] at hr
        obtain ⟨us, _, hr⟩ := hr
        have : yielded ops a.tmps j = none := by
          unfold yielded
          rw [hd]
          simp only [Option.bind_some]
          rcases Nat.lt_or_ge d a.tmps.size with hlt | hge
          · rw [Array.getD_eq_getD_getElem?, Array.getElem?_eq_getElem hlt, Option.getD_some] at hr
            rw [Array.getElem?_eq_getElem hlt, hr]
          · rw [Array.getElem?_eq_none hge]
        simp [this]
      · cases h
    · rename_i hd
      cases h
      simp [yielded, hd]

inductive OpK where
  | light
  | new
  | heavy
  deriving DecidableEq
def opK : Op → OpK
  | .alloc _ => .new
  | .box _ _ => .new
  | .buildSlice _ _ _ => .new
  | .makeSlice _ _ _ => .new
  | .store _ _ _ => .heavy
  | .call c => (match c.callee with
    | .builtin .len => .light
    | _ => .heavy)
  | _ => .light

def newSt (nb : NB) (H : AH) : AV × AH := (nb.val H.next, H.new nb.cells nb.elem)
def aOp (P : Program) (call : CallF) (T : Tm) (o : Op) (H : AH) : Option (AV × AH) := match opK o with
  | .light => (aLight P (evo P.globals.size T) o H).map fun v => (v, H)
  | .new => (aNew P (evo P.globals.size T) o).map fun nb => newSt nb H
  | .heavy => aHeavy P call (evo P.globals.size T) o H

def aOps (P : Program) (nt : Nat) (call : CallF) (ops : Array Oper) : List Oper → Tm → AH → Option (Tm × AH)
  | [], T, H => some (T, H)
  | o :: l, T, H => (gd ops T o).bind fun g => if g = true then
      (aOp P call T o.op H).bind fun r => (putA nt T o.dst r.1).bind fun T' => aOps P nt call ops l T' r.2
    else (putA nt T o.dst (.tuple [])).bind fun T' => aOps P nt call ops l T' H

section
variable {P : Program} {call : CallF}

theorem aOp_sound (hcall : CallOk P call) {ρ : Ro} {H : AH} {w : World} {nt : Nat} {T : Tm} {a : Act} (h : Sim P ρ H w) (ht : TRel ρ nt T a) {o : Oper} {v : AV} {H' : AH} (hc : aOp P call T o.op H = some (v, H'))
    {K : Act → World → Prop} {Q : Exit → Act → World → Prop} (hK : ∀ ρ' v' w', Out P ρ H w ρ' H' w' → rel ρ' v v' → K (a.put o.dst v') w') : o.wp P a w K Q := by
  have he := evo_rel h ht
  unfold aOp at hc
  split at hc
  · simp only [Option.map_eq_some_iff] at hc
    obtain ⟨v0, hv, hc⟩ := hc
    cases hc
    obtain ⟨v', hrun, hr⟩ := aLight_sound h he hv
    unfold Oper.wp
    rw [hrun]
    exact hK ρ v' w (.refl h) hr
  · simp only [Option.map_eq_some_iff] at hc
    obtain ⟨nb, hnb, hc⟩ := hc
    cases hc
    obtain ⟨arr, v', hrun, hr, h1, hval⟩ := aNew_sound (w := w) he hnb
    unfold Oper.wp
    rw [hrun]
    have hout := new_sound (elem := nb.elem) (more := []) h hr h1
    simp only [List.append_nil, Array.toArray_toList, Array.length_toList] at hout
    exact hK _ v' _ hout (hval _ _ (by simp))
  · exact aHeavy_sound hcall h he hc hK

theorem aOps_sound (hcall : CallOk P call) {nt : Nat} {ops : Array Oper} {Q : Exit → Act → World → Prop} : ∀ (l : List Oper) (k : Nat) (ρ : Ro) (H : AH) (w : World) (T T' : Tm) (H' : AH) (a : Act), l = ops.toList.drop k → Sim P ρ H w → TRel ρ nt T a → a.defers = [] →
    aOps P nt call ops l T H = some (T', H') → (∀ ρ' a' w', Out P ρ H w ρ' H' w' → TRel ρ' nt T' a' → a'.defers = [] → Q .normal a' w') → wpOps P ops Q (List.range' k (ops.size - k)) a w
  | [], k, ρ, H, w, T, T', H', a, hl, h, ht, hd, hc, hQ => by
    have : ops.size - k = 0 := by
      have := congrArg List.length hl
      simp at this
      omega
    rw [this]
    cases hc
    exact hQ ρ a w (.refl h) ht hd
  | o :: l, k, ρ, H, w, T, T', H', a, hl, h, ht, hd, hc, hQ => by
    have hlen := congrArg List.length hl
    simp only [List.length_cons, List.length_drop, Array.length_toList] at hlen
    have hk : ops[k]? = some o := by
      have := congrArg (·[0]?) hl
      simpa using this.symm
    have hl' : l = ops.toList.drop (k + 1) := by
      rw [← List.drop_drop, ← hl]
      rfl
    rw [show ops.size - k = (ops.size - (k + 1)) + 1 by omega, List.range'_succ]
    simp only [wpOps, hk]
    simp only [aOps, Option.bind_eq_some_iff] at hc
    obtain ⟨g, hg, hc⟩ := hc
    rw [gd_sound ht hg]
    split at hc
    · rename_i hgt
      rw [if_pos hgt]
      simp only [Option.bind_eq_some_iff] at hc
      obtain ⟨⟨v, H1⟩, hop, T1, hT1, hc⟩ := hc
      refine .inl (aOp_sound hcall h ht hop fun ρ1 v' w1 hout hr => ?_)
      refine aOps_sound hcall l (k + 1) ρ1 H1 w1 T1 T' H' _ hl' hout.sim (putA_rel (ht.mono (hout.le h)) hr hT1) ?_ hc fun ρ2 a2 w2 ho2 => hQ ρ2 a2 w2 (hout.trans ho2)
      cases o.dst <;> simpa [Act.put] using hd
    · rename_i hgt
      rw [if_neg hgt]
      simp only [Option.bind_eq_some_iff] at hc
      obtain ⟨T1, hT1, hc⟩ := hc
      refine aOps_sound hcall l (k + 1) ρ H w T1 T' H' _ hl' h (putA_rel ht (v := .tuple []) ⟨[], relL_nil ρ, rfl⟩ hT1) ?_ hc hQ
      cases o.dst <;> simpa [Act.put] using hd
end

inductive Ex where
  | normal
  | exit (id : Nat)
  | ret
  deriving DecidableEq
def Ex.toExit : Ex → Exit
  | .normal => .normal
  | .exit id => .exit id
  | .ret => .ret

abbrev DrawF := Array Oper → Tm → AH → Option (Tm × AH)
abbrev St := Tm × AH
abbrev ItF := (St → Option (Ex × St)) → St → Option (Ex × St)

def noNormal (r : Ex × St) : Option (Ex × St) := match r.1 with
  | .normal => none
  | _ => some r

def aCode (P : Program) (nt : Nat) (call : CallF) (draw : DrawF) (it : ItF) : Code → Tm → AH → Option (Ex × St)
  | .skip, T, H => some (.normal, T, H)
  | .label _, T, H => some (.normal, T, H)
  | .region _ ops d, T, H => if d = true then (draw ops T H).map fun s => (.normal, s) else (aOps P nt call ops ops.toList T H).map fun s => (.normal, s)
  | .seq a b, T, H => (aCode P nt call draw it a T H).bind fun r => match r.1 with
    | .normal => aCode P nt call draw it b r.2.1 r.2.2
    | e => some (e, r.2)
  | .cond c x y, T, H => (evo P.globals.size T c).bind fun v => (asB v).bind fun t => if t = true then aCode P nt call draw it x T H else aCode P nt call draw it y T H
  | .block id c, T, H => (aCode P nt call draw it c T H).map fun r => match r.1 with
    | .exit j => if j = id then (.normal, r.2) else (.exit j, r.2)
    | e => (e, r.2)
  | .loop c, T, H => (it (fun s => aCode P nt call draw it c s.1 s.2) (T, H)).bind noNormal
  | .scope c, T, H => aCode P nt call draw it c T H
  | .exit id, T, H => some (.exit id, T, H)
  | .ret, T, H => some (.ret, T, H)
  | _, _, _ => none

def iter : Nat → ItF
  | 0, _, _ => none
  | n + 1, g, s => (g s).bind fun r => match r.1 with
    | .normal => iter n g r.2
    | e => some (e, r.2)

def DrawOk (P : Program) (nt : Nat) (draw : DrawF) : Prop := ∀ id ops ρ H w T T' H' a Q, Sim P ρ H w → TRel ρ nt T a → a.defers = [] → draw ops T H = some (T', H') →
  (∀ ρ' a' w', Out P ρ H w ρ' H' w' → TRel ρ' nt T' a' → a'.defers = [] → Q .normal a' w') → (Code.region id ops true).wp P Q a w

def Ends (P : Program) (nt : Nat) (ρ : Ro) (H : AH) (w : World) (e : Ex) (T' : Tm) (H' : AH) (Q : Exit → Act → World → Prop) : Prop :=
  ∀ ρ' a' w', Out P ρ H w ρ' H' w' → TRel ρ' nt T' a' → a'.defers = [] → Q e.toExit a' w'

theorem aCode_sound {P : Program} {nt : Nat} {call : CallF} {draw : DrawF} {n : Nat} (hcall : CallOk P call) (hdraw : DrawOk P nt draw) : ∀ (c : Code) (ρ : Ro) (H : AH) (w : World) (T T' : Tm) (H' : AH) (a : Act) (e : Ex) (Q : Exit → Act → World → Prop),
    Sim P ρ H w → TRel ρ nt T a → a.defers = [] → aCode P nt call draw (iter n) c T H = some (e, T', H') → Ends P nt ρ H w e T' H' Q → c.wp P Q a w := by
  intro c
  induction c with
  | skip =>
    intro ρ H w T T' H' a e Q h ht hd hc hQ
    cases hc
    exact wp_skip (hQ ρ a w (.refl h) ht hd)
  | label l =>
    intro ρ H w T T' H' a e Q h ht hd hc hQ
    cases hc
    exact wp_label (hQ ρ a w (.refl h) ht hd)
  | region id ops d =>
    intro ρ H w T T' H' a e Q h ht hd hc hQ
    simp only [aCode] at hc
    split at hc
    · rename_i hdt
      subst hdt
      simp only [Option.map_eq_some_iff] at hc
      obtain ⟨⟨T1, H1⟩, hc, he⟩ := hc
      cases he
      exact hdraw id ops ρ H w T T' H' a Q h ht hd hc hQ
    · rename_i hdt
      have : d = false := by cases d <;> simp_all
      subst this
      simp only [Option.map_eq_some_iff] at hc
      obtain ⟨⟨T1, H1⟩, hc, he⟩ := hc
      cases he
      refine wp_region ?_
      rw [List.range_eq_range']
      exact aOps_sound hcall ops.toList 0 ρ H w T T' H' a (by simp) h ht hd hc hQ
  | seq x y ihx ihy =>
    intro ρ H w T T' H' a e Q h ht hd hc hQ
    simp only [aCode, Option.bind_eq_some_iff] at hc
    obtain ⟨⟨e1, T1, H1⟩, h1, hc⟩ := hc
    refine wp_seq (ihx ρ H w T T1 H1 a e1 _ h ht hd h1 fun ρ1 a1 w1 ho1 ht1 hd1 => ?_)
    cases e1 with
    | normal => exact ihy ρ1 H1 w1 T1 T' H' a1 e Q ho1.sim ht1 hd1 hc fun ρ2 a2 w2 ho2 ht2 hd2 => hQ ρ2 a2 w2 (ho1.trans ho2) ht2 hd2
    | exit id => cases hc; exact hQ ρ1 a1 w1 ho1 ht1 hd1
    | ret => cases hc; exact hQ ρ1 a1 w1 ho1 ht1 hd1
  | cond c x y ihx ihy =>
    intro ρ H w T T' H' a e Q h ht hd hc hQ
    simp only [aCode, Option.bind_eq_some_iff] at hc
    obtain ⟨v, hv, t, htb, hc⟩ := hc
    have hr := evo_rel h ht _ _ hv
    unfold asB at htb
    split at htb
    · cases htb
      simp only [rel] at hr
      refine wp_cond hr ?_
      split at hc
      · rename_i htt
        rw [if_pos htt]
        exact ihx ρ H w T T' H' a e Q h ht hd hc hQ
      · rename_i htt
        rw [if_neg htt]
        exact ihy ρ H w T T' H' a e Q h ht hd hc hQ
    · cases htb
  | block id c ih =>
    intro ρ H w T T' H' a e Q h ht hd hc hQ
    simp only [aCode, Option.map_eq_some_iff] at hc
    obtain ⟨⟨e1, T1, H1⟩, h1, hc⟩ := hc
    refine wp_block (ih ρ H w T T1 H1 a e1 _ h ht hd h1 fun ρ1 a1 w1 ho1 ht1 hd1 => ?_)
    cases e1 with
    | normal => cases hc; exact hQ ρ1 a1 w1 ho1 ht1 hd1
    | exit j =>
      simp only at hc
      simp only [Ex.toExit, Exit.inBlock]
      split at hc
      · rename_i hj
        cases hc
        rw [if_pos hj]
        exact hQ ρ1 a1 w1 ho1 ht1 hd1
      · rename_i hj
        cases hc
        rw [if_neg hj]
        exact hQ ρ1 a1 w1 ho1 ht1 hd1
    | ret => cases hc; exact hQ ρ1 a1 w1 ho1 ht1 hd1
  | loop c ih =>
    intro ρ H w T T' H' a e Q h ht hd hc hQ
    simp only [aCode, Option.bind_eq_some_iff] at hc
    obtain ⟨r0, hc, hn0⟩ := hc
    have hr0 : r0 = (e, T', H') := by
      unfold noNormal at hn0
      split at hn0
      · cases hn0
      · cases hn0; rfl
    subst hr0
    -- the rounds that are left
    have key : ∀ (m : Nat) (ρ : Ro) (H : AH) (w : World) (T : Tm) (a : Act), Sim P ρ H w → TRel ρ nt T a → a.defers = [] →
        iter m (fun s => aCode P nt call draw (iter n) c s.1 s.2) (T, H) = some (e, T', H') → Ends P nt ρ H w e T' H' Q →
          ∀ (b : Frame) (k : List Item) (cs : List Frame), ∃ e a' w', Q e a' w' ∧ Arrives P (lone (b.at a (.code c :: .inLoop c :: k)) cs w) b k cs e a' w' := by
      intro m
      induction m with
      | zero => intro ρ H w T a _ _ _ hc _; cases hc
      | succ m ihm =>
        intro ρ H w T a h ht hd hc hQ b k cs
        simp only [iter, Option.bind_eq_some_iff] at hc
        obtain ⟨⟨e1, T1, H1⟩, h1, hc⟩ := hc
        obtain ⟨e2, a2, w2, hq, harr⟩ := ih ρ H w T T1 H1 a e1 (fun x a' w' => ∃ ρ1, x = e1.toExit ∧ Out P ρ H w ρ1 H1 w' ∧ TRel ρ1 nt T1 a' ∧ a'.defers = []) h ht hd h1
          (fun ρ1 a1 w1 ho1 ht1 hd1 => ⟨ρ1, rfl, ho1, ht1, hd1⟩) b (.inLoop c :: k) cs
        obtain ⟨ρ1, rfl, ho1, ht1, hd1⟩ := hq
        cases e1 with
        | normal =>
          obtain ⟨e3, a3, w3, hq3, harr3⟩ := ihm ρ1 H1 w2 T1 a2 ho1.sim ht1 hd1 hc (fun ρ2 a' w' ho2 ht2 hd2 => hQ ρ2 a' w' (ho1.trans ho2) ht2 hd2) b k cs
          exact ⟨e3, a3, w3, hq3, .of_steps (Steps.trans harr (.one step_inLoop)) harr3⟩
        | exit id => cases hc; exact ⟨_, a2, w2, hQ ρ1 a2 w2 ho1 ht1 hd1, .pass (x := .inLoop c) rfl (fun _ _ => .inl (by simp [Ex.toExit])) harr⟩
        | ret => cases hc; exact ⟨_, a2, w2, hQ ρ1 a2 w2 ho1 ht1 hd1, .pass (x := .inLoop c) rfl (fun _ _ => .inl (by simp [Ex.toExit])) harr⟩
    intro b k cs
    obtain ⟨e2, a2, w2, hq2, harr2⟩ := key n ρ H w T a h ht hd hc hQ b k cs
    exact ⟨e2, a2, w2, hq2, .of_steps (.one step_loop) harr2⟩
  | rangeFunc f params assign body ih1 ih2 =>
    intro ρ H w T T' H' a e Q h ht hd hc hQ
    cases hc
  | exit id =>
    intro ρ H w T T' H' a e Q h ht hd hc hQ
    cases hc
    exact wp_exit (hQ ρ a w (.refl h) ht hd)
  | scope c ih =>
    intro ρ H w T T' H' a e Q h ht hd hc hQ
    simp only [aCode] at hc
    refine wp_scope_straight (ih ρ H w T T' H' a e _ h ht hd hc fun ρ1 a1 w1 ho1 ht1 hd1 => ?_)
    have := hQ ρ1 a1 w1 ho1 ht1 hd1
    cases e <;> exact this
  | goto l =>
    intro ρ H w T T' H' a e Q h ht hd hc hQ
    cases hc
  | ret =>
    intro ρ H w T T' H' a e Q h ht hd hc hQ
    cases hc
    exact wp_ret (hQ ρ a w (.refl h) ht hd)
  | refuse why =>
    intro ρ H w T T' H' a e Q h ht hd hc hQ
    cases hc
end Go.Ri
set_option linter.unusedVariables false
set_option linter.unusedSimpArgs false
namespace Go.Ri

def T0 (args : List AV) : Tm := fun t => args.getD t (.tuple [])
def resL (P : Program) (T : Tm) (H : AH) : List ResultVar → Option (List AV)
  | [] => some []
  | .tmp t :: rs => (resL P T H rs).map fun vs => T t :: vs
  | .cell a t :: rs => (aLoad P t (T a) H).bind fun v => (resL P T H rs).map fun vs => v :: vs
def oneOf : List AV → AV
  | [v] => v
  | vs => .tuple vs
def aRes (P : Program) (T : Tm) (H : AH) (rs : List ResultVar) : Option AV := (resL P T H rs).map oneOf

abbrev DrawG := Nat → CallF → DrawF
def endOf (P : Program) (rs : List ResultVar) (r : Ex × St) : Option (AV × AH) := match r.1 with
  | .exit _ => none
  | _ => (aRes P r.2.1 r.2.2 rs).map fun v => (v, r.2.2)
def aFun (P : Program) (draw : DrawG) (call : CallF) (it : ItF) : CallF := fun f args H => match P.funcs[f]? with
  | some fn => (match fn.body with
    | some c => if args.length ≤ fn.ntmps ∧ (fn.name == "runtime.NumGoroutine") = false then
        (aCode P fn.ntmps call (draw fn.ntmps call) it c (T0 args) H).bind (endOf P fn.results.toList) else none
    | none => none)
  | none => none
def aCall (P : Program) (draw : DrawG) : Nat → CallF
  | 0 => fun _ _ _ => none
  | n + 1 => aFun P draw (aCall P draw n) (iter n)

section
variable {P : Program}
theorem T0_rel {ρ : Ro} {args : List AV} {us : List Value} {nt : Nat} (h : relL ρ args us) (hl : args.length ≤ nt) :
    TRel ρ nt (T0 args) { tmps := us.toArray ++ Array.replicate (nt - us.toArray.size) undef, defers := [] } := by
  have hlen := relL_length h
  refine ⟨by simp; omega, fun t => ?_⟩
  by_cases ht : t < args.length
  · obtain ⟨v, hv, hi⟩ := relL_get h t args[t] (List.getElem?_eq_getElem ht)
    have e1 : T0 args t = args[t] := by simp [T0, List.getD_eq_getElem?_getD, List.getElem?_eq_getElem ht]
    have e2 : (us.toArray ++ Array.replicate (nt - us.toArray.size) undef).getD t undef = v := by
      rw [Array.getD_eq_getD_getElem?, Array.getElem?_append_left (by simp; omega)]
      simp [hi]
    rw [e1, e2]
    exact hv
  · have e1 : T0 args t = .tuple [] := by simp [T0, List.getD_eq_getElem?_getD, List.getElem?_eq_none (Nat.le_of_not_lt ht)]
    have e2 : (us.toArray ++ Array.replicate (nt - us.toArray.size) undef).getD t undef = undef := by
      rw [Array.getD_eq_getD_getElem?, Array.getElem?_append_right (by simp; omega), Array.getElem?_replicate]
      split <;> rfl
    rw [e1, e2]
    exact ⟨[], relL_nil ρ, rfl⟩

def resF (tmps : Array Value) : ResultVar → Sem Value
  | .tmp t => pure (tmps.getD t undef)
  | .cell x t => do loadVar t (← asAddr (tmps.getD x undef))
theorem resL_sound {ρ : Ro} {H : AH} {w : World} {nt : Nat} {T : Tm} {a : Act} (h : Sim P ρ H w) (ht : TRel ρ nt T a) : ∀ (rs : List ResultVar) (vs : List AV), resL P T H rs = some vs →
    ∃ us, relL ρ vs us ∧ (rs.mapM (resF a.tmps)).run P w = .ok us w
  | [], vs, hr => by cases hr; exact ⟨[], relL_nil ρ, by simp⟩
  | .tmp t :: rs, vs, hr => by
    simp only [resL, Option.map_eq_some_iff] at hr
    obtain ⟨us, hus, rfl⟩ := hr
    obtain ⟨ws, hw, hrun⟩ := resL_sound h ht rs us hus
    exact ⟨_, relL_cons (ht.2 t) hw, by simp only [List.mapM_cons, Sem.run_bind, resF, Sem.run_pure, Result.andThen_ok, hrun]⟩
  | .cell x t :: rs, vs, hr => by
    simp only [resL, Option.bind_eq_some_iff, Option.map_eq_some_iff] at hr
    obtain ⟨v, hv, us, hus, rfl⟩ := hr
    obtain ⟨ws, hw, hrun⟩ := resL_sound h ht rs us hus
    obtain ⟨v', hl, hvr⟩ := aLoad_sound h (ht.2 x) hv
    have hp : ∃ p, T x = .ptr (some p) := by
      unfold aLoad at hv
      split at hv
      · unfold ldAgg at hv
        split at hv
        · exact ⟨_, by assumption⟩
        · cases hv
      · unfold ldOne at hv
        split at hv
        · exact ⟨_, by assumption⟩
        · cases hv
      · cases hv
    obtain ⟨p, hp⟩ := hp
    have hx := ht.2 x
    rw [hp] at hx
    obtain ⟨r, hr, hxv⟩ := rel_ptr hx
    rw [hxv] at hl
    simp only [Instr.loadAt, Instr.sureAddr, Sem.run_bind, Sem.run_pure, Result.andThen_ok] at hl
    exact ⟨_, relL_cons hvr hw, by simp only [List.mapM_cons, Sem.run_bind, resF, hxv, asAddr, Sem.run_pure, Result.andThen_ok, hl, hrun]⟩

theorem aRes_sound {ρ : Ro} {H : AH} {w : World} {nt : Nat} {T : Tm} {a : Act} (h : Sim P ρ H w) (ht : TRel ρ nt T a) {fn : Func} {v : AV} (hr : aRes P T H fn.results.toList = some v) :
    ∃ v', rel ρ v v' ∧ (results fn a.tmps).run P w = .ok v' w := by
  simp only [aRes, Option.map_eq_some_iff] at hr
  obtain ⟨vs, hvs, rfl⟩ := hr
  obtain ⟨us, hus, hrun⟩ := resL_sound h ht _ vs hvs
  have hm : (results fn a.tmps).run P w = .ok (if h : us.toArray.size = 1 then us.toArray[0] else .tuple us.toArray) w := by
    have : results fn a.tmps = (do let vs ← fn.results.mapM (resF a.tmps); pure (if h : vs.size = 1 then vs[0] else .tuple vs) : Sem Value) := rfl
    rw [this, Array.mapM_eq_mapM_toList]
    simp only [Sem.run_bind, Sem.run_map, hrun, Result.andThen_ok, Sem.run_pure]
  have hlen := relL_length hus
  unfold oneOf
  split
  · simp only [relL] at hus
    obtain ⟨x, us', hx, rfl, rfl⟩ := hus
    refine ⟨x, hx, ?_⟩
    rw [hm]
    simp
  · rename_i hne
    refine ⟨.tuple us.toArray, ⟨us, hus, rfl⟩, ?_⟩
    rw [hm, dif_neg]
    intro e
    rw [List.size_toArray, hlen] at e
    match vs, e with
    | [v], _ => exact hne v rfl

theorem aFun_sound {draw : DrawG} {call : CallF} {n : Nat} (hcall : CallOk P call) (hdraw : ∀ nt, DrawOk P nt (draw nt call)) : CallOk P (aFun P draw call (iter n)) := by
  intro f vs H v H' hc
  unfold aFun at hc
  split at hc
  · rename_i fn hfn
    split at hc
    · rename_i c hb
      split at hc
      · rename_i hcond
        refine ⟨⟨fn, hfn, hcond.2, by simp [hb]⟩, fun ρ w us h hus => ?_⟩
        simp only [Option.bind_eq_some_iff] at hc
        obtain ⟨⟨e, T', H1⟩, hcode, hend⟩ := hc
        refine calls_of_wp hfn hb ?_
        refine aCode_sound hcall (hdraw fn.ntmps) c ρ H w (T0 vs) T' H1 _ e _ h (T0_rel hus hcond.1) rfl hcode fun ρ1 a1 w1 ho1 ht1 hd1 => ?_
        have key : ∀ v0, aRes P T' H1 fn.results.toList = some v0 → (v0, H1) = (v, H') → (a1.defers = [] ∧ ∃ v1, (results fn a1.tmps).run P w1 = .ok v1 w1 ∧
            (∃ ρ' v', Ending.returned v1 = .returned v' ∧ rel ρ' v v' ∧ Out P ρ H w ρ' H' w1)) := by
          intro v0 hv0 he
          cases he
          obtain ⟨v', hr, hrun⟩ := aRes_sound (fn := fn) ho1.sim ht1 hv0
          exact ⟨hd1, v', hrun, ρ1, v', rfl, hr, ho1⟩
        unfold endOf at hend
        cases e with
        | normal =>
          simp only [Option.map_eq_some_iff] at hend
          obtain ⟨v0, hv0, he⟩ := hend
          exact key v0 hv0 he
        | exit id => cases hend
        | ret =>
          simp only [Option.map_eq_some_iff] at hend
          obtain ⟨v0, hv0, he⟩ := hend
          exact key v0 hv0 he
      · cases hc
    · cases hc
  · cases hc

theorem aCall_sound {draw : DrawG} (hdraw : ∀ nt call, CallOk P call → DrawOk P nt (draw nt call)) : ∀ n, CallOk P (aCall P draw n)
  | 0 => fun f vs H v H' hc => by cases hc
  | n + 1 => aFun_sound (aCall_sound hdraw n) fun nt => hdraw nt _ (aCall_sound hdraw n)
end
end Go.Ri
set_option linter.unusedVariables false
set_option linter.unusedSimpArgs false
namespace Go.Ri

open Classical in
noncomputable def chk {α : Type} (p : Prop) (x : Option α) : Option α := if p then x else none
theorem chk_some {α : Type} {p : Prop} {x : Option α} {y : α} (h : chk p x = some y) : p ∧ x = some y := by
  unfold chk at h
  split at h
  · exact ⟨by assumption, h⟩
  · cases h
theorem chk_pos {α : Type} {p : Prop} (h : p) (x : Option α) : chk p x = x := by unfold chk; rw [if_pos h]
theorem chk_bind {α β : Type} (p : Prop) (x : Option α) (f : α → Option β) : (chk p x).bind f = chk p (x.bind f) := by
  unfold chk
  split <;> rfl

def allEq : List (Option AV × Option AV) → Prop
  | [] => True
  | (a, b) :: l => a = b ∧ allEq l

noncomputable def chkL {α : Type} (l : List (Option AV × Option AV)) (x : Option α) : Option α := match l with
  | [] => x
  | p :: l => chk (allEq (p :: l)) x
theorem chkL_eq {α : Type} (l : List (Option AV × Option AV)) (x : Option α) : chkL l x = chk (allEq l) x := by
  cases l with
  | nil => exact (chk_pos trivial x).symm
  | cons p l => rfl

def updL (T : Nat → AV) (l : List (Nat × AV)) : Nat → AV := l.foldl (fun T p => upd T p.1 p.2) T
def gdv (v : AV) (want : Bool) : Option Bool := match v with
  | .bool b => some (b == want)
  | .tuple _ => some false
  | _ => none
def AH.res (H : AH) (n : Nat) : AH := { H with next := H.next + n }

structure FL where
  i : Nat
  id : Nat
  B : Blk
def sel (fl : List FL) (A mb : Nat) : List FL := fl.filter fun f => A.testBit f.i && !(mb.testBit f.i)
def selR (fl : List FL) (mb : Nat) : List FL := fl.filter fun f => !(mb.testBit f.i)
def addF (fl : List FL) (G : AH) : AH := fl.foldl (fun G f => G.put f.id f.B) G

def ancStep (acc : List Nat) (o : Oper) : Nat := o.after.toList.foldl (fun s e => if Region.binds .any e = true then s ||| 2 ^ e.on ||| acc.getD e.on 0 else s) 0
def ancB : List Oper → List Nat → List Nat
  | [], acc => acc
  | o :: l, acc => ancB l (acc ++ [ancStep acc o])

inductive DK where
  | pure
  | read
  | new
  | heavy
  deriving DecidableEq
def dK (o : Op) : DK := match opK o with
  | .new => .new
  | .heavy => .heavy
  | .light => match o with
    | .load _ _ => .read
    | .convert _ _ _ => .read
    | _ => .pure

structure PL where
  i : Nat
  f : AH × Nat → Option AV
  v : AV

section
variable {R : Type}
def gval (ops : Array Oper) (T : Tm) (o : Oper) (x : Option AV) : Option AV := (gd ops T o).bind fun g => if g = true then x else some (.tuple [])
def gheavy (ops : Array Oper) (T : Tm) (o : Oper) (G : AH) (x : Option (AV × AH)) : Option (AV × AH) := (gd ops T o).bind fun g => if g = true then x else some (.tuple [], G)

noncomputable def drawGo (P : Program) (nt : Nat) (call : CallF) (ops : Array Oper) (anc : List Nat) (K : Tm → AH → Option R) : List Oper → Nat → Nat → Tm → AH → Nat → List FL → List (Nat × AH × Nat) → List PL → List (Option AV × Option AV) → Option R
  | [], _, _, T, G, mb, all, _, _, chks => chkL chks (K T (addF (selR all mb) G))
  | o :: l, i, id, T, G, mb, all, vers, pend, chks => match dK o.op with
    | .pure => (gval ops T o (aLight P (evo P.globals.size T) o.op G)).bind fun v => (putA nt T o.dst v).bind fun T' =>
        drawGo P nt call ops anc K l (i + 1) id T' G mb all vers pend chks
    | .read => ((fun (V : AH × Nat) => gval ops T o (aLight P (evo P.globals.size T) o.op (addF (sel all (anc.getD i 0) V.2) V.1))) (G, mb)).bind fun v => (putA nt T o.dst v).bind fun T' =>
        drawGo P nt call ops anc K l (i + 1) id T' G mb all vers (⟨i, fun V => gval ops T o (aLight P (evo P.globals.size T) o.op (addF (sel all (anc.getD i 0) V.2) V.1)), v⟩ :: pend)
          (((vers.filter fun V => !((anc.getD i 0).testBit V.1)).map fun V => (gval ops T o (aLight P (evo P.globals.size T) o.op (addF (sel all (anc.getD i 0) V.2.2) V.2.1)), some v)) ++ chks)
    | .new => (aNew P (evo P.globals.size T) o.op).bind fun nb => (putA nt T o.dst (nb.val id)).bind fun T' =>
        drawGo P nt call ops anc K l (i + 1) (id + 1) T' G mb (all ++ [⟨i, id, ⟨nb.cells, nb.elem, true⟩⟩]) vers pend chks
    | .heavy => (gheavy ops T o (addF (sel all (anc.getD i 0) mb) G) (aHeavy P call (evo P.globals.size T) o.op (addF (sel all (anc.getD i 0) mb) G))).bind fun r => (putA nt T o.dst r.1).bind fun T' =>
        drawGo P nt call ops anc K l (i + 1) id T' r.2 (mb ||| anc.getD i 0) all ((i, G, mb) :: vers) pend
          (((pend.filter fun p => !((anc.getD i 0).testBit p.i)).map fun p => (p.f (r.2, mb ||| anc.getD i 0), some p.v)) ++ chks)

def pairOk (ops : Array Oper) (anc : List Nat) (i j : Nat) (x y : Oper) : Bool :=
  (anc.getD j 0).testBit i || (x.apart ops y && !(dK x.op == .heavy && dK y.op == .heavy))
def pairsOk (ops : Array Oper) (anc : List Nat) (j : Nat) (y : Oper) : Nat → List Oper → Bool
  | _, [] => true
  | i, x :: l => (if i < j then pairOk ops anc i j x y else true) && pairsOk ops anc j y (i + 1) l
def allPairs (ops : Array Oper) (anc : List Nat) (whole : List Oper) : Nat → List Oper → Bool
  | _, [] => true
  | j, y :: l => pairsOk ops anc j y 0 whole && allPairs ops anc whole (j + 1) l
def opFine (i : Nat) (o : Oper) : Bool := o.after.toList.all (fun e => !(Region.binds .any e) || decide (e.on < i)) && (!(dK o.op == .new) || o.guard.isNone)
def opsFine : Nat → List Oper → Bool
  | _, [] => true
  | i, o :: l => opFine i o && opsFine (i + 1) l
def guardsFine (anc : List Nat) : Nat → List Oper → Bool
  | _, [] => true
  | i, o :: l => (match o.guard with | some (j, _) => (anc.getD i 0).testBit j | none => true) && guardsFine anc (i + 1) l
def okD (P : Program) (ops : Array Oper) (anc : List Nat) : Bool :=
  opsFine 0 ops.toList && guardsFine anc 0 ops.toList && allPairs ops anc ops.toList 0 ops.toList && P.follows .mixedOrders
def news (l : List Oper) : Nat := (l.filter fun o => dK o.op == .new).length
noncomputable def drawK (P : Program) (nt : Nat) (call : CallF) (ops : Array Oper) (T : Tm) (H : AH) (K : Tm → AH → Option R) : Option R :=
  if okD P ops (ancB ops.toList []) = true then
    drawGo P nt call ops (ancB ops.toList []) K ops.toList 0 H.next T { H with next := H.next + news ops.toList } 0 [] [] [] []
  else none
end
noncomputable def drawA (P : Program) : DrawG := fun nt call ops T H => drawK P nt call ops T H fun T H => some (T, H)

section
variable {R : Type}
def aOpsK (P : Program) (nt : Nat) (call : CallF) (ops : Array Oper) (K : Tm → AH → Option R) : List Oper → Tm → AH → Option R
  | [], T, H => K T H
  | o :: l, T, H => match opK o.op with
    | .light => (gval ops T o (aLight P (evo P.globals.size T) o.op H)).bind fun v => (putA nt T o.dst v).bind fun T' => aOpsK P nt call ops K l T' H
    | .new => match o.guard with
      | none => (aNew P (evo P.globals.size T) o.op).bind fun nb => (putA nt T o.dst (nb.val H.next)).bind fun T' => aOpsK P nt call ops K l T' (H.new nb.cells nb.elem)
      | some _ => (gheavy ops T o H ((aNew P (evo P.globals.size T) o.op).map fun nb => newSt nb H)).bind fun r => (putA nt T o.dst r.1).bind fun T' => aOpsK P nt call ops K l T' r.2
    | .heavy => (gheavy ops T o H (aHeavy P call (evo P.globals.size T) o.op H)).bind fun r => (putA nt T o.dst r.1).bind fun T' => aOpsK P nt call ops K l T' r.2

def exs (id : Nat) : Code → Nat
  | .seq a b => exs id a + exs id b
  | .cond _ x y => exs id x + exs id y
  | .block _ c => exs id c
  | .loop c => min 1 (exs id c)
  | .scope c => exs id c
  | .exit j => if j = id then 1 else 0
  | _ => 0
def falls : Code → Nat
  | .skip => 1
  | .label _ => 1
  | .region _ _ _ => 1
  | .seq a b => if falls a = 0 then 0 else falls b
  | .cond _ x y => falls x + falls y
  | .block id c => min 1 (falls c + exs id c)
  | .scope c => falls c
  | _ => 0

def jK (K : Ex → Tm → AH → Option R) (e : Ex) (T : Tm) (H : AH) : Option (St ⊕ R) := match e with
  | .normal => some (.inl (T, H))
  | e => (K e T H).map .inr
def bK (id : Nat) (K : Ex → Tm → AH → Option R) (e : Ex) (T : Tm) (H : AH) : Option (St ⊕ R) := match e with
  | .normal => some (.inl (T, H))
  | .exit j => if j = id then some (.inl (T, H)) else (K (.exit j) T H).map .inr
  | .ret => (K .ret T H).map .inr
def jn (x : Option (St ⊕ R)) (f : Tm → AH → Option R) : Option R := x.bind fun r => match r with
  | .inl s => f s.1 s.2
  | .inr r => some r
def lK (K : Ex → Tm → AH → Option R) (r : Ex × St) : Option R := match r.1 with
  | .normal => none
  | .exit j => K (.exit j) r.2.1 r.2.2
  | .ret => K .ret r.2.1 r.2.2
def sK (b : Tm → AH → Option R) (K : Ex → Tm → AH → Option R) (e : Ex) (T : Tm) (H : AH) : Option R := match e with
  | .normal => b T H
  | .exit j => K (.exit j) T H
  | .ret => K .ret T H
def cK (id : Nat) (K : Ex → Tm → AH → Option R) (e : Ex) (T : Tm) (H : AH) : Option R := match e with
  | .normal => K .normal T H
  | .exit j => if j = id then K .normal T H else K (.exit j) T H
  | .ret => K .ret T H
def rK (e : Ex) (T : Tm) (H : AH) : Option (Ex × St) := some (e, T, H)

noncomputable def aCodeK (P : Program) (nt : Nat) (call : CallF) (it : ItF) : {R : Type} → Code → Tm → AH → (Ex → Tm → AH → Option R) → Option R
  | _, .skip, T, H, K => K .normal T H
  | _, .label _, T, H, K => K .normal T H
  | _, .region _ ops d, T, H, K => if d = true then drawK P nt call ops T H (K .normal) else aOpsK P nt call ops (K .normal) ops.toList T H
  | _, .seq a b, T, H, K => if falls a ≤ 1 then aCodeK P nt call it a T H (sK (fun T H => aCodeK P nt call it b T H K) K)
      else jn (aCodeK P nt call it a T H (jK K)) fun T H => aCodeK P nt call it b T H K
  | _, .cond c x y, T, H, K => (evo P.globals.size T c).bind fun v => (asB v).bind fun t => if t = true then aCodeK P nt call it x T H K else aCodeK P nt call it y T H K
  | _, .block id c, T, H, K => if falls c + exs id c ≤ 1 then aCodeK P nt call it c T H (cK id K)
      else jn (aCodeK P nt call it c T H (bK id K)) (K .normal)
  | _, .loop c, T, H, K => (it (fun s => aCodeK P nt call it c s.1 s.2 rK) (T, H)).bind (lK K)
  | _, .scope c, T, H, K => aCodeK P nt call it c T H K
  | _, .exit id, T, H, K => K (.exit id) T H
  | _, .ret, T, H, K => K .ret T H
  | _, _, _, _, _ => none
end
end Go.Ri
set_option linter.unusedVariables false
set_option linter.unusedSimpArgs false
namespace Go.Ri
section
variable {R : Type}

theorem drawGo_bind (P : Program) (nt : Nat) (call : CallF) (ops : Array Oper) (anc : List Nat) (K : Tm → AH → Option R) : ∀ (l : List Oper) (i id : Nat) (T : Tm) (G : AH) (mb : Nat) (all : List FL) (vers : List (Nat × AH × Nat)) (pend : List PL) (chks : List (Option AV × Option AV)),
    drawGo P nt call ops anc K l i id T G mb all vers pend chks = (drawGo P nt call ops anc (fun T H => some (T, H)) l i id T G mb all vers pend chks).bind fun s => K s.1 s.2
  | [], i, id, T, G, mb, all, vers, pend, chks => by
    simp only [drawGo, chkL_eq, chk_bind, Option.bind_some]
  | o :: l, i, id, T, G, mb, all, vers, pend, chks => by
    simp only [drawGo]
    cases dK o.op with
    | pure => simp only [Option.bind_assoc, drawGo_bind P nt call ops anc K l]
    | read => simp only [Option.bind_assoc, drawGo_bind P nt call ops anc K l]
    | new => simp only [Option.bind_assoc, drawGo_bind P nt call ops anc K l]
    | heavy => simp only [Option.bind_assoc, drawGo_bind P nt call ops anc K l]

theorem drawK_bind (P : Program) (nt : Nat) (call : CallF) (ops : Array Oper) (T : Tm) (H : AH) (K : Tm → AH → Option R) : drawK P nt call ops T H K = (drawA P nt call ops T H).bind fun s => K s.1 s.2 := by
  unfold drawA drawK
  split
  · exact drawGo_bind P nt call ops _ K _ _ _ _ _ _ _ _ _ _
  · rfl

theorem gheavy_eq (ops : Array Oper) (T : Tm) (o : Oper) (G : AH) (x : Option (AV × AH)) (k : AV × AH → Option R) :
    (gheavy ops T o G x).bind k = (gd ops T o).bind fun g => if g = true then x.bind k else k (.tuple [], G) := by
  unfold gheavy
  rw [Option.bind_assoc]
  congr 1
  funext g
  split <;> rfl
theorem gval_eq (ops : Array Oper) (T : Tm) (o : Oper) (x : Option AV) (k : AV → Option R) :
    (gval ops T o x).bind k = (gd ops T o).bind fun g => if g = true then x.bind k else k (.tuple []) := by
  unfold gval
  rw [Option.bind_assoc]
  congr 1
  funext g
  split <;> rfl

theorem aOpsK_bind (P : Program) (nt : Nat) (call : CallF) (ops : Array Oper) (K : Tm → AH → Option R) : ∀ (l : List Oper) (T : Tm) (H : AH),
    aOpsK P nt call ops K l T H = (aOps P nt call ops l T H).bind fun s => K s.1 s.2
  | [], T, H => rfl
  | o :: l, T, H => by
    have ih : ∀ T H, aOpsK P nt call ops K l T H = (aOps P nt call ops l T H).bind fun s => K s.1 s.2 := aOpsK_bind P nt call ops K l
    have comm : ∀ (x : Option (AV × AH)), ((gd ops T o).bind fun g => if g = true then x.bind fun r => (putA nt T o.dst r.1).bind fun T' => aOps P nt call ops l T' r.2 else (putA nt T o.dst (.tuple [])).bind fun T' => aOps P nt call ops l T' H).bind (fun s => K s.1 s.2) =
        (gd ops T o).bind fun g => if g = true then x.bind fun r => (putA nt T o.dst r.1).bind fun T' => aOpsK P nt call ops K l T' r.2 else (putA nt T o.dst (.tuple [])).bind fun T' => aOpsK P nt call ops K l T' H := by
      intro x
      rw [Option.bind_assoc]
      congr 1
      funext g
      split
      · simp only [Option.bind_assoc, ih]
      · simp only [Option.bind_assoc, ih]
    simp only [aOps, comm]
    rw [aOpsK]
    cases hk : opK o.op with
    | light =>
      simp only [gval_eq, aOp, hk]
      congr 1
      funext g
      split
      · simp only [Option.bind_map]; rfl
      · rfl
    | new =>
      simp only [aOp, hk]
      cases hg : o.guard with
      | none =>
        simp only [gd, hg, Option.bind_some, if_true, Option.bind_map]
        rfl
      | some q =>
        simp only [gheavy_eq]
    | heavy => simp only [gheavy_eq, aOp, hk]

theorem bind_id (x : Option R) (f : R → Option R) (h : ∀ r, f r = some r) : x.bind f = x := by
  cases x with
  | none => rfl
  | some r => exact h r

theorem aCodeK_bind (P : Program) (nt : Nat) (call : CallF) (it : ItF) : ∀ {R : Type} (c : Code) (T : Tm) (H : AH) (K : Ex → Tm → AH → Option R),
    aCodeK P nt call it c T H K = (aCode P nt call (drawA P nt call) it c T H).bind fun r => K r.1 r.2.1 r.2.2 := by
  intro R c
  induction c generalizing R with
  | skip => intro T H K; rfl
  | label l => intro T H K; rfl
  | region id ops d =>
    intro T H K
    simp only [aCodeK, aCode]
    cases d with
    | true =>
      simp only [if_true, drawK_bind, Option.bind_map]
      rfl
    | false =>
      simp only [Bool.false_eq_true, if_false, aOpsK_bind, Option.bind_map]
      rfl
  | seq x y ihx ihy =>
    intro T H K
    simp only [aCodeK, aCode]
    split
    · rw [ihx, Option.bind_assoc]
      congr 1
      funext r
      obtain ⟨e, T1, H1⟩ := r
      cases e with
      | normal => exact ihy T1 H1 K
      | exit j => rfl
      | ret => rfl
    · rw [ihx]
      unfold jn
      rw [Option.bind_assoc, Option.bind_assoc]
      congr 1
      funext r
      obtain ⟨e, T1, H1⟩ := r
      cases e with
      | normal => exact ihy T1 H1 K
      | exit j => simp only [jK, Option.bind_map, Option.bind_some]; exact bind_id _ _ fun _ => rfl
      | ret => simp only [jK, Option.bind_map, Option.bind_some]; exact bind_id _ _ fun _ => rfl
  | cond c x y ihx ihy =>
    intro T H K
    simp only [aCodeK, aCode, Option.bind_assoc]
    congr 1
    funext v
    congr 1
    funext t
    split
    · exact ihx T H K
    · exact ihy T H K
  | block id c ih =>
    intro T H K
    simp only [aCodeK, aCode]
    split
    · rw [ih, Option.bind_map]
      congr 1
      funext r
      obtain ⟨e, T1, H1⟩ := r
      cases e with
      | normal => rfl
      | exit j =>
        simp only [Function.comp, cK]
        split <;> rfl
      | ret => rfl
    · rw [ih, Option.bind_map]
      unfold jn
      rw [Option.bind_assoc]
      congr 1
      funext r
      obtain ⟨e, T1, H1⟩ := r
      cases e with
      | normal => rfl
      | exit j =>
        simp only [Function.comp, bK]
        split
        · rfl
        · simp only [Option.bind_map]; exact bind_id _ _ fun _ => rfl
      | ret => simp only [Function.comp, bK, Option.bind_map]; exact bind_id _ _ fun _ => rfl
  | loop c ih =>
    intro T H K
    simp only [aCodeK, aCode, ih, Option.bind_assoc]
    have : ∀ x : Option (Ex × St), (x.bind fun r => rK r.1 r.2.1 r.2.2) = x := fun x => by cases x <;> rfl
    simp only [this]
    congr 1
    funext r
    obtain ⟨e, T1, H1⟩ := r
    cases e <;> rfl
  | rangeFunc f params assign body ih1 ih2 => intro T H K; rfl
  | exit id => intro T H K; rfl
  | scope c ih => intro T H K; simp only [aCodeK, aCode, ih]
  | goto l => intro T H K; rfl
  | ret => intro T H K; rfl
  | refuse why => intro T H K; rfl

def endK (P : Program) (rs : List ResultVar) (e : Ex) (T : Tm) (H : AH) : Option (AV × AH) := match e with
  | .exit _ => none
  | _ => (aRes P T H rs).map fun v => (v, H)
theorem aFun_eq {P : Program} {call : CallF} {it : ItF} {f : FuncId} {fn : Func} {c : Code} (hf : P.funcs[f]? = some fn) (hb : fn.body = some c) (hn : (fn.name == "runtime.NumGoroutine") = false) (args : List AV) (H : AH) (hl : args.length ≤ fn.ntmps) :
    aFun P (drawA P) call it f args H = aCodeK P fn.ntmps call it c (T0 args) H (endK P fn.results.toList) := by
  unfold aFun
  simp only [hf, hb]
  rw [if_pos ⟨hl, hn⟩, aCodeK_bind]
  rfl
end
end Go.Ri
namespace Go.Ri
def callV (call : CallF) (v : AV) (vs : List AV) (H : AH) : Option (AV × AH) := match v with
  | .func f cs => call f (vs ++ cs) H
  | _ => none
end Go.Ri
set_option linter.unusedVariables false
set_option linter.unusedSimpArgs false
namespace Go.Ri

section
variable {ev ev' : Operand → Option AV}
theorem evL_congr : ∀ {xs : List Operand}, (∀ x ∈ xs, ev x = ev' x) → evL ev xs = evL ev' xs
  | [], _ => rfl
  | x :: xs, h => by
    simp only [evL]
    rw [h x (by simp), evL_congr fun y hy => h y (by simp [hy])]
theorem evP_congr : ∀ {xs : List (Nat × Operand)}, (∀ x ∈ xs, ev x.2 = ev' x.2) → evP ev xs = evP ev' xs
  | [], _ => rfl
  | (i, x) :: xs, h => by
    simp only [evP]
    rw [h (i, x) (by simp), evP_congr fun y hy => h y (by simp [hy])]
theorem evO_congr {x : Option Operand} (h : ∀ y, x = some y → ev y = ev' y) : evO ev x = evO ev' x := by
  cases x with
  | none => rfl
  | some x => simp only [evO, h x rfl]

theorem aLight_congr {P : Program} {o : Op} (h : ∀ x ∈ o.operands, ev x = ev' x) (H : AH) : aLight P ev o H = aLight P ev' o H := by
  cases o <;> simp only [Op.operands] at h <;> simp only [aLight]
  case build t ps => rw [evP_congr fun x hx => h x.2 (by simpa using ⟨x.1, by simpa using hx⟩)]
  case makeFunc fn first caps =>
    have e : evL ev caps.toList = evL ev' caps.toList := evL_congr fun x hx => h x (by simp at hx ⊢; exact .inr hx)
    cases fn <;> simp [e]
  case slice t x lo hi mx =>
    rw [h x (by simp), evO_congr (x := lo) fun y hy => h y (by simp [hy]), evO_congr (x := hi) fun y hy => h y (by simp [hy]), evO_congr (x := mx) fun y hy => h y (by simp [hy])]
  case call c =>
    cases hc : c.callee <;> try rfl
    rename_i b
    cases b <;> try rfl
    show (match c.args.toList, c.argTypes.toList with | [x], [t] => _ | _, _ => _) = (match c.args.toList, c.argTypes.toList with | [x], [t] => _ | _, _ => _)
    split
    · rename_i x t ha ht
      rw [h x (by simp [Call.operands, hc, list_one ha])]
    · rfl
  case pick c a b => rw [h c (by simp), h a (by simp), h b (by simp)]
  all_goals first
    | rfl
    | (rename_i a b; rw [h a (by simp)]; done)
    | simp_all

theorem aNew_congr {P : Program} {o : Op} (h : ∀ x ∈ o.operands, ev x = ev' x) : aNew P ev o = aNew P ev' o := by
  cases o <;> simp only [Op.operands] at h <;> simp only [aNew]
  case buildSlice t n ps => rw [evP_congr fun x hx => h x.2 (by simpa using ⟨x.1, by simpa using hx⟩)]
  all_goals simp_all

theorem aHeavy_congr {P : Program} {call : CallF} {o : Op} (h : ∀ x ∈ o.operands, ev x = ev' x) (H : AH) : aHeavy P call ev o H = aHeavy P call ev' o H := by
  cases o <;> simp only [Op.operands] at h <;> simp only [aHeavy]
  case call c =>
    cases hc : c.callee <;> try rfl
    · rename_i f
      simp only []
      rw [h f (by simp [Call.operands, hc]), evL_congr fun x hx => h x (by simp [Call.operands, hc] at hx ⊢; exact .inr hx)]
    · rename_i b
      cases b <;> try rfl
      all_goals
        simp only []
        split
        · first
          | (rename_i x y t u ha ht
             rw [h x (by simp [Call.operands, hc, list_two ha]), h y (by simp [Call.operands, hc, list_two ha])]
             done)
          | (rename_i x t ha ht
             rw [h x (by simp [Call.operands, hc, list_one ha])]
             done)
        · rfl
  all_goals simp_all
end

theorem evo_congr {ng : Nat} {T T' : Tm} {x : Operand} (h : ∀ t, x = .tmp t → T t = T' t) : evo ng T x = evo ng T' x := by
  cases x with
  | tmp t => simp only [evo, h t rfl]
  | _ => rfl
theorem looks_op {ops : Array Oper} {o : Oper} {t : Nat} (h : Operand.tmp t ∈ o.op.operands) : t ∈ o.looksAt ops :=
  List.mem_append_left _ (List.mem_filterMap.2 ⟨.tmp t, by simpa using h, rfl⟩)
theorem looks_evo {ng : Nat} {ops : Array Oper} {o : Oper} {T T' : Tm} (h : ∀ t ∈ o.looksAt ops, T t = T' t) : ∀ x ∈ o.op.operands, evo ng T x = evo ng T' x :=
  fun x hx => evo_congr fun t ht => h t (looks_op (by rw [← ht]; exact hx))
theorem gd_congr {ops : Array Oper} {o : Oper} {T T' : Tm} (h : ∀ t ∈ o.looksAt ops, T t = T' t) : gd ops T o = gd ops T' o := by
  unfold gd
  cases hg : o.guard with
  | none => simp
  | some gw =>
    obtain ⟨j, want⟩ := gw
    simp only []
    cases hd : (ops[j]?).bind (·.dst) with
    | none => simp
    | some d => simp only [h d (by simp [Oper.looksAt, hg, hd])]

theorem aLight_pure {P : Program} {ev : Operand → Option AV} {o : Op} (h : dK o = .pure) (H H' : AH) : aLight P ev o H = aLight P ev o H' := by
  cases o <;> first
    | rfl
    | (simp [dK, opK] at h; done)
    | (rename_i fn _ _; cases fn <;> rfl)
structure DS where
  T : Tm
  G : AH
  mb : Nat
  id : Nat
  all : List FL

def rdF (P : Program) (ops : Array Oper) (an : Nat) (o : Oper) (T : Tm) (all : List FL) (V : AH × Nat) : Option AV :=
  gval ops T o (aLight P (evo P.globals.size T) o.op (addF (sel all an V.2) V.1))

def StepOk (P : Program) (nt : Nat) (call : CallF) (ops : Array Oper) (an i : Nat) (o : Oper) (s : DS) (v : AV) (s' : DS) : Prop :=
  putA nt s.T o.dst v = some s'.T ∧ match dK o.op with
  | .pure => gval ops s.T o (aLight P (evo P.globals.size s.T) o.op s.G) = some v ∧ s'.G = s.G ∧ s'.mb = s.mb ∧ s'.id = s.id ∧ s'.all = s.all
  | .read => rdF P ops an o s.T s.all (s.G, s.mb) = some v ∧ s'.G = s.G ∧ s'.mb = s.mb ∧ s'.id = s.id ∧ s'.all = s.all
  | .new => ∃ nb, aNew P (evo P.globals.size s.T) o.op = some nb ∧ v = nb.val s.id ∧ s'.G = s.G ∧ s'.mb = s.mb ∧ s'.id = s.id + 1 ∧ s'.all = s.all ++ [⟨i, s.id, ⟨nb.cells, nb.elem, true⟩⟩]
  | .heavy => gheavy ops s.T o (addF (sel s.all an s.mb) s.G) (aHeavy P call (evo P.globals.size s.T) o.op (addF (sel s.all an s.mb) s.G)) = some (v, s'.G) ∧ s'.mb = (s.mb ||| an) ∧ s'.id = s.id ∧ s'.all = s.all

theorem allEq_append : ∀ {a b : List (Option AV × Option AV)}, allEq (a ++ b) → allEq a ∧ allEq b
  | [], b, h => ⟨trivial, h⟩
  | (x, y) :: a, b, h => ⟨⟨h.1, (allEq_append h.2).1⟩, (allEq_append h.2).2⟩
theorem allEq_mem : ∀ {a : List (Option AV × Option AV)}, allEq a → ∀ p ∈ a, p.1 = p.2
  | (x, y) :: a, h, p, hp => by
    cases hp with
    | head => exact h.1
    | tail _ hp => exact allEq_mem h.2 p hp

def sw {α : Type} (i : Nat) (x : α) (f : Nat → α) : Nat → α := fun j => if j = i then x else f j
theorem sw_at {α : Type} (i : Nat) (x : α) (f : Nat → α) : sw i x f i = x := by simp [sw]
theorem sw_ne {α : Type} {i j : Nat} (x : α) (f : Nat → α) (h : j ≠ i) : sw i x f j = f j := by simp [sw, h]

structure Tr (P : Program) (nt : Nat) (call : CallF) (ops : Array Oper) (anc : List Nat) (l : List Oper) (i : Nat) (D : Nat → DS) (v : Nat → AV) : Prop where
  step : ∀ j o, l[j]? = some o → StepOk P nt call ops (anc.getD (i + j) 0) (i + j) o (D (i + j)) (v (i + j)) (D (i + j + 1))
  rh : ∀ j k o q, j < k → l[j]? = some o → l[k]? = some q → dK o.op = .read → dK q.op = .heavy → (anc.getD (i + k) 0).testBit (i + j) = false →
    rdF P ops (anc.getD (i + j) 0) o (D (i + j)).T (D (i + j)).all ((D (i + k + 1)).G, (D (i + k + 1)).mb) = some (v (i + j))
  hr : ∀ j k o q, j < k → l[j]? = some o → l[k]? = some q → dK o.op = .heavy → dK q.op = .read → (anc.getD (i + k) 0).testBit (i + j) = false →
    rdF P ops (anc.getD (i + k) 0) q (D (i + k)).T (D (i + k)).all ((D (i + j)).G, (D (i + j)).mb) = some (v (i + k))

section
variable {P : Program} {nt : Nat} {call : CallF} {ops : Array Oper} {anc : List Nat} {R : Type} {K : Tm → AH → Option R}

theorem Tr.cons {o : Oper} {l : List Oper} {i : Nat} {s : DS} {x : AV} {D : Nat → DS} {v : Nat → AV} (h : Tr P nt call ops anc l (i + 1) D v)
    (hs : StepOk P nt call ops (anc.getD i 0) i o s x (D (i + 1)))
    (h1 : dK o.op = .read → ∀ k q, l[k]? = some q → dK q.op = .heavy → (anc.getD (i + 1 + k) 0).testBit i = false → rdF P ops (anc.getD i 0) o s.T s.all ((D (i + 1 + k + 1)).G, (D (i + 1 + k + 1)).mb) = some x)
    (h2 : dK o.op = .heavy → ∀ k q, l[k]? = some q → dK q.op = .read → (anc.getD (i + 1 + k) 0).testBit i = false → rdF P ops (anc.getD (i + 1 + k) 0) q (D (i + 1 + k)).T (D (i + 1 + k)).all (s.G, s.mb) = some (v (i + 1 + k))) :
    Tr P nt call ops anc (o :: l) i (sw i s D) (sw i x v) := by
  refine ⟨fun j q hj => ?_, fun j k a q hjk hj hk ha hq hb => ?_, fun j k a q hjk hj hk ha hq hb => ?_⟩
  · cases j with
    | zero =>
      simp at hj
      subst hj
      simp only [Nat.add_zero, sw_at, sw_ne s D (show i + 1 ≠ i by omega)]
      exact hs
    | succ j =>
      rw [sw_ne s D (by omega), sw_ne x v (by omega), sw_ne s D (by omega)]
      have := h.step j q (by simpa using hj)
      rw [show i + (j + 1) = i + 1 + j by omega]
      exact this
  · cases k with
    | zero => omega
    | succ k =>
      rw [show i + (k + 1) = i + 1 + k by omega] at hb ⊢
      rw [sw_ne s D (show i + 1 + k + 1 ≠ i by omega)]
      cases j with
      | zero =>
        simp at hj
        subst hj
        simp only [Nat.add_zero, sw_at] at hb ⊢
        exact h1 ha k q (by simpa using hk) hq hb
      | succ j =>
        rw [show i + (j + 1) = i + 1 + j by omega] at hb ⊢
        rw [sw_ne s D (by omega), sw_ne x v (by omega)]
        exact h.rh j k a q (by omega) (by simpa using hj) (by simpa using hk) ha hq hb
  · cases k with
    | zero => omega
    | succ k =>
      rw [show i + (k + 1) = i + 1 + k by omega] at hb ⊢
      rw [sw_ne s D (show i + 1 + k ≠ i by omega), sw_ne x v (by omega)]
      cases j with
      | zero =>
        simp at hj
        subst hj
        simp only [Nat.add_zero, sw_at] at hb ⊢
        exact h2 ha k q (by simpa using hk) hq hb
      | succ j =>
        rw [show i + (j + 1) = i + 1 + j by omega] at hb ⊢
        rw [sw_ne s D (by omega)]
        exact h.hr j k a q (by omega) (by simpa using hj) (by simpa using hk) ha hq hb

theorem drawGo_trace : ∀ (l : List Oper) (i id : Nat) (T : Tm) (G : AH) (mb : Nat) (all : List FL) (vers : List (Nat × AH × Nat)) (pend : List PL) (chks : List (Option AV × Option AV)) (r : R),
    drawGo P nt call ops anc K l i id T G mb all vers pend chks = some r → ∃ (D : Nat → DS) (v : Nat → AV), D i = ⟨T, G, mb, id, all⟩ ∧ Tr P nt call ops anc l i D v ∧
      K (D (i + l.length)).T (addF (selR (D (i + l.length)).all (D (i + l.length)).mb) (D (i + l.length)).G) = some r ∧ allEq chks ∧
      (∀ p ∈ pend, ∀ k q, l[k]? = some q → dK q.op = .heavy → (anc.getD (i + k) 0).testBit p.i = false → p.f ((D (i + k + 1)).G, (D (i + k + 1)).mb) = some p.v) ∧
      (∀ V ∈ vers, ∀ k q, l[k]? = some q → dK q.op = .read → (anc.getD (i + k) 0).testBit V.1 = false → rdF P ops (anc.getD (i + k) 0) q (D (i + k)).T (D (i + k)).all V.2 = some (v (i + k)))
  | [], i, id, T, G, mb, all, vers, pend, chks, r, h => by
    simp only [drawGo, chkL_eq] at h
    obtain ⟨hc, h⟩ := chk_some h
    refine ⟨fun _ => ⟨T, G, mb, id, all⟩, fun _ => .tuple [], rfl, ⟨?_, ?_, ?_⟩, h, hc, ?_, ?_⟩ <;> simp
  | o :: l, i, id, T, G, mb, all, vers, pend, chks, r, h => by
    -- the clauses for what stood before, at operation `i` and behind it
    have fin : ∀ {D : Nat → DS} {v : Nat → AV} {x : AV} {vers' : List (Nat × AH × Nat)} {pend' : List PL}, (∀ p ∈ pend, p ∈ pend') → (∀ V ∈ vers, V ∈ vers') →
        Tr P nt call ops anc (o :: l) i (sw i ⟨T, G, mb, id, all⟩ D) (sw i x v) →
        K (D (i + 1 + l.length)).T (addF (selR (D (i + 1 + l.length)).all (D (i + 1 + l.length)).mb) (D (i + 1 + l.length)).G) = some r → allEq chks →
        (∀ p ∈ pend', ∀ k q, l[k]? = some q → dK q.op = .heavy → (anc.getD (i + 1 + k) 0).testBit p.i = false → p.f ((D (i + 1 + k + 1)).G, (D (i + 1 + k + 1)).mb) = some p.v) →
        (∀ V ∈ vers', ∀ k q, l[k]? = some q → dK q.op = .read → (anc.getD (i + 1 + k) 0).testBit V.1 = false → rdF P ops (anc.getD (i + 1 + k) 0) q (D (i + 1 + k)).T (D (i + 1 + k)).all V.2 = some (v (i + 1 + k))) →
        (dK o.op = .heavy → ∀ p ∈ pend, (anc.getD i 0).testBit p.i = false → p.f ((D (i + 1)).G, (D (i + 1)).mb) = some p.v) →
        (dK o.op = .read → ∀ V ∈ vers, (anc.getD i 0).testBit V.1 = false → rdF P ops (anc.getD i 0) o T all V.2 = some x) →
        ∃ (D : Nat → DS) (v : Nat → AV), D i = ⟨T, G, mb, id, all⟩ ∧ Tr P nt call ops anc (o :: l) i D v ∧
          K (D (i + (o :: l).length)).T (addF (selR (D (i + (o :: l).length)).all (D (i + (o :: l).length)).mb) (D (i + (o :: l).length)).G) = some r ∧ allEq chks ∧
          (∀ p ∈ pend, ∀ k q, (o :: l)[k]? = some q → dK q.op = .heavy → (anc.getD (i + k) 0).testBit p.i = false → p.f ((D (i + k + 1)).G, (D (i + k + 1)).mb) = some p.v) ∧
          (∀ V ∈ vers, ∀ k q, (o :: l)[k]? = some q → dK q.op = .read → (anc.getD (i + k) 0).testBit V.1 = false → rdF P ops (anc.getD (i + k) 0) q (D (i + k)).T (D (i + k)).all V.2 = some (v (i + k))) := by
      intro D v x vers' pend' hp hv htr hK hc h1 h2 h3 h4
      refine ⟨_, _, sw_at _ _ _, htr, ?_, hc, ?_, ?_⟩
      · rw [List.length_cons, show i + (l.length + 1) = i + 1 + l.length by omega, sw_ne _ D (by omega)]
        exact hK
      · intro p hpm k q hk hq hb
        cases k with
        | zero =>
          simp at hk
          subst hk
          rw [sw_ne _ D (by omega)]
          exact h3 hq p hpm hb
        | succ k =>
          rw [show i + (k + 1) = i + 1 + k by omega] at hb ⊢
          rw [sw_ne _ D (by omega)]
          exact h1 p (hp p hpm) k q (by simpa using hk) hq hb
      · intro V hVm k q hk hq hb
        cases k with
        | zero =>
          simp at hk
          subst hk
          simp only [Nat.add_zero, sw_at] at hb ⊢
          exact h4 hq V hVm hb
        | succ k =>
          rw [show i + (k + 1) = i + 1 + k by omega] at hb ⊢
          rw [sw_ne _ D (by omega), sw_ne _ v (by omega)]
          exact h2 V (hv V hVm) k q (by simpa using hk) hq hb
    simp only [drawGo] at h
    cases hk : dK o.op with
    | pure =>
      simp only [hk, Option.bind_eq_some_iff] at h
      obtain ⟨x, hx, T', hT', h⟩ := h
      obtain ⟨D, v, hD, htr, hK, hc, h1, h2⟩ := drawGo_trace l (i + 1) _ _ _ _ _ _ _ _ r h
      refine fin (x := x) (fun _ h => h) (fun _ h => h) (htr.cons ?_ (fun e => by rw [hk] at e; cases e) (fun e => by rw [hk] at e; cases e)) hK hc h1 h2 (fun e => by rw [hk] at e; cases e) (fun e => by rw [hk] at e; cases e)
      exact ⟨by rw [hD]; exact hT', by rw [hk]; exact ⟨hx, by rw [hD], by rw [hD], by rw [hD], by rw [hD]⟩⟩
    | read =>
      simp only [hk, Option.bind_eq_some_iff] at h
      obtain ⟨x, hx, T', hT', h⟩ := h
      obtain ⟨D, v, hD, htr, hK, hc, h1, h2⟩ := drawGo_trace l (i + 1) _ _ _ _ _ _ _ _ r h
      obtain ⟨hc1, hc2⟩ := allEq_append hc
      refine fin (x := x) (fun _ h => List.mem_cons_of_mem _ h) (fun _ h => h) (htr.cons ?_ (fun _ k q hkq hq hb => h1 _ (List.mem_cons_self ..) k q hkq hq hb) (fun e => by rw [hk] at e; cases e)) hK hc2 h1 h2 (fun e => by rw [hk] at e; cases e) (fun _ V hV hb => ?_)
      · exact ⟨by rw [hD]; exact hT', by rw [hk]; exact ⟨hx, by rw [hD], by rw [hD], by rw [hD], by rw [hD]⟩⟩
      · exact allEq_mem hc1 _ (List.mem_map.2 ⟨V, List.mem_filter.2 ⟨hV, by simpa using hb⟩, rfl⟩)
    | new =>
      simp only [hk, Option.bind_eq_some_iff] at h
      obtain ⟨nb, hx, T', hT', h⟩ := h
      obtain ⟨D, v, hD, htr, hK, hc, h1, h2⟩ := drawGo_trace l (i + 1) _ _ _ _ _ _ _ _ r h
      refine fin (x := nb.val id) (fun _ h => h) (fun _ h => h) (htr.cons ?_ (fun e => by rw [hk] at e; cases e) (fun e => by rw [hk] at e; cases e)) hK hc h1 h2 (fun e => by rw [hk] at e; cases e) (fun e => by rw [hk] at e; cases e)
      exact ⟨by rw [hD]; exact hT', by rw [hk]; exact ⟨nb, hx, rfl, by rw [hD], by rw [hD], by rw [hD], by rw [hD]⟩⟩
    | heavy =>
      simp only [hk, Option.bind_eq_some_iff] at h
      obtain ⟨⟨x, G1⟩, hx, T', hT', h⟩ := h
      obtain ⟨D, v, hD, htr, hK, hc, h1, h2⟩ := drawGo_trace l (i + 1) _ _ _ _ _ _ _ _ r h
      obtain ⟨hc1, hc2⟩ := allEq_append hc
      refine fin (x := x) (fun _ h => h) (fun _ h => List.mem_cons_of_mem _ h) (htr.cons ?_ (fun e => by rw [hk] at e; cases e) (fun _ k q hkq hq hb => h2 _ (List.mem_cons_self ..) k q hkq hq hb)) hK hc2 h1 h2 (fun _ p hp hb => ?_) (fun e => by rw [hk] at e; cases e)
      · exact ⟨by rw [hD]; exact hT', by rw [hk]; exact ⟨by rw [hD]; exact hx, by rw [hD], by rw [hD], by rw [hD]⟩⟩
      · rw [hD]
        exact allEq_mem hc1 _ (List.mem_map.2 ⟨p, List.mem_filter.2 ⟨hp, by simpa using hb⟩, rfl⟩)
end
end Go.Ri
set_option linter.unusedVariables false
set_option linter.unusedSimpArgs false
namespace Go.Ri

theorem ancFold (acc : List Nat) (j : Nat) : ∀ (l : List Edge) (s : Nat), (l.foldl (fun s e => if Region.binds .any e = true then s ||| 2 ^ e.on ||| acc.getD e.on 0 else s) s).testBit j = true →
    s.testBit j = true ∨ ∃ e ∈ l, Region.binds .any e = true ∧ (j = e.on ∨ (acc.getD e.on 0).testBit j = true)
  | [], s, h => .inl h
  | e :: l, s, h => by
    rw [List.foldl_cons] at h
    rcases ancFold acc j l _ h with h | ⟨e', he', hb, hj⟩
    · split at h
      · rename_i hb
        simp only [Nat.testBit_or, Nat.testBit_two_pow, Bool.or_eq_true, decide_eq_true_eq] at h
        rcases h with (h | h) | h
        · exact .inl h
        · exact .inr ⟨e, by simp, hb, .inl h.symm⟩
        · exact .inr ⟨e, by simp, hb, .inr h⟩
      · exact .inl h
    · exact .inr ⟨e', by simp [he'], hb, hj⟩
theorem ancB_keep : ∀ (l : List Oper) (acc : List Nat) (j : Nat), j < acc.length → (ancB l acc).getD j 0 = acc.getD j 0
  | [], acc, j, h => rfl
  | o :: l, acc, j, h => by
    rw [ancB, ancB_keep l _ j (by simp; omega)]
    simp [List.getD_eq_getElem?_getD, List.getElem?_append_left h]
theorem ancB_at : ∀ (l : List Oper) (acc : List Nat) (k : Nat) (o : Oper), l[k]? = some o → ∃ acc' : List Nat, acc'.length = acc.length + k ∧ (∀ j, j < acc'.length → acc'.getD j 0 = (ancB l acc).getD j 0) ∧
    (ancB l acc).getD (acc.length + k) 0 = ancStep acc' o
  | [], acc, k, o, h => by simp at h
  | q :: l, acc, 0, o, h => by
    simp at h
    subst h
    refine ⟨acc, rfl, fun j hj => (ancB_keep _ _ j hj).symm, ?_⟩
    rw [ancB, Nat.add_zero, ancB_keep l _ _ (by simp)]
    simp [List.getD_eq_getElem?_getD]
  | q :: l, acc, k + 1, o, h => by
    obtain ⟨acc', h1, h2, h3⟩ := ancB_at l (acc ++ [ancStep acc q]) k o (by simpa using h)
    refine ⟨acc', by simp at h1; omega, fun j hj => h2 j hj, ?_⟩
    rw [ancB, ← h3]
    simp only [List.length_append, List.length_cons, List.length_nil]
    congr 1
    omega

section
variable {ops : Array Oper}
def ancs (ops : Array Oper) : List Nat := ancB ops.toList []
theorem anc_spec {i : Nat} {o : Oper} (hi : ops[i]? = some o) {j : Nat} (h : ((ancs ops).getD i 0).testBit j = true) :
    ∃ e ∈ o.after, Region.binds .any e = true ∧ (j = e.on ∨ (e.on < i ∧ ((ancs ops).getD e.on 0).testBit j = true)) := by
  obtain ⟨acc', h1, h2, h3⟩ := ancB_at ops.toList [] i o (by simpa using hi)
  simp only [List.length_nil, Nat.zero_add] at h1 h3
  unfold ancs at h
  rw [h3] at h
  rcases ancFold acc' j _ _ h with h | ⟨e, he, hb, hj⟩
  · simp at h
  · refine ⟨e, by simpa using he, hb, ?_⟩
    rcases hj with hj | hj
    · exact .inl hj
    · rcases Nat.lt_or_ge e.on i with hlt | hge
      · exact .inr ⟨hlt, by unfold ancs; rw [← h2 e.on (by omega)]; exact hj⟩
      · rw [List.getD_eq_getElem?_getD, List.getElem?_eq_none (by omega)] at hj
        simp at hj

theorem opsFine_at : ∀ (l : List Oper) (i k : Nat) (o : Oper), opsFine i l = true → l[k]? = some o → opFine (i + k) o = true
  | [], i, k, o, h, hk => by simp at hk
  | q :: l, i, 0, o, h, hk => by
    simp at hk
    subst hk
    simp only [opsFine, Bool.and_eq_true] at h
    exact h.1
  | q :: l, i, k + 1, o, h, hk => by
    simp only [opsFine, Bool.and_eq_true] at h
    have := opsFine_at l (i + 1) k o h.2 (by simpa using hk)
    rw [show i + (k + 1) = i + 1 + k by omega]
    exact this
theorem pairsOk_at {anc : List Nat} {j : Nat} {y : Oper} : ∀ (l : List Oper) (i k : Nat) (x : Oper), pairsOk ops anc j y i l = true → l[k]? = some x → i + k < j → pairOk ops anc (i + k) j x y = true
  | [], i, k, x, h, hk, hj => by simp at hk
  | q :: l, i, 0, x, h, hk, hj => by
    simp at hk
    subst hk
    simp only [pairsOk, Bool.and_eq_true] at h
    have := h.1
    rw [if_pos (by omega)] at this
    exact this
  | q :: l, i, k + 1, x, h, hk, hj => by
    simp only [pairsOk, Bool.and_eq_true] at h
    have := pairsOk_at l (i + 1) k x h.2 (by simpa using hk) (by omega)
    rw [show i + (k + 1) = i + 1 + k by omega]
    exact this
theorem allPairs_at {anc : List Nat} {whole : List Oper} : ∀ (l : List Oper) (j k : Nat) (y : Oper), allPairs ops anc whole j l = true → l[k]? = some y → pairsOk ops anc (j + k) y 0 whole = true
  | [], i, k, x, h, hk => by simp at hk
  | q :: l, i, 0, x, h, hk => by
    simp at hk
    subst hk
    simp only [allPairs, Bool.and_eq_true] at h
    exact h.1
  | q :: l, i, k + 1, x, h, hk => by
    simp only [allPairs, Bool.and_eq_true] at h
    have := allPairs_at l (i + 1) k x h.2 (by simpa using hk)
    rw [show i + (k + 1) = i + 1 + k by omega]
    exact this

structure Fine (P : Program) (ops : Array Oper) : Prop where
  fine : ∀ i o, ops[i]? = some o → opFine i o = true
  pair : ∀ i j x y, i < j → ops[i]? = some x → ops[j]? = some y → pairOk ops (ancs ops) i j x y = true
  mixed : P.follows .mixedOrders = true
theorem fine_of {P : Program} (h : okD P ops (ancs ops) = true) : Fine P ops := by
  simp only [okD, Bool.and_eq_true] at h
  obtain ⟨⟨⟨h1, h2⟩, h3⟩, h4⟩ := h
  refine ⟨fun i o hi => ?_, fun i j x y hij hi hj => ?_, h4⟩
  · simpa using opsFine_at ops.toList 0 i o h1 (by simpa using hi)
  · have := allPairs_at ops.toList 0 j y h3 (by simpa using hj)
    rw [Nat.zero_add] at this
    simpa using pairsOk_at ops.toList 0 i x this (by simpa using hi) (by omega)
theorem Fine.on {P : Program} (h : Fine P ops) {i : Nat} {o : Oper} (hi : ops[i]? = some o) {e : Edge} (he : e ∈ o.after) (hb : Region.binds .any e = true) : e.on < i := by
  have := h.fine i o hi
  simp only [opFine, Bool.and_eq_true, List.all_eq_true] at this
  have := this.1 e (by simpa using he)
  simpa [hb] using this

def dstAt (ops : Array Oper) (j : Nat) : Option Nat := (ops[j]?).bind (·.dst)
def wrote (ops : Array Oper) (S : Nat → Bool) (d : Nat) : Nat → Option Nat
  | 0 => none
  | n + 1 => if S n = true ∧ dstAt ops n = some d then some n else wrote ops S d n
def tmpAt (ops : Array Oper) (v : Nat → AV) (T : Tm) (n : Nat) (S : Nat → Bool) : Tm := fun d => match wrote ops S d n with
  | some j => v j
  | none => T d
theorem wrote_congr {S S' : Nat → Bool} {d : Nat} : ∀ {n : Nat}, (∀ j, j < n → dstAt ops j = some d → S j = S' j) → wrote ops S d n = wrote ops S' d n
  | 0, _ => rfl
  | n + 1, h => by
    simp only [wrote]
    rw [wrote_congr fun j hj => h j (by omega)]
    by_cases hd : dstAt ops n = some d
    · rw [h n (by omega) hd]
    · simp [hd]
theorem tmpAt_congr {v : Nat → AV} {T : Tm} {S S' : Nat → Bool} {d n : Nat} (h : ∀ j, j < n → dstAt ops j = some d → S j = S' j) : tmpAt ops v T n S d = tmpAt ops v T n S' d := by
  simp only [tmpAt, wrote_congr h]
theorem wrote_last {S : Nat → Bool} {d i : Nat} : ∀ {n : Nat}, i < n → S i = true → dstAt ops i = some d → (∀ j, i < j → j < n → dstAt ops j = some d → S j = false) → wrote ops S d n = some i
  | 0, h, _, _, _ => by omega
  | n + 1, h, hS, hd, hn => by
    simp only [wrote]
    by_cases e : i = n
    · subst e
      rw [if_pos ⟨hS, hd⟩]
    · rw [if_neg (fun ⟨h1, h2⟩ => by rw [hn n (by omega) (by omega) h2] at h1; cases h1)]
      exact wrote_last (by omega) hS hd fun j h1 h2 => hn j h1 (by omega)
theorem tmpAt_put {nt : Nat} {v : Nat → AV} {T : Tm} {n i : Nat} {S S' : Nat → Bool} {T' T'' : Tm} {x : Oper} (hx : ops[i]? = some x) (hin : i < n) (hp : putA nt T' x.dst (v i) = some T'')
    (hS : ∀ j, S' j = if j = i then true else S j) (hl : ∀ j d, x.dst = some d → i < j → j < n → dstAt ops j = some d → S j = false) :
    putA nt (tmpAt ops v T n S) x.dst (v i) = some (tmpAt ops v T n S') := by
  have hne : ∀ d, dstAt ops i ≠ some d → tmpAt ops v T n S d = tmpAt ops v T n S' d := fun d hd => tmpAt_congr fun j hj hjd => by
    rw [hS, if_neg]
    exact fun e => hd (by rw [← e]; exact hjd)
  have hdx : dstAt ops i = x.dst := by simp [dstAt, hx]
  cases hd : x.dst with
  | none =>
    simp only [putA]
    congr 1
    funext d
    exact hne d (by rw [hdx, hd]; simp)
  | some e =>
    rw [hd] at hp
    simp only [putA] at hp ⊢
    split at hp
    · rename_i hlt
      rw [if_pos hlt]
      congr 1
      funext d
      by_cases he : d = e
      · subst he
        simp only [upd, if_true, tmpAt]
        rw [wrote_last hin (by rw [hS, if_pos rfl]) (by rw [hdx, hd]) fun j h1 h2 h3 => by rw [hS, if_neg (by omega)]; exact hl j d hd h1 h2 h3]
      · simp only [upd, if_neg he]
        exact hne d (by rw [hdx, hd]; simpa using fun h => he h.symm)
    · cases hp
end

theorem addF_next : ∀ (l : List FL) (G : AH), (addF l G).next = G.next
  | [], G => rfl
  | f :: l, G => by
    have := addF_next l (G.put f.id f.B)
    exact this
theorem addF_some : ∀ (l : List FL) (G : AH) (b : Nat) (B : Blk), (addF l G).m b = some B → (∃ f ∈ l, f.id = b ∧ f.B = B) ∨ G.m b = some B
  | [], G, b, B, h => .inr h
  | f :: l, G, b, B, h => by
    rcases addF_some l (G.put f.id f.B) b B h with ⟨g, hg, h1, h2⟩ | h
    · exact .inl ⟨g, by simp [hg], h1, h2⟩
    · by_cases e : b = f.id
      · subst e
        simp only [AH.put, setM_same] at h
        cases h
        exact .inl ⟨f, by simp, rfl, rfl⟩
      · simp only [AH.put, setM_other _ _ e] at h
        exact .inr h
theorem addF_none {l : List FL} {G : AH} {b : Nat} (h : G.m b = none) (hl : ∀ f ∈ l, f.id ≠ b) : (addF l G).m b = none := by
  cases hm : (addF l G).m b with
  | none => rfl
  | some B =>
    rcases addF_some l G b B hm with ⟨f, hf, h1, _⟩ | h'
    · exact absurd h1 (hl f hf)
    · rw [h] at h'; cases h'

theorem frame {P : Program} {ρ ρ' : Ro} {X Y H' : AH} {w w' : World} {R : Nat → Prop} (hX : Sim P ρ X w) (hY : ∀ b B, Y.m b = some B → X.m b = some B) (hn : Y.next = X.next)
    (hR : ∀ b, R b → (∃ B, X.m b = some B ∧ B.rw_ = true) ∧ Y.m b = none) (ho : Out P ρ Y w ρ' H' w') :
    ∃ X' : AH, X'.next = H'.next ∧ (∀ b, R b → X'.m b = X.m b ∧ H'.m b = none) ∧ (∀ b B, H'.m b = some B → X'.m b = some B) ∧ Out P ρ X w ρ' X' w' := by
  classical
  have hYs : Sim P ρ Y w := hX.sub hn hY
  have hle : ρ.le ρ' := ho.le hYs
  have at_ : ∀ b, R b → ∃ B r, X.m b = some B ∧ ρ b = some r ∧ ρ' b = some r ∧ r.blk < w.heap.size := fun b hb => by
    obtain ⟨⟨B, hB, _⟩, _⟩ := hR b hb
    obtain ⟨r, cs, fr, vs, g1, g2, g3⟩ := hX.blk b B hB
    exact ⟨B, r, hB, g1, hle _ _ g1, (Array.getElem?_eq_some_iff.1 g2).1⟩
  have rwR : ∀ b B, R b → X.m b = some B → B.rw_ = true := fun b B hb hB => by
    obtain ⟨⟨B', hB', h1⟩, _⟩ := hR b hb
    rw [hB] at hB'
    cases hB'
    exact h1
  have clash : ∀ b, R b → ∀ b' B' r r', H'.m b' = some B' → ρ b = some r → ρ' b' = some r' → r.blk ≠ r'.blk := by
    intro b hb b' B' r r' hB' hr hr' he
    obtain ⟨B, r1, hB, hr1, hr1', hlt⟩ := at_ b hb
    rw [hr] at hr1
    cases hr1
    obtain ⟨b0, B0, r0, h0, h1, h2, h3⟩ := ho.own b' B' r' hB' hr' (by rw [← he]; exact hlt)
    have := hX.inj b0 b B0 B r0 r (hY _ _ h0) hB (.inr (rwR b B hb hB)) h1 hr (by rw [h2, he])
    subst this
    rw [(hR b0 hb).2] at h0
    cases h0
  have gone : ∀ b, R b → H'.m b = none := fun b hb => by
    cases hm : H'.m b with
    | none => rfl
    | some B' =>
      obtain ⟨B, r, hB, hr, hr', hlt⟩ := at_ b hb
      exact absurd rfl (clash b hb b B' r r hm hr hr')
  have kept : ∀ b r, R b → ρ b = some r → w'.heap[r.blk]? = w.heap[r.blk]? := fun b r hb hr => by
    obtain ⟨B, r1, hB, hr1, hr1', hlt⟩ := at_ b hb
    rw [hr] at hr1
    cases hr1
    refine ho.keep r.blk hlt fun b0 B0 r0 h0 _ h1 h2 => ?_
    have := hX.inj b0 b B0 B r0 r (hY _ _ h0) hB (.inr (rwR b B hb hB)) h1 hr h2
    subst this
    rw [(hR b0 hb).2] at h0
    cases h0
  have mdef : ∀ b, (fun b => if R b then X.m b else H'.m b) b = if R b then X.m b else H'.m b := fun _ => rfl
  refine ⟨⟨fun b => if R b then X.m b else H'.m b, H'.next⟩, rfl, fun b hb => ⟨if_pos hb, gone b hb⟩, fun b B hB => ?_, ?_⟩
  · by_cases hb : R b
    · rw [gone b hb] at hB; cases hB
    · simp only [if_neg hb]; exact hB
  · refine ⟨fun b hb => ho.same b (by omega), by have := ho.next; simp only; omega, ⟨fun b B hB => ?_, ?_, ho.sim.fresh, ho.sim.glob⟩, ho.os, ho.tape, ho.output, ho.size, fun i hi hf => ?_, fun b B r hB hr hlt => ?_⟩
    · by_cases hb : R b
      · simp only [if_pos hb] at hB
        obtain ⟨r, cs, fr, vs, g1, g2, g3, g4, g5, g6⟩ := hX.blk b B hB
        exact ⟨r, cs, fr, vs, hle _ _ g1, by rw [kept b r hb g1]; exact g2, g3, g4, relL_mono hle _ g5, g6⟩
      · simp only [if_neg hb] at hB
        exact ho.sim.blk b B hB
    · intro b b' B B' r r' hB hB' hor hr hr' he
      by_cases hb : R b <;> by_cases hb' : R b'
      · simp only [if_pos hb] at hB
        simp only [if_pos hb'] at hB'
        obtain ⟨_, s, _, k1, k1', _⟩ := at_ b hb
        obtain ⟨_, s', _, k2, k2', _⟩ := at_ b' hb'
        rw [hr] at k1'
        cases k1'
        rw [hr'] at k2'
        cases k2'
        exact hX.inj b b' B B' r r' hB hB' hor k1 k2 he
      · simp only [if_neg hb'] at hB'
        obtain ⟨_, s, _, k1, k1', _⟩ := at_ b hb
        rw [hr] at k1'
        cases k1'
        exact absurd he (clash b hb b' B' r r' hB' k1 hr')
      · simp only [if_neg hb] at hB
        obtain ⟨_, s, _, k1, k1', _⟩ := at_ b' hb'
        rw [hr'] at k1'
        cases k1'
        exact absurd he.symm (clash b' hb' b B r' r hB k1 hr)
      · simp only [if_neg hb] at hB
        simp only [if_neg hb'] at hB'
        exact ho.sim.inj b b' B B' r r' hB hB' hor hr hr' he
    · exact ho.keep i hi fun b B r hB => hf b B r (hY _ _ hB)
    · by_cases hb : R b
      · simp only [if_pos hb] at hB
        obtain ⟨_, s, _, k1, k1', _⟩ := at_ b hb
        rw [hr] at k1'
        cases k1'
        exact ⟨b, B, r, hB, k1, rfl, id⟩
      · simp only [if_neg hb] at hB
        obtain ⟨b0, B0, r0, h0, h1, h2, h3⟩ := ho.own b B r hB hr hlt
        exact ⟨b0, B0, r0, hY _ _ h0, h1, h2, h3⟩

theorem Out.sub {P : Program} {ρ ρ' : Ro} {H X Y : AH} {w w' : World} (h : Out P ρ H w ρ' X w') (hn : Y.next = X.next) (hs : ∀ b B, Y.m b = some B → X.m b = some B) : Out P ρ H w ρ' Y w' :=
  ⟨h.same, by have := h.next; omega, h.sim.sub hn hs, h.os, h.tape, h.output, h.size, h.keep, fun b B r hB => h.own b B r (hs _ _ hB)⟩

theorem Out.step {P : Program} {ρ ρ₁ ρ₂ : Ro} {H H₁ H₂ : AH} {w w₁ w₂ : World} (h : Out P ρ H w ρ₁ H₁ w₁) (hs : ∀ b, b < H.next → ρ₂ b = ρ₁ b) (hn : H₁.next ≤ H₂.next) (hsim : Sim P ρ₂ H₂ w₂)
    (h1 : w₂.os = w₁.os) (h2 : w₂.tape = w₁.tape) (h3 : w₂.output = w₁.output) (h4 : w₁.heap.size ≤ w₂.heap.size) (h5 : ∀ i, i < w₁.heap.size → w₂.heap[i]? = w₁.heap[i]?)
    (h6 : ∀ b B r, H₂.m b = some B → ρ₂ b = some r → r.blk < w₁.heap.size → H₁.m b = some B ∧ ρ₁ b = some r) : Out P ρ H w ρ₂ H₂ w₂ := by
  refine ⟨fun b hb => (hs b hb).trans (h.same b hb), Nat.le_trans h.next hn, hsim, h1.trans h.os, h2.trans h.tape, h3.trans h.output, Nat.le_trans h.size h4, fun i hi hf => ?_, fun b B r hb hρ hlt => ?_⟩
  · rw [h5 i (Nat.lt_of_lt_of_le hi h.size), h.keep i hi hf]
  · obtain ⟨k1, k2⟩ := h6 b B r hb hρ (Nat.lt_of_lt_of_le hlt h.size)
    exact h.own b B r k1 k2 hlt
end Go.Ri
set_option linter.unusedVariables false
set_option linter.unusedSimpArgs false
namespace Go.Ri

structure Ctx (P : Program) (nt : Nat) (call : CallF) (ops : Array Oper) (H : AH) (D : Nat → DS) (v : Nat → AV) : Prop where
  fine : Fine P ops
  tr : Tr P nt call ops (ancs ops) ops.toList 0 D v
  all0 : (D 0).all = []
  id0 : (D 0).id = H.next
  mb0 : (D 0).mb = 0

section
variable {P : Program} {nt : Nat} {call : CallF} {ops : Array Oper} {H : AH} {D : Nat → DS} {v : Nat → AV}

theorem Ctx.step (C : Ctx P nt call ops H D v) {i : Nat} {o : Oper} (hi : ops[i]? = some o) : StepOk P nt call ops ((ancs ops).getD i 0) i o (D i) (v i) (D (i + 1)) := by
  have := C.tr.step i o (by simpa using hi)
  simpa using this
theorem Ctx.some_at (C : Ctx P nt call ops H D v) {i : Nat} (h : i < ops.size) : ∃ o, ops[i]? = some o := ⟨_, Array.getElem?_eq_getElem h⟩

theorem Ctx.keepV (C : Ctx P nt call ops H D v) {i : Nat} {o : Oper} (hi : ops[i]? = some o) (hk : dK o.op ≠ .heavy) : (D (i + 1)).G = (D i).G ∧ (D (i + 1)).mb = (D i).mb := by
  have h := (C.step hi).2
  cases h' : dK o.op <;> simp only [h'] at h
  · exact ⟨h.2.1, h.2.2.1⟩
  · exact ⟨h.2.1, h.2.2.1⟩
  · obtain ⟨nb, _, _, h1, h2, _⟩ := h
    exact ⟨h1, h2⟩
  · exact absurd h' hk
theorem Ctx.keepVs (C : Ctx P nt call ops H D v) {p : Nat} : ∀ {q : Nat}, p ≤ q → q ≤ ops.size → (∀ h o, p ≤ h → h < q → ops[h]? = some o → dK o.op ≠ .heavy) → (D q).G = (D p).G ∧ (D q).mb = (D p).mb
  | 0, hpq, _, _ => by
    have : p = 0 := by omega
    subst this
    exact ⟨rfl, rfl⟩
  | q + 1, hpq, hq, hh => by
    by_cases e : p = q + 1
    · subst e; exact ⟨rfl, rfl⟩
    · obtain ⟨o, ho⟩ := C.some_at (i := q) (by omega)
      have h1 := C.keepV ho (hh q o (by omega) (by omega) ho)
      have h2 := C.keepVs (p := p) (q := q) (by omega) (by omega) fun h o a b => hh h o a (by omega)
      exact ⟨h1.1.trans h2.1, h1.2.trans h2.2⟩

theorem Ctx.allStep (C : Ctx P nt call ops H D v) {i : Nat} {o : Oper} (hi : ops[i]? = some o) :
    ((D (i + 1)).all = (D i).all ∧ (D (i + 1)).id = (D i).id ∧ dK o.op ≠ .new) ∨
    (dK o.op = .new ∧ ∃ nb, aNew P (evo P.globals.size (D i).T) o.op = some nb ∧ v i = nb.val (D i).id ∧ (D (i + 1)).id = (D i).id + 1 ∧ (D (i + 1)).all = (D i).all ++ [⟨i, (D i).id, ⟨nb.cells, nb.elem, true⟩⟩]) := by
  have h := (C.step hi).2
  cases h' : dK o.op <;> simp only [h'] at h
  · exact .inl ⟨h.2.2.2.2, h.2.2.2.1, by simp⟩
  · exact .inl ⟨h.2.2.2.2, h.2.2.2.1, by simp⟩
  · obtain ⟨nb, h0, hv, h1, h2, h3, h4⟩ := h
    exact .inr ⟨rfl, nb, h0, hv, h3, h4⟩
  · exact .inl ⟨h.2.2.2, h.2.2.1, by simp⟩
theorem Ctx.allMono (C : Ctx P nt call ops H D v) {i : Nat} : ∀ {j : Nat}, i ≤ j → j ≤ ops.size → (D i).id ≤ (D j).id ∧ ∀ f ∈ (D i).all, f ∈ (D j).all
  | 0, hij, _ => by
    have : i = 0 := by omega
    subst this
    exact ⟨Nat.le_refl _, fun f h => h⟩
  | j + 1, hij, hj => by
    by_cases e : i = j + 1
    · subst e; exact ⟨Nat.le_refl _, fun f h => h⟩
    · obtain ⟨h1, h2⟩ := C.allMono (i := i) (j := j) (by omega) (by omega)
      obtain ⟨o, ho⟩ := C.some_at (i := j) (by omega)
      rcases C.allStep ho with ⟨k1, k2, _⟩ | ⟨_, nb, _, _, k2, k1⟩
      · exact ⟨by omega, fun f hf => by rw [k1]; exact h2 f hf⟩
      · exact ⟨by omega, fun f hf => by rw [k1]; exact List.mem_append_left _ (h2 f hf)⟩
theorem Ctx.allSpec (C : Ctx P nt call ops H D v) {f : FL} : ∀ {i : Nat}, i ≤ ops.size → f ∈ (D i).all → f.i < i ∧ ∃ o nb, ops[f.i]? = some o ∧ dK o.op = .new ∧ aNew P (evo P.globals.size (D f.i).T) o.op = some nb ∧
      v f.i = nb.val (D f.i).id ∧ f = ⟨f.i, (D f.i).id, ⟨nb.cells, nb.elem, true⟩⟩
  | 0, _, h => by rw [C.all0] at h; cases h
  | i + 1, hi, h => by
    obtain ⟨o, ho⟩ := C.some_at (i := i) (by omega)
    have old : f ∈ (D i).all → _ := fun hf => by
      obtain ⟨k1, k2⟩ := C.allSpec (i := i) (by omega) hf
      exact (⟨by omega, k2⟩ : f.i < i + 1 ∧ _)
    rcases C.allStep ho with ⟨k1, k2, _⟩ | ⟨hk, nb, hnb, hv, k2, k1⟩
    · rw [k1] at h; exact old h
    · rw [k1] at h
      rcases List.mem_append.1 h with h | h
      · exact old h
      · simp only [List.mem_singleton] at h
        subst h
        exact ⟨Nat.lt_succ_self _, o, nb, ho, hk, hnb, hv, rfl⟩

def AL (ops : Array Oper) (D : Nat → DS) : List FL := (D ops.size).all
theorem Ctx.same (C : Ctx P nt call ops H D v) {f g : FL} (hf : f ∈ AL ops D) (hg : g ∈ AL ops D) (h : f.i = g.i) : f = g := by
  obtain ⟨_, o, nb, h1, h2, h3, h4, h5⟩ := C.allSpec (Nat.le_refl _) hf
  obtain ⟨_, o', nb', k1, k2, k3, k4, k5⟩ := C.allSpec (Nat.le_refl _) hg
  rw [h5, k5]
  rw [h] at h1 h3 ⊢
  rw [h1] at k1
  cases k1
  rw [h3] at k3
  cases k3
  rfl
theorem Ctx.ids (C : Ctx P nt call ops H D v) {f : FL} (hf : f ∈ AL ops D) : f.id = (D f.i).id ∧ (D f.i).id < (D (f.i + 1)).id ∧ f.i < ops.size := by
  obtain ⟨h0, o, nb, h1, h2, h3, h4, h5⟩ := C.allSpec (Nat.le_refl _) hf
  refine ⟨by rw [h5], ?_, h0⟩
  rcases C.allStep h1 with ⟨_, _, k⟩ | ⟨_, nb', _, _, k2, _⟩
  · exact absurd h2 k
  · omega
theorem Ctx.apart (C : Ctx P nt call ops H D v) {f g : FL} (hf : f ∈ AL ops D) (hg : g ∈ AL ops D) (h : f.id = g.id) : f.i = g.i := by
  obtain ⟨h1, h2, h3⟩ := C.ids hf
  obtain ⟨k1, k2, k3⟩ := C.ids hg
  rcases Nat.lt_trichotomy f.i g.i with hlt | heq | hlt
  · have := (C.allMono (i := f.i + 1) (j := g.i) (by omega) (by omega)).1
    omega
  · exact heq
  · have := (C.allMono (i := g.i + 1) (j := f.i) (by omega) (by omega)).1
    omega
theorem news_cons (o : Oper) (l : List Oper) : news (o :: l) = (if dK o.op = .new then 1 else 0) + news l := by
  unfold news
  rw [List.filter_cons]
  by_cases h : dK o.op = .new
  · simp [h]; omega
  · have : (dK o.op == DK.new) = false := by simpa using h
    simp [this, h]
theorem Ctx.idsN (C : Ctx P nt call ops H D v) : ∀ {i : Nat}, i ≤ ops.size → (D i).id + news (ops.toList.drop i) = H.next + news ops.toList
  | 0, _ => by simp [C.id0]
  | i + 1, hi => by
    have ih := C.idsN (i := i) (by omega)
    obtain ⟨o, ho⟩ := C.some_at (i := i) (by omega)
    have hd : ops.toList.drop i = o :: ops.toList.drop (i + 1) := by
      have hlt : i < ops.toList.length := by simp; omega
      rw [List.drop_eq_getElem_cons hlt]
      congr 1
      have := Array.getElem?_eq_some_iff.1 ho
      obtain ⟨h1, h2⟩ := this
      simpa using h2
    rw [hd, news_cons] at ih
    rcases C.allStep ho with ⟨_, k2, k3⟩ | ⟨hk, nb, hnb, hv, k2, k1⟩
    · rw [if_neg k3] at ih; omega
    · rw [if_pos hk] at ih; omega
theorem Ctx.idB (C : Ctx P nt call ops H D v) {f : FL} (hf : f ∈ AL ops D) : H.next ≤ f.id ∧ f.id < H.next + news ops.toList := by
  obtain ⟨h1, h2, h3⟩ := C.ids hf
  have a := (C.allMono (i := 0) (j := f.i) (by omega) (by omega)).1
  have b := (C.allMono (i := f.i + 1) (j := ops.size) (by omega) (by omega)).1
  have c := C.idsN (i := ops.size) (Nat.le_refl _)
  rw [C.id0] at a
  omega

structure InvL (ops : Array Oper) (listed : Array Bool) : Prop where
  size : listed.size = ops.size
  down : ∀ i o, ops[i]? = some o → listed.getD i false = true → ∀ e ∈ o.after, Region.binds .any e = true → listed.getD e.on false = true

theorem InvL.anc {listed : Array Bool} (h : InvL ops listed) : ∀ (i : Nat) (o : Oper), ops[i]? = some o → listed.getD i false = true → ∀ j, ((ancs ops).getD i 0).testBit j = true → listed.getD j false = true := by
  intro i
  induction i using Nat.strongRecOn with
  | ind i ih =>
    intro o hi hl j hj
    obtain ⟨e, he, hb, hj⟩ := anc_spec hi hj
    have he' := h.down i o hi hl e he hb
    rcases hj with rfl | ⟨hlt, hj⟩
    · exact he'
    · have hsz : e.on < ops.size := by
        have := (Array.getElem?_eq_some_iff.1 hi).1
        omega
      exact ih e.on hlt _ (Array.getElem?_eq_getElem hsz) he' j hj
theorem InvL.ready {listed : Array Bool} (h : InvL ops listed) {i : Nat} (hr : i ∈ Region.ready .any ops listed) : i < ops.size ∧ listed.getD i false = false ∧ ∃ o, ops[i]? = some o ∧
    (∀ e ∈ o.after, Region.binds .any e = true → listed.getD e.on false = true) ∧ ∀ j, ((ancs ops).getD i 0).testBit j = true → listed.getD j false = true := by
  obtain ⟨h1, o, ho, h2⟩ := mem_ready.1 hr
  have hlt := (Array.getElem?_eq_some_iff.1 ho).1
  have hlt' : i < listed.size := by rw [h.size]; exact hlt
  refine ⟨hlt, by simpa [hlt'] using h1, o, ho, h2, fun j hj => ?_⟩
  obtain ⟨e, he, hb, hj⟩ := anc_spec ho hj
  have he' := h2 e he hb
  rcases hj with rfl | ⟨hl, hj⟩
  · exact he'
  · exact h.anc e.on _ (Array.getElem?_eq_getElem (show e.on < ops.size by omega)) he' j hj
theorem set_at {listed : Array Bool} {i : Nat} (h : i < listed.size) (j : Nat) : (listed.setIfInBounds i true).getD j false = if j = i then true else listed.getD j false := by
  by_cases e : j = i
  · subst e; simp [h]
  · rw [if_neg e]; exact getD_set_ne false (Ne.symm e)
theorem InvL.step {listed : Array Bool} (h : InvL ops listed) {i : Nat} (hr : i ∈ Region.ready .any ops listed) : InvL ops (listed.setIfInBounds i true) := by
  obtain ⟨hlt, hu, o, ho, ha, _⟩ := h.ready hr
  refine ⟨by simp [h.size], fun j q hj hl e he hb => ?_⟩
  rw [set_at (by rw [h.size]; exact hlt)] at hl
  by_cases hji : j = i
  · subst hji
    rw [ho] at hj
    cases hj
    exact getD_set_true (ha e he hb)
  · rw [if_neg hji] at hl
    exact getD_set_true (h.down j q hj hl e he hb)

theorem Ctx.order (C : Ctx P nt call ops H D v) {i j : Nat} {x y : Oper} (hij : i < j) (hi : ops[i]? = some x) (hj : ops[j]? = some y) (h : x.apart ops y = false ∨ (dK x.op = .heavy ∧ dK y.op = .heavy)) : ((ancs ops).getD j 0).testBit i = true := by
  have := C.fine.pair i j x y hij hi hj
  simp only [pairOk, Bool.or_eq_true, Bool.and_eq_true, Bool.not_eq_true', Bool.and_eq_false_iff, beq_eq_false_iff_ne] at this
  rcases this with h' | ⟨h1, h2⟩
  · exact h'
  · rcases h with h | ⟨h3, h4⟩
    · rw [h] at h1; cases h1
    · rcases h2 with h2 | h2
      · exact absurd h3 h2
      · exact absurd h4 h2
theorem Ctx.before (C : Ctx P nt call ops H D v) {listed : Array Bool} (hL : InvL ops listed) {i : Nat} (hr : i ∈ Region.ready .any ops listed) {x : Oper} (hx : ops[i]? = some x) {j : Nat} {y : Oper} (hj : ops[j]? = some y)
    (h : (x.apart ops y = false ∧ y.apart ops x = false) ∨ (dK x.op = .heavy ∧ dK y.op = .heavy)) : listed.getD j false = decide (j < i) := by
  obtain ⟨hlt, hu, o, ho, ha, hanc⟩ := hL.ready hr
  rcases Nat.lt_trichotomy j i with hji | rfl | hji
  · rw [hanc j (C.order hji hj hx (h.imp (·.2) (fun h => ⟨h.2, h.1⟩)))]
    simp [hji]
  · rw [hu]; simp
  · have ho := C.order hji hx hj (h.imp (·.1) id)
    have : listed.getD j false ≠ true := fun hl => by
      have := hL.anc j y hj hl i ho
      rw [hu] at this
      cases this
    simp only [Bool.not_eq_true] at this
    rw [this]
    simp; omega

theorem apart_look {x y : Oper} {d : Nat} (hd : y.dst = some d) (h : d ∈ x.looksAt ops ∨ x.dst = some d) : x.apart ops y = false ∧ y.apart ops x = false := by
  constructor
  · cases hc : x.apart ops y with
    | false => rfl
    | true =>
      obtain ⟨h1, h2, h3⟩ := Oper.apart_spec hc
      rcases h with h | h
      · exact absurd h (h3 d hd)
      · exact absurd hd (h2 d h)
  · cases hc : y.apart ops x with
    | false => rfl
    | true =>
      obtain ⟨h1, h2, h3⟩ := Oper.apart_spec hc
      rcases h with h | h
      · exact absurd h (h1 d hd)
      · exact absurd h (h2 d hd)

def tmAt (ops : Array Oper) (D : Nat → DS) (v : Nat → AV) (S : Nat → Bool) : Tm := tmpAt ops v (D 0).T ops.size S
theorem Ctx.text (C : Ctx P nt call ops H D v) : ∀ {i : Nat}, i ≤ ops.size → (D i).T = tmAt ops D v fun j => decide (j < i)
  | 0, _ => by
    funext d
    have : wrote ops (fun j => decide (j < 0)) d ops.size = none := by
      generalize ops.size = n
      induction n with
      | zero => rfl
      | succ n ih => simp only [wrote]; rw [if_neg (by simp)]; exact ih
    simp only [tmAt, tmpAt, this]
  | i + 1, hi => by
    obtain ⟨o, ho⟩ := C.some_at (i := i) (by omega)
    have hp := (C.step ho).1
    have := tmpAt_put (ops := ops) (v := v) (T := (D 0).T) (n := ops.size) (S := fun j => decide (j < i)) (S' := fun j => decide (j < i + 1)) ho (by omega) hp
      (fun j => by by_cases e : j = i <;> simp [e] <;> omega) (fun j d _ h _ _ => by simp; omega)
    rw [C.text (i := i) (by omega)] at hp
    unfold tmAt at hp ⊢
    rw [this] at hp
    exact (Option.some.inj hp).symm
theorem Ctx.looks (C : Ctx P nt call ops H D v) {listed : Array Bool} (hL : InvL ops listed) {i : Nat} (hr : i ∈ Region.ready .any ops listed) {x : Oper} (hx : ops[i]? = some x) :
    ∀ t ∈ x.looksAt ops, tmAt ops D v (fun j => listed.getD j false) t = (D i).T t := by
  intro t ht
  have hlt := (Array.getElem?_eq_some_iff.1 hx).1
  rw [C.text (i := i) (by omega)]
  refine tmpAt_congr fun j hj hd => ?_
  obtain ⟨y, hy⟩ := C.some_at hj
  refine C.before hL hr hx hy (.inl (apart_look (d := t) ?_ (.inl ht)))
  simpa [dstAt, hy] using hd
theorem Ctx.put (C : Ctx P nt call ops H D v) {listed : Array Bool} (hL : InvL ops listed) {i : Nat} (hr : i ∈ Region.ready .any ops listed) {x : Oper} (hx : ops[i]? = some x) :
    putA nt (tmAt ops D v fun j => listed.getD j false) x.dst (v i) = some (tmAt ops D v fun j => (listed.setIfInBounds i true).getD j false) := by
  obtain ⟨hlt, hu, _⟩ := hL.ready hr
  refine tmpAt_put hx hlt (C.step hx).1 (fun j => set_at (by rw [hL.size]; exact hlt) j) fun j d hd hij hjn hjd => ?_
  obtain ⟨y, hy⟩ := C.some_at hjn
  have := C.before hL hr hx hy (.inl (apart_look (d := d) (by simpa [dstAt, hy] using hjd) (.inr hd)))
  rw [this]
  simp; omega
end
end Go.Ri
set_option linter.unusedVariables false
set_option linter.unusedSimpArgs false
namespace Go.Ri

theorem least {p : Nat → Prop} (h : ∃ n, p n) : ∃ n, p n ∧ ∀ m, m < n → ¬ p m := by
  obtain ⟨n, hn⟩ := h
  induction n using Nat.strongRecOn with
  | ind n ih =>
    by_cases hex : ∃ m, m < n ∧ p m
    · obtain ⟨m, hm, hp⟩ := hex
      exact ih m hm hp
    · exact ⟨n, hn, fun m hm hp => hex ⟨m, hm, hp⟩⟩

structure InvH (P : Program) (ops : Array Oper) (H : AH) (D : Nat → DS) (ρ0 : Ro) (w0 : World) (listed : Array Bool) (p : Nat) (ρ : Ro) (X : AH) (w : World) : Prop where
  hp : p ≤ ops.size
  heavy : ∀ h o, ops[h]? = some o → dK o.op = .heavy → (listed.getD h false = true ↔ h < p)
  out : Out P ρ0 H w0 ρ X w
  nx : X.next = (D p).G.next
  N : H.next + news ops.toList ≤ X.next
  sub : ∀ b B, (D p).G.m b = some B → X.m b = some B
  fl : ∀ f ∈ AL ops D, listed.getD f.i false = true → (D p).mb.testBit f.i = false → X.m f.id = some f.B ∧ (D p).G.m f.id = none
  un : ∀ f ∈ AL ops D, listed.getD f.i false = false → ρ f.id = none

section
variable {P : Program} {nt : Nat} {call : CallF} {ops : Array Oper} {H : AH} {D : Nat → DS} {v : Nat → AV} {ρ0 : Ro} {w0 : World}

theorem InvH.seen (C : Ctx P nt call ops H D v) {listed : Array Bool} (hL : InvL ops listed) {i : Nat} (hr : i ∈ Region.ready .any ops listed) {p : Nat} {ρ : Ro} {X : AH} {w : World} (h : InvH P ops H D ρ0 w0 listed p ρ X w) :
    (addF (sel (D i).all ((ancs ops).getD i 0) (D p).mb) (D p).G).next = X.next ∧ ∀ b B, (addF (sel (D i).all ((ancs ops).getD i 0) (D p).mb) (D p).G).m b = some B → X.m b = some B := by
  obtain ⟨hlt, hu, o, ho, ha, hanc⟩ := hL.ready hr
  refine ⟨by rw [addF_next, h.nx], fun b B hB => ?_⟩
  rcases addF_some _ _ b B hB with ⟨f, hf, rfl, rfl⟩ | hB
  · simp only [sel, List.mem_filter, Bool.and_eq_true, Bool.not_eq_true'] at hf
    exact (h.fl f ((C.allMono (i := i) (j := ops.size) (by omega) (by omega)).2 f hf.1) (hanc _ hf.2.1) hf.2.2).1
  · exact h.sub b B hB

theorem InvH.light (C : Ctx P nt call ops H D v) {listed : Array Bool} (hL : InvL ops listed) {i : Nat} (hr : i ∈ Region.ready .any ops listed) {x : Oper} (hx : ops[i]? = some x) (hk : dK x.op ≠ .heavy) (hk' : dK x.op ≠ .new)
    {p : Nat} {ρ : Ro} {X : AH} {w : World} (h : InvH P ops H D ρ0 w0 listed p ρ X w) : InvH P ops H D ρ0 w0 (listed.setIfInBounds i true) p ρ X w := by
  obtain ⟨hlt, hu, o, ho, ha, hanc⟩ := hL.ready hr
  have hs := set_at (listed := listed) (i := i) (by rw [hL.size]; exact hlt)
  have hfi : ∀ f ∈ AL ops D, f.i ≠ i := fun f hf e => by
    obtain ⟨_, o', nb, h1, h2, _⟩ := C.allSpec (Nat.le_refl _) hf
    rw [e, hx] at h1
    cases h1
    exact hk' h2
  refine ⟨h.hp, fun q o' hq hqk => ?_, h.out, h.nx, h.N, h.sub, fun f hf hl => ?_, fun f hf hl => ?_⟩
  · rw [hs, if_neg]
    · exact h.heavy q o' hq hqk
    · intro e
      subst e
      rw [hx] at hq
      cases hq
      exact hk hqk
  · rw [hs, if_neg (hfi f hf)] at hl
    exact h.fl f hf hl
  · rw [hs, if_neg (hfi f hf)] at hl
    exact h.un f hf hl

theorem InvH.read (C : Ctx P nt call ops H D v) {listed : Array Bool} (hL : InvL ops listed) {i : Nat} (hr : i ∈ Region.ready .any ops listed) {x : Oper} (hx : ops[i]? = some x) (hk : dK x.op = .read)
    {p : Nat} {ρ : Ro} {X : AH} {w : World} (h : InvH P ops H D ρ0 w0 listed p ρ X w) : rdF P ops ((ancs ops).getD i 0) x (D i).T (D i).all ((D p).G, (D p).mb) = some (v i) := by
  obtain ⟨hlt, hu, o, ho, ha, hanc⟩ := hL.ready hr
  rw [hx] at ho
  cases ho
  have here : rdF P ops ((ancs ops).getD i 0) x (D i).T (D i).all ((D i).G, (D i).mb) = some (v i) := by
    have := (C.step hx).2
    simp only [hk] at this
    exact this.1
  have hp := h.hp
  rcases Nat.le_total p i with hpi | hip
  · -- the first heavy one from p on
    by_cases hex : ∃ q, p ≤ q ∧ q < i ∧ ∃ o, ops[q]? = some o ∧ dK o.op = .heavy
    · have : ∃ q, (p ≤ q ∧ q < i ∧ ∃ o, ops[q]? = some o ∧ dK o.op = .heavy) ∧ ∀ q', q' < q → ¬ (p ≤ q' ∧ q' < i ∧ ∃ o, ops[q']? = some o ∧ dK o.op = .heavy) := least hex
      obtain ⟨q, ⟨h1, h2, o, ho, hok⟩, hmin⟩ := this
      have hsame := C.keepVs (p := p) (q := q) h1 (by omega) fun q' o' a b hq' hk' => hmin q' b ⟨a, by omega, o', hq', hk'⟩
      have hnot : ((ancs ops).getD i 0).testBit q = false := by
        cases hb : ((ancs ops).getD i 0).testBit q with
        | false => rfl
        | true =>
          have := (h.heavy q o ho hok).1 (hanc q hb)
          omega
      have := C.tr.hr q i o x h2 (by simpa using ho) (by simpa using hx) hok hk (by simpa using hnot)
      simp only [Nat.zero_add] at this
      rw [← hsame.1, ← hsame.2]
      exact this
    · have hsame := C.keepVs (p := p) (q := i) hpi (by omega) fun q' o' a b hq' hk' => hex ⟨q', a, b, o', hq', hk'⟩
      rw [← hsame.1, ← hsame.2]
      exact here
  · by_cases hex : ∃ q, i ≤ q ∧ q < p ∧ ∃ o, ops[q]? = some o ∧ dK o.op = .heavy
    · -- the last heavy one before p
      have : ∃ q, (i ≤ q ∧ q < p ∧ ∃ o, ops[q]? = some o ∧ dK o.op = .heavy) ∧ ∀ q', q < q' → ¬ (i ≤ q' ∧ q' < p ∧ ∃ o, ops[q']? = some o ∧ dK o.op = .heavy) := by
        have hex' : ∃ d, ∃ q, q + d = p ∧ (i ≤ q ∧ q < p ∧ ∃ o, ops[q]? = some o ∧ dK o.op = .heavy) := by
          obtain ⟨q, hq⟩ := hex
          exact ⟨p - q, q, by omega, hq⟩
        obtain ⟨d, ⟨q, hq, hq'⟩, hmin⟩ := least hex'
        refine ⟨q, hq', fun q' hlt' hq'' => hmin (p - q') (by omega) ⟨q', by omega, hq''⟩⟩
      obtain ⟨q, ⟨h1, h2, o, ho, hok⟩, hmax⟩ := this
      have hiq : i ≠ q := fun e => by
        subst e
        rw [hx] at ho
        cases ho
        rw [hk] at hok
        cases hok
      have hsame := C.keepVs (p := q + 1) (q := p) (by omega) hp fun q' o' a b hq' hk' => hmax q' (by omega) ⟨by omega, b, o', hq', hk'⟩
      have hnot : ((ancs ops).getD q 0).testBit i = false := by
        cases hb : ((ancs ops).getD q 0).testBit i with
        | false => rfl
        | true =>
          have := hL.anc q o ho ((h.heavy q o ho hok).2 h2) i hb
          rw [hu] at this
          cases this
      have := C.tr.rh i q x o (by omega) (by simpa using hx) (by simpa using ho) hk hok (by simpa using hnot)
      simp only [Nat.zero_add] at this
      rw [hsame.1, hsame.2]
      exact this
    · have hsame := C.keepVs (p := i) (q := p) hip hp fun q' o' a b hq' hk' => hex ⟨q', a, b, o', hq', hk'⟩
      rw [hsame.1, hsame.2]
      exact here

theorem InvH.new (C : Ctx P nt call ops H D v) {listed : Array Bool} (hL : InvL ops listed) {i : Nat} (hr : i ∈ Region.ready .any ops listed) {x : Oper} (hx : ops[i]? = some x) (hk : dK x.op = .new)
    {p : Nat} {ρ : Ro} {X : AH} {w : World} (h : InvH P ops H D ρ0 w0 listed p ρ X w) {nb : NB} (hnb : aNew P (evo P.globals.size (D i).T) x.op = some nb)
    {arr : Array Value} (hra : relL ρ nb.cells arr.toList) (h1 : nb.cells.all AV.isOne = true) :
    ρ.le (fun b => if b = (D i).id then some ⟨w.heap.size, 0, arr.size⟩ else ρ b) ∧
    InvH P ops H D ρ0 w0 (listed.setIfInBounds i true) p (fun b => if b = (D i).id then some ⟨w.heap.size, 0, arr.size⟩ else ρ b) (X.put (D i).id ⟨nb.cells, nb.elem, true⟩) (w.alloc (.cells arr nb.elem)) := by
  obtain ⟨hlt, hu, o, ho, ha, hanc⟩ := hL.ready hr
  rw [hx] at ho
  cases ho
  have hs := set_at (listed := listed) (i := i) (by rw [hL.size]; exact hlt)
  -- the block's own place in the list
  have hmem : (⟨i, (D i).id, ⟨nb.cells, nb.elem, true⟩⟩ : FL) ∈ AL ops D := by
    rcases C.allStep hx with ⟨_, _, k⟩ | ⟨_, nb', hnb', _, _, k1⟩
    · exact absurd hk k
    · rw [hnb] at hnb'
      cases hnb'
      refine (C.allMono (i := i + 1) (j := ops.size) (by omega) (by omega)).2 _ ?_
      rw [k1]
      simp
  have hidn : ρ (D i).id = none := h.un _ hmem hu
  have hidlt : (D i).id < X.next := by
    have := (C.idB hmem).2
    have := h.N
    simp only at *
    omega
  have hge : H.next ≤ (D i).id := (C.idB hmem).1
  have hXn : X.m (D i).id = none := by
    cases hm : X.m (D i).id with
    | none => rfl
    | some B =>
      obtain ⟨r, _, _, _, g1, _⟩ := h.out.sim.blk _ B hm
      rw [hidn] at g1
      cases g1
  have hns := newAt_sound (elem := nb.elem) (us := arr.toList) (more := []) h.out.sim hidn hidlt hra h1
  simp only [List.append_nil, Array.toArray_toList, Array.length_toList] at hns
  obtain ⟨hle, hsim⟩ := hns
  refine ⟨hle, h.hp, fun q o' hq hqk => ?_, ?_, h.nx, h.N, fun b B hB => ?_, fun f hf hl hm => ?_, fun f hf hl => ?_⟩
  · rw [hs, if_neg]
    · exact h.heavy q o' hq hqk
    · intro e
      subst e
      rw [hx] at hq
      cases hq
      rw [hk] at hqk
      cases hqk
  · refine h.out.step (fun b hb => ?_) (Nat.le_refl _) hsim rfl rfl rfl (by simp) (fun j hj => ?_) (fun b B r hB hr hl => ?_)
    · have : b ≠ (D i).id := by omega
      simp [this]
    · simp only [World.alloc, Array.getElem?_push]
      rw [if_neg (by omega)]
    · by_cases e : b = (D i).id
      · subst e
        simp only [if_true] at hr
        cases hr
        simp at hl
      · simp only [AH.put, setM_other _ _ e] at hB
        simp only [e, if_false] at hr
        exact ⟨hB, hr⟩
  · have : b ≠ (D i).id := fun e => by
      subst e
      have := h.sub _ _ hB
      rw [hXn] at this
      cases this
    simp only [AH.put, setM_other _ _ this]
    exact h.sub b B hB
  · by_cases e : f.i = i
    · have := C.same hf hmem e
      subst this
      refine ⟨by simp [AH.put, setM_same], ?_⟩
      cases hm : (D p).G.m (D i).id with
      | none => rfl
      | some B =>
        have := h.sub _ _ hm
        rw [hXn] at this
        cases this
    · rw [hs, if_neg e] at hl
      have hid : f.id ≠ (D i).id := fun e' => e (C.apart hf hmem e')
      simp only [AH.put, setM_other _ _ hid]
      exact h.fl f hf hl hm
  · rw [hs] at hl
    split at hl
    · cases hl
    · rename_i e
      have hid : f.id ≠ (D i).id := fun e' => e (C.apart hf hmem e')
      simp only [hid, if_false]
      exact h.un f hf hl

theorem InvH.at_heavy (C : Ctx P nt call ops H D v) {listed : Array Bool} (hL : InvL ops listed) {i : Nat} (hr : i ∈ Region.ready .any ops listed) {x : Oper} (hx : ops[i]? = some x) (hk : dK x.op = .heavy)
    {p : Nat} {ρ : Ro} {X : AH} {w : World} (h : InvH P ops H D ρ0 w0 listed p ρ X w) : (D i).G = (D p).G ∧ (D i).mb = (D p).mb := by
  obtain ⟨hlt, hu, o, ho, ha, hanc⟩ := hL.ready hr
  have hpi : p ≤ i := by
    rcases Nat.lt_or_ge i p with hlt' | hge
    · have := (h.heavy i x hx hk).2 hlt'
      rw [hu] at this
      cases this
    · exact hge
  refine C.keepVs hpi (by omega) fun q o' h1 h2 hq hqk => ?_
  have := C.before hL hr hx hq (.inr ⟨hk, hqk⟩)
  have := (h.heavy q o' hq hqk).1 (by rw [this]; simp [h2])
  omega

theorem InvH.heavy' (C : Ctx P nt call ops H D v) {listed : Array Bool} (hL : InvL ops listed) {i : Nat} (hr : i ∈ Region.ready .any ops listed) {x : Oper} (hx : ops[i]? = some x) (hk : dK x.op = .heavy)
    {p : Nat} {ρ : Ro} {X : AH} {w : World} (h : InvH P ops H D ρ0 w0 listed p ρ X w) {ρ' : Ro} {w' : World} (ho : Out P ρ (addF (sel (D i).all ((ancs ops).getD i 0) (D p).mb) (D p).G) w ρ' (D (i + 1)).G w') :
    ∃ X', InvH P ops H D ρ0 w0 (listed.setIfInBounds i true) (i + 1) ρ' X' w' := by
  obtain ⟨hlt, hu, o, hox, ha, hanc⟩ := hL.ready hr
  rw [hx] at hox
  cases hox
  have hs := set_at (listed := listed) (i := i) (by rw [hL.size]; exact hlt)
  obtain ⟨hn, hsub⟩ := h.seen C hL hr
  obtain ⟨hG, hmb⟩ := h.at_heavy C hL hr hx hk
  have hmb' : (D (i + 1)).mb = ((D p).mb ||| (ancs ops).getD i 0) := by
    have := (C.step hx).2
    simp only [hk] at this
    rw [this.2.1, hmb]
  obtain ⟨X', hX1, hX2, hX3, hX4⟩ := frame (R := fun b => ∃ f ∈ AL ops D, listed.getD f.i false = true ∧ (D p).mb.testBit f.i = false ∧ ((ancs ops).getD i 0).testBit f.i = false ∧ f.id = b) h.out.sim hsub hn (by
    rintro b ⟨f, hf, hl, hm, hna, rfl⟩
    obtain ⟨k1, k2⟩ := h.fl f hf hl hm
    have hrwf : f.B.rw_ = true := by
      obtain ⟨_, o, nb, _, _, _, _, q5⟩ := C.allSpec (Nat.le_refl _) hf
      rw [q5]
    refine ⟨⟨_, k1, hrwf⟩, addF_none k2 fun g hg e => ?_⟩
    simp only [sel, List.mem_filter, Bool.and_eq_true, Bool.not_eq_true'] at hg
    have := C.apart ((C.allMono (i := i) (j := ops.size) (by omega) (by omega)).2 g hg.1) hf e
    rw [this, hna] at hg
    exact absurd hg.2.1 (by simp)) ho
  refine ⟨X', by omega, fun q o' hq hqk => ?_, h.out.trans hX4, hX1, Nat.le_trans h.N hX4.next, hX3, fun f hf hl hm => ?_, fun f hf hl => ?_⟩
  · have := C.before hL hr hx hq (.inr ⟨hk, hqk⟩)
    rw [hs]
    by_cases e : q = i
    · simp [e]
    · rw [if_neg e, this]
      simp
      omega
  · have hfi : f.i ≠ i := fun e => by
      obtain ⟨_, o', nb, h1, h2, _⟩ := C.allSpec (Nat.le_refl _) hf
      rw [e, hx] at h1
      cases h1
      rw [hk] at h2
      cases h2
    rw [hs, if_neg hfi] at hl
    rw [hmb', Nat.testBit_or, Bool.or_eq_false_iff] at hm
    have hR : ∃ g ∈ AL ops D, listed.getD g.i false = true ∧ (D p).mb.testBit g.i = false ∧ ((ancs ops).getD i 0).testBit g.i = false ∧ g.id = f.id := ⟨f, hf, hl, hm.1, hm.2, rfl⟩
    obtain ⟨k1, k2⟩ := hX2 f.id hR
    rw [k1]
    exact ⟨(h.fl f hf hl hm.1).1, k2⟩
  · rw [hs] at hl
    split at hl
    · cases hl
    · rw [hX4.same f.id (by have := (C.idB hf).2; have := h.N; omega)]
      exact h.un f hf hl

theorem inv_step (C : Ctx P nt call ops H D v) (hcall : CallOk P call) {listed : Array Bool} (hL : InvL ops listed) {i : Nat} (hr : i ∈ Region.ready .any ops listed)
    {p : Nat} {ρ : Ro} {X : AH} {w : World} {a : Act} (h : InvH P ops H D ρ0 w0 listed p ρ X w) (ht : TRel ρ nt (tmAt ops D v fun j => listed.getD j false) a) (hd : a.defers = [])
    {K : Act → World → Prop} {Q : Exit → Act → World → Prop} (hK : ∀ p' ρ' X' w' a', InvH P ops H D ρ0 w0 (listed.setIfInBounds i true) p' ρ' X' w' → TRel ρ' nt (tmAt ops D v fun j => (listed.setIfInBounds i true).getD j false) a' → a'.defers = [] → K a' w') :
    wpOp P ops Q i K a w := by
  obtain ⟨hlt, hu, x, hx, ha, hanc⟩ := hL.ready hr
  have hlook := C.looks hL hr hx
  have hput := C.put hL hr hx
  have hgd : gd ops (tmAt ops D v fun j => listed.getD j false) x = gd ops (D i).T x := gd_congr hlook
  have hev := looks_evo (ng := P.globals.size) hlook
  have hdef : ∀ v', (a.put x.dst v').defers = [] := fun v' => by cases x.dst <;> simpa [Act.put] using hd
  have hsim := h.out.sim
  unfold wpOp
  simp only [hx]
  have light : ∀ (Y : AH), Y.next = X.next → (∀ b B, Y.m b = some B → X.m b = some B) → dK x.op ≠ .heavy → dK x.op ≠ .new → gval ops (D i).T x (aLight P (evo P.globals.size (D i).T) x.op Y) = some (v i) →
      (if Region.wanted x (yielded ops a.tmps) = true then x.wp P a w K Q ∨ x.asks P a w ∧ LetsOut Q else K (a.put x.dst undef) w) := by
    intro Y hYn hYs hk1 hk2 hval
    simp only [gval, Option.bind_eq_some_iff] at hval
    obtain ⟨g, hg, hval⟩ := hval
    rw [gd_sound ht (hgd.trans hg)]
    have hH := h.light C hL hr hx hk1 hk2
    split at hval
    · rename_i hgt
      rw [if_pos hgt]
      rw [← aLight_congr hev] at hval
      have hYsim := hsim.sub hYn hYs
      obtain ⟨v', hrun, hrel⟩ := aLight_sound (w := w) hYsim (evo_rel hYsim ht) hval
      refine .inl ?_
      unfold Oper.wp
      rw [hrun]
      exact hK p ρ X w _ hH (putA_rel ht hrel hput) (hdef v')
    · rename_i hgt
      rw [if_neg hgt]
      refine hK p ρ X w _ hH (putA_rel ht ?_ hput) (hdef _)
      have e := Option.some.inj hval
      rw [← e]
      exact ⟨[], relL_nil ρ, rfl⟩
  have hst := (C.step hx).2
  cases hk : dK x.op with
  | pure =>
    simp only [hk] at hst
    rw [show aLight P (evo P.globals.size (D i).T) x.op (D i).G = aLight P (evo P.globals.size (D i).T) x.op X from aLight_pure hk _ _] at hst
    exact light X rfl (fun _ _ h => h) (by simp [hk]) (by simp [hk]) hst.1
  | read =>
    obtain ⟨hn, hsub⟩ := h.seen C hL hr
    exact light _ hn hsub (by simp [hk]) (by simp [hk]) (h.read C hL hr hx hk)
  | new =>
    simp only [hk] at hst
    obtain ⟨nb, hnb, hv, _⟩ := hst
    have hfine := C.fine.fine i x hx
    simp only [opFine, Bool.and_eq_true, Bool.or_eq_true, hk] at hfine
    have hguard : x.guard = none := by
      have := hfine.2
      simp at this
      exact this
    have hw : Region.wanted x (yielded ops a.tmps) = true := by simp [Region.wanted, hguard]
    rw [if_pos hw]
    obtain ⟨arr, v', hrun, hra, h1, hval⟩ := aNew_sound (P := P) (w := w) (evo_rel hsim ht) (by rw [aNew_congr hev]; exact hnb)
    obtain ⟨hle, hH⟩ := h.new C hL hr hx hk hnb hra h1
    refine .inl ?_
    unfold Oper.wp
    rw [hrun]
    refine hK p _ _ _ _ hH (putA_rel (ht.mono hle) ?_ hput) (hdef _)
    rw [hv]
    exact hval _ _ (by simp)
  | heavy =>
    simp only [hk] at hst
    obtain ⟨hG, hmb⟩ := h.at_heavy C hL hr hx hk
    have hval := hst.1
    rw [hG, hmb] at hval
    simp only [gheavy, Option.bind_eq_some_iff] at hval
    obtain ⟨g, hg, hval⟩ := hval
    rw [gd_sound ht (hgd.trans hg)]
    obtain ⟨hn, hsub⟩ := h.seen C hL hr
    have hYsim := hsim.sub hn hsub
    split at hval
    · rename_i hgt
      rw [if_pos hgt]
      rw [← aHeavy_congr hev] at hval
      refine .inl (aHeavy_sound hcall hYsim (evo_rel hYsim ht) hval fun ρ' v' w' hout hrel => ?_)
      obtain ⟨X', hH⟩ := h.heavy' C hL hr hx hk hout
      exact hK _ ρ' X' w' _ hH (putA_rel (ht.mono (hout.le hYsim)) hrel hput) (hdef v')
    · rename_i hgt
      rw [if_neg hgt]
      have e := Option.some.inj hval
      have e1 := congrArg Prod.fst e
      have e2 := congrArg Prod.snd e
      simp only at e1 e2
      obtain ⟨X', hH⟩ := h.heavy' C hL hr hx hk (ρ' := ρ) (w' := w) (by rw [← e2]; exact .refl hYsim)
      refine hK _ ρ X' w _ hH (putA_rel ht ?_ hput) (hdef _)
      rw [← e1]
      exact ⟨[], relL_nil ρ, rfl⟩

def unl (listed : Array Bool) : Nat → Nat
  | 0 => 0
  | n + 1 => (!(listed.getD n false)).toNat + unl listed n
theorem unl_zero {listed : Array Bool} : ∀ {n : Nat}, unl listed n = 0 → ∀ i, i < n → listed.getD i false = true
  | 0, _, i, h => by omega
  | n + 1, h0, i, h => by
    simp only [unl] at h0
    by_cases e : i = n
    · subst e
      cases hl : listed.getD i false with
      | true => rfl
      | false => rw [hl] at h0; simp at h0
    · exact unl_zero (n := n) (by omega) i (by omega)
theorem unl_step {listed : Array Bool} {i : Nat} (hi : i < listed.size) (hu : listed.getD i false = false) : ∀ {n : Nat}, unl (listed.setIfInBounds i true) n + (if i < n then 1 else 0) = unl listed n
  | 0 => by simp [unl]
  | n + 1 => by
    have ih := unl_step hi hu (n := n)
    simp only [unl, set_at hi]
    by_cases e : n = i
    · subst e
      rw [hu, if_pos rfl, if_pos (by omega)]
      rw [if_neg (by omega)] at ih
      simp only [Bool.not_true, Bool.not_false, Bool.toNat_true, Bool.toNat_false]
      omega
    · rw [if_neg e]
      by_cases h : i < n
      · rw [if_pos h] at ih
        rw [if_pos (by omega)]
        omega
      · rw [if_neg h] at ih
        rw [if_neg (by omega)]
        omega
theorem ready_nil (hf : Fine P ops) {listed : Array Bool} (hL : InvL ops listed) (h : Region.ready .any ops listed = []) : ∀ i, i < ops.size → listed.getD i false = true := by
  intro i
  induction i using Nat.strongRecOn with
  | ind i ih =>
    intro hi
    cases hl : listed.getD i false with
    | true => rfl
    | false =>
      have : i ∈ Region.ready .any ops listed := by
        rw [mem_ready]
        have hlt : i < listed.size := by rw [hL.size]; exact hi
        refine ⟨by simpa [hlt] using hl, ops[i], Array.getElem?_eq_getElem hi, fun e he hb => ?_⟩
        have := hf.on (Array.getElem?_eq_getElem hi) he hb
        exact ih e.on this (by omega)
      rw [h] at this
      cases this

theorem inv_end (C : Ctx P nt call ops H D v) {listed : Array Bool} (hL : InvL ops listed) (hall : ∀ i, i < ops.size → listed.getD i false = true) {p : Nat} {ρ : Ro} {X : AH} {w : World} {a : Act}
    (h : InvH P ops H D ρ0 w0 listed p ρ X w) (ht : TRel ρ nt (tmAt ops D v fun j => listed.getD j false) a) :
    Out P ρ0 H w0 ρ (addF (selR (D ops.size).all (D ops.size).mb) (D ops.size).G) w ∧ TRel ρ nt (D ops.size).T a := by
  have hp := h.hp
  have hsame := C.keepVs (p := p) (q := ops.size) hp (Nat.le_refl _) fun q o h1 h2 hq hk => by
    have := (h.heavy q o hq hk).1 (hall q h2)
    omega
  constructor
  · refine h.out.sub (by rw [addF_next, hsame.1, h.nx]) fun b B hB => ?_
    rcases addF_some _ _ b B hB with ⟨f, hf, rfl, rfl⟩ | hB
    · simp only [selR, List.mem_filter, Bool.not_eq_true'] at hf
      rw [hsame.2] at hf
      exact (h.fl f hf.1 (hall _ (C.ids hf.1).2.2) hf.2).1
    · rw [hsame.1] at hB
      exact h.sub b B hB
  · rw [C.text (Nat.le_refl _)]
    have : (tmAt ops D v fun j => decide (j < ops.size)) = tmAt ops D v fun j => listed.getD j false := by
      funext d
      exact tmpAt_congr fun j hj _ => by rw [hall j hj]; simp [hj]
    rw [this]
    exact ht

theorem inv_any (C : Ctx P nt call ops H D v) (hcall : CallOk P call) {Q : Exit → Act → World → Prop}
    (hQ : ∀ ρ' a' w', Out P ρ0 H w0 ρ' (addF (selR (D ops.size).all (D ops.size).mb) (D ops.size).G) w' → TRel ρ' nt (D ops.size).T a' → a'.defers = [] → Q .normal a' w') :
    ∀ (fuel : Nat) (listed : Array Bool) (p : Nat) (ρ : Ro) (X : AH) (a : Act) (w : World), unl listed ops.size ≤ fuel → InvL ops listed → InvH P ops H D ρ0 w0 listed p ρ X w → TRel ρ nt (tmAt ops D v fun j => listed.getD j false) a → a.defers = [] →
      wpAny P .any ops Q fuel listed a w := by
  intro fuel
  induction fuel with
  | zero =>
    intro listed p ρ X a w hf hL h ht hd
    have hall := unl_zero (listed := listed) (n := ops.size) (by omega)
    obtain ⟨h1, h2⟩ := inv_end C hL hall h ht
    refine ⟨?_, hQ ρ a w h1 h2 hd⟩
    cases hr : Region.ready .any ops listed with
    | nil => rfl
    | cons i is =>
      obtain ⟨hlt, hu, _⟩ := hL.ready (i := i) (by rw [hr]; simp)
      rw [hall i hlt] at hu
      cases hu
  | succ fuel ih =>
    intro listed p ρ X a w hf hL h ht hd
    refine ⟨fun hr => ?_, fun i hi => ?_⟩
    · obtain ⟨h1, h2⟩ := inv_end C hL (ready_nil C.fine hL hr) h ht
      exact hQ ρ a w h1 h2 hd
    · obtain ⟨hlt, hu, _⟩ := hL.ready hi
      refine inv_step C hcall hL hi h ht hd fun p' ρ' X' w' a' h' ht' hd' => ih _ p' ρ' X' a' w' ?_ (hL.step hi) h' ht' hd'
      have := unl_step (listed := listed) (i := i) (by rw [hL.size]; exact hlt) hu (n := ops.size)
      rw [if_pos hlt] at this
      omega
end

theorem drawA_ok {P : Program} {nt : Nat} {call : CallF} (hcall : CallOk P call) : DrawOk P nt (drawA P nt call) := by
  intro id ops ρ H w T T' H' a Q h ht hd hc hQ
  simp only [drawA, drawK] at hc
  split at hc
  · rename_i hok
    have hfine := fine_of (P := P) (ops := ops) hok
    obtain ⟨D, v, hD, htr, hK, _⟩ := drawGo_trace _ _ _ _ _ _ _ _ _ _ _ hc
    simp only [Nat.zero_add, Array.length_toList] at hK
    have e := Option.some.inj hK
    have e1 := congrArg Prod.fst e
    have e2 := congrArg Prod.snd e
    simp only at e1 e2
    have C : Ctx P nt call ops H D v := ⟨hfine, htr, by rw [hD], by rw [hD], by rw [hD]⟩
    refine wp_region_any hfine.mixed ?_
    have rep : ∀ j, (Array.replicate ops.size false).getD j false = false := fun j => by
      rw [Array.getD_eq_getD_getElem?, Array.getElem?_replicate]
      split <;> rfl
    have hun : ∀ n, unl (Array.replicate ops.size false) n ≤ n := by
      intro n
      induction n with
      | zero => simp [unl]
      | succ n ih => simp only [unl, rep]; simp; omega
    have h0 := Out.drew h (w.drawn + 1)
    have hnx : (D 0).G.next = H.next + news ops.toList := by rw [hD]
    have hG0 : (D 0).G.m = H.m := by rw [hD]
    refine inv_any (ρ0 := ρ) (w0 := w) C hcall (fun ρ' a' w' ho ht' hd' => hQ ρ' a' w' (by rw [← e2]; exact ho) (by rw [← e1]; exact ht') hd') ops.size _ 0 ρ { H with next := H.next + news ops.toList } a _ (hun _) ⟨by simp, fun i o hi hl => (by rw [rep] at hl; cases hl)⟩ ?_ ?_ hd
    · refine ⟨Nat.zero_le _, fun q o hq hk => by simp [rep], ?_, hnx.symm, Nat.le_refl _, fun b B hB => by rw [hG0] at hB; exact hB, fun f hf hl => (by rw [rep] at hl; cases hl), fun f hf _ => h.fresh _ (C.idB hf).1⟩
      exact ⟨h0.same, Nat.le_add_right _ _, h0.sim.more (Nat.le_add_right _ _), h0.os, h0.tape, h0.output, h0.size, h0.keep, h0.own⟩
    · have : (tmAt ops D v fun j => (Array.replicate ops.size false).getD j false) = T := by
        have h1 := C.text (i := 0) (Nat.zero_le _)
        rw [hD] at h1
        simp only at h1
        rw [h1]
        funext d
        exact tmpAt_congr fun j hj _ => by rw [rep]; simp
      rw [this]
      exact ht
  · cases hc

end Go.Ri
