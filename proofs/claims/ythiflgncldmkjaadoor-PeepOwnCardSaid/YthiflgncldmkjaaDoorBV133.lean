/- Part 3 of the proof that: What is handed in stays as it is (PeepOwn): for every input the law returns true, and the input reads as it did. Condition: the two tables of package code start as the program's text lays them (the row's own). -/
import Derived.Test.YthiflgncldmkjaaDoorBV132
set_option linter.unusedVariables false
set_option linter.unusedSimpArgs false
set_option maxRecDepth 100000
namespace Go.Proofs.YthiflgncldmkjaaDoor
open Go.Ri

def I0 : Ins := ⟨0, 0, 0⟩
def truthI (b : Bool) : Int := if b = true then 1 else 0
def pushI (n : Int) : Ins := ⟨1, n, 0⟩
def leftP (op a b : Int) : Option Int :=
  if op = 7 then some (IntKind.i64.wrap (a + b)) else if op = 8 then some (IntKind.i64.wrap (a - b)) else if op = 9 then some (IntKind.i64.wrap (a * b))
  else if op = 12 then some (truthI (decide (a < b))) else if op = 13 then some (truthI (decide (a ≤ b))) else if op = 14 then some (truthI (decide (a = b)))
  else if b = 0 then none else if op = 10 then some (IntKind.i64.wrap (a.tdiv b)) else if op = 11 then some (a.tmod b) else none
structure Chg where
  rule : Nat
  n : Nat
  put : List Ins
def singleP (R : Nat → Bool) (L : List Ins) (p : Nat) (i : Ins) : Chg :=
  if R p = false then ⟨1, 1, []⟩
  else if i.op = 17 ∧ i.n = (p + 1 : Nat) then ⟨2, 1, []⟩
  else if i.op = 18 ∧ i.n = (p + 1 : Nat) then ⟨3, 1, [⟨25, 0, 0⟩]⟩
  else if isJ i ∧ ((L[i.n.toNat]?).getD I0).op = 17 ∧ ((L[i.n.toNat]?).getD I0).n > i.n then ⟨4, 1, [⟨i.op, ((L[i.n.toNat]?).getD I0).n, 0⟩]⟩
  else ⟨0, 0, []⟩
def pairP (i j k : Ins) : Chg :=
  if i.op = 1 ∧ j.op = 16 then ⟨5, 2, [pushI (IntKind.i64.wrap (0 - i.n))]⟩
  else if i.op = 1 ∧ j.op = 15 then ⟨5, 2, [pushI (truthI (decide (i.n = 0)))]⟩
  else if i.op = 1 ∧ j.op = 1 ∧ (leftP k.op i.n j.n).isSome = true then ⟨6, 3, [pushI ((leftP k.op i.n j.n).getD 0)]⟩
  else if (i.op = 1 ∨ i.op = 2) ∧ j.op = 25 then ⟨7, 2, []⟩
  else if i.op = 1 ∧ i.n = 0 ∧ (j.op = 7 ∨ j.op = 8) then ⟨8, 2, []⟩
  else if i.op = 1 ∧ i.n = 1 ∧ (j.op = 9 ∨ j.op = 10) then ⟨8, 2, []⟩
  else if i.op = 2 ∧ j.op = 3 ∧ i.n = j.n then ⟨9, 2, []⟩
  else if i.op = 1 ∧ j.op = 18 ∧ i.n = 0 then ⟨10, 2, [⟨17, j.n, 0⟩]⟩
  else if i.op = 1 ∧ j.op = 18 then ⟨10, 2, []⟩
  else if i.op = 1 ∧ i.n ≠ 0 ∧ j.op = 23 then ⟨11, 2, []⟩
  else if i.op = 6 ∧ j.op = 6 ∧ j.n = i.n + i.m ∧ i.m + j.m ≤ 64 then ⟨12, 2, [⟨6, i.n, i.m + j.m⟩]⟩
  else ⟨0, 0, []⟩
def insAt (L : List Ins) (p : Nat) : Ins := (L[p]?).getD I0
def jAt (T : Nat → Bool) (L : List Ins) (p : Nat) : Ins := if T (p + 1) = true then I0 else insAt L (p + 1)
def kAt (T : Nat → Bool) (L : List Ins) (p : Nat) : Ins := if (jAt T L p).op = 0 ∨ T (p + 2) = true then I0 else insAt L (p + 2)
def ruleP (R T : Nat → Bool) (L : List Ins) (p : Nat) : Chg :=
  if (singleP R L p (insAt L p)).rule ≠ 0 then singleP R L p (insAt L p) else pairP (insAt L p) (jAt T L p) (kAt T L p)

theorem may_in (l : List Code) (c : Code) (op n m : Int) (h1 : 1 ≤ op ∧ op ≤ 25) (h2 : nums op < 1 → n = 0) (h3 : nums op < 2 → m = 0) : (lineOf op n m).isNone = false := by
  unfold lineOf
  rw [if_neg (by omega), if_neg (by rintro (⟨a, b⟩ | ⟨a, b⟩); exact b (h2 a); exact b (h3 a))]
  rfl
theorem may_push (l : List Code) (c : Code) (n : Int) : mayI l c (pushI n) = true := by
  have := may_in l c 1 n 0 (by omega) (fun h => absurd h (by decide)) (fun _ => rfl)
  simp [mayI, pushI, this]
theorem may_drop (l : List Code) (c : Code) : mayI l c ⟨25, 0, 0⟩ = true := by
  have := may_in l c 25 0 0 (by omega) (fun _ => rfl) (fun _ => rfl)
  simp [mayI, this]
theorem may_jump (l : List Code) (c : Code) {op n : Int} (ho : op = 17 ∨ op = 18) (h0 : 0 ≤ n) (h1 : n < (c.ins.length : Nat)) : mayI l c ⟨op, n, 0⟩ = true := by
  have hn : nums op = 1 := by rcases ho with rfl | rfl <;> decide
  have := may_in l c op n 0 (by omega) (fun h => by omega) (fun _ => rfl)
  rcases ho with rfl | rfl <;> simp [mayI, this, h0, h1]
theorem may_clear (l : List Code) (c : Code) {n m m' : Int} (h1 : mayI l c ⟨6, n, m⟩ = true) (h2 : mayI l c ⟨6, n + m, m'⟩ = true) (h : m + m' ≤ 64) : mayI l c ⟨6, n, m + m'⟩ = true := by
  have e := may_in l c 6 n (m + m') (by omega) (fun h => absurd h (by decide)) (fun h => absurd h (by decide))
  unfold mayI at h1 h2
  split at h1
  · cases h1
  split at h2
  · cases h2
  simp [within] at h1 h2
  simp [mayI, within, e]
  omega
theorem may_rng {l : List Code} {c : Code} {i : Ins} (hm : mayI l c i = true) (hj : isJ i) : 0 ≤ i.n ∧ i.n < (c.ins.length : Nat) := by
  unfold isJ at hj
  unfold mayI at hm
  split at hm
  · cases hm
  · rw [if_neg (by omega), if_neg (by omega)] at hm
    simpa using hm
theorem wt_pos (len : Nat) (i : Ins) : 1 ≤ wt len i := by
  unfold wt
  split <;> omega
theorem wsum_two {len p : Nat} {L : List Ins} {i j : Ins} (h1 : L[p]? = some i) (h2 : L[p + 1]? = some j) : wsum len ((L.drop p).take 2) = wt len i + wt len j := by
  have e : (L.drop p).take 2 = [i, j] := by
    apply List.ext_getElem?
    intro k
    rw [List.getElem?_take]
    match k with
    | 0 => simpa using h1
    | 1 => simpa using h2
    | k + 2 => simp; intro h; omega
  simp [e, wsum]
theorem wsum_one {len p : Nat} {L : List Ins} {i : Ins} (h1 : L[p]? = some i) : wsum len ((L.drop p).take 1) = wt len i := by
  have e : (L.drop p).take 1 = [i] := by
    apply List.ext_getElem?
    intro k
    rw [List.getElem?_take]
    match k with
    | 0 => simpa using h1
    | k + 1 => simp
  simp [e, wsum]
theorem wsum_three {len p : Nat} {L : List Ins} {i j k : Ins} (h1 : L[p]? = some i) (h2 : L[p + 1]? = some j) (h3 : L[p + 2]? = some k) : wsum len ((L.drop p).take 3) = wt len i + wt len j + wt len k := by
  have e : (L.drop p).take 3 = [i, j, k] := by
    apply List.ext_getElem?
    intro q
    rw [List.getElem?_take]
    match q with
    | 0 => simpa using h1
    | 1 => simpa using h2
    | 2 => simpa using h3
    | q + 3 => simp; intro h; omega
  simp [e, wsum]; omega

structure Seen (c : Code) (h : List Int) (R T : Nat → Bool) : Prop where
  reach : ∀ a x, h[a]? = some x → (R a = true ↔ 0 ≤ x)
  target : ∀ (a : Nat) (i : Ins) (x : Int), c.ins[a]? = some i → h[a]? = some x → 0 ≤ x → isJ i → T i.n.toNat = true
theorem insAt_some {L : List Ins} {p : Nat} {op : Int} (h : (insAt L p).op = op) (h0 : op ≠ 0) : L[p]? = some (insAt L p) := by
  unfold insAt at h ⊢
  cases he : L[p]? with
  | none => rw [he] at h; exact absurd h.symm h0
  | some i => rfl
theorem jAt_some {T : Nat → Bool} {L : List Ins} {p : Nat} (h0 : (jAt T L p).op ≠ 0) : T (p + 1) = false ∧ L[p + 1]? = some (jAt T L p) := by
  unfold jAt at h0 ⊢
  by_cases ht : T (p + 1) = true
  · rw [if_pos ht] at h0; exact absurd rfl h0
  · rw [if_neg ht] at h0 ⊢
    exact ⟨by simpa using ht, insAt_some rfl h0⟩
theorem kAt_some {T : Nat → Bool} {L : List Ins} {p : Nat} (h0 : (kAt T L p).op ≠ 0) : T (p + 2) = false ∧ L[p + 2]? = some (kAt T L p) := by
  unfold kAt at h0 ⊢
  by_cases ht : (jAt T L p).op = 0 ∨ T (p + 2) = true
  · rw [if_pos ht] at h0; exact absurd rfl h0
  · rw [if_neg ht] at h0 ⊢
    exact ⟨by simpa using fun h => ht (.inr h), insAt_some rfl h0⟩
section
variable {l : List Code} {c : Code} {h : List Int} {R T : Nat → Bool} {p : Nat}
theorem tgt_two (S : Seen c h R T) (h1 : T (p + 1) = false) : ∀ (a : Nat) (i : Ins) (x : Int), c.ins[a]? = some i → h[a]? = some x → 0 ≤ x → isJ i → ¬ ((p : Int) < i.n ∧ i.n < (p + 2 : Nat)) := by
  intro a i x hi hx h0 hj hh
  have := S.target a i x hi hx h0 hj
  rw [show i.n.toNat = p + 1 by omega, h1] at this
  cases this
theorem tgt_three (S : Seen c h R T) (h1 : T (p + 1) = false) (h2 : T (p + 2) = false) : ∀ (a : Nat) (i : Ins) (x : Int), c.ins[a]? = some i → h[a]? = some x → 0 ≤ x → isJ i → ¬ ((p : Int) < i.n ∧ i.n < (p + 3 : Nat)) := by
  intro a i x hi hx h0 hj hh
  have := S.target a i x hi hx h0 hj
  by_cases e : i.n.toNat = p + 1
  · rw [e, h1] at this; cases this
  · rw [show i.n.toNat = p + 2 by omega, h2] at this; cases this
theorem tgt_one : ∀ (a : Nat) (i : Ins) (x : Int), c.ins[a]? = some i → h[a]? = some x → 0 ≤ x → isJ i → ¬ ((p : Int) < i.n ∧ i.n < (p + 1 : Nat)) := by
  intro a i x hi hx h0 hj hh
  omega
theorem on {a : Nat} {i : Ins} {x : Int} (g : Good l c h) (hi : c.ins[a]? = some i) (hx : h[a]? = some x) (h0 : 0 ≤ x) (h17 : i.op ≠ 17) (h20 : i.op ≠ 20) : h[a + 1]? = some (x - tk l i + lv l i) ∧ 0 ≤ x - tk l i + lv l i ∧ tk l i ≤ x := by
  obtain ⟨ho, hd⟩ := g.step a i x hi hx h0
  have hm : ((a + 1 : Nat) : Int) ∈ nextI i a := by
    unfold nextI
    rw [if_neg h17]
    split
    · simp
    · simp
  obtain ⟨q, e, hq⟩ := hd _ hm
  have := Int.ofNat_inj.1 e
  subst this
  have := ho.1
  have := lv_nonneg l i
  exact ⟨hq, by omega, ho.1⟩
theorem tk_of {i : Ins} {op : Int} (h : i.op = op) (h1 : op ≠ 19) (h2 : op ≠ 20) : tk l i = takes op ∧ lv l i = leaves op := by
  subst h
  simp [tk, lv, h1, h2]
theorem ok_low {i : Ins} {x : Int} (h1 : tk l i ≤ x) (h2 : x ≤ 4096) (h3 : i.op ≠ 20) (h4 : i.op ≠ 24) : okAt l i x := ⟨h1, h2, fun h => absurd h h3, fun h => absurd h h4⟩
theorem done_on {i : Ins} {b : Nat} {x y : Int} (h1 : tk l i ≤ x) (h2 : x ≤ 4096) (h3 : i.op ≠ 20) (h4 : i.op ≠ 24) (h17 : i.op ≠ 17) (h18 : i.op ≠ 18) (hy : h[b + 1]? = some y) (e : y = x - tk l i + lv l i) : Done l i b x h := by
  refine ⟨ok_low h1 h2 h3 h4, fun q hq => ?_⟩
  unfold nextI at hq
  rw [if_neg h17, if_neg h18, if_neg h3] at hq
  simp at hq
  exact ⟨b + 1, by omega, by rw [hy, e]⟩
theorem two_none (S : Seen c h R T) (g : Good l c h) {i j : Ins} {x y : Int} (hi : c.ins[p]? = some i) (hj : c.ins[p + 1]? = some j) (hT : T (p + 1) = false) (hx : h[p]? = some x) (h0 : 0 ≤ x) (hy : h[p + 2]? = some y) (e : y = x) : Step l c h p 2 [] := by
  have hlt := (List.getElem?_eq_some_iff.1 hj).1
  refine ⟨by omega, by omega, by simp, tgt_two S hT, .inl ⟨rfl, .inr ⟨x, h0, hx, by rw [hy, e]⟩⟩, ?_⟩
  rw [wsum_two hi hj]
  have := wt_pos c.ins.length i
  simp [wsum]
  omega
theorem two_push (S : Seen c h R T) (g : Good l c h) {i j : Ins} {x y n : Int} (hi : c.ins[p]? = some i) (hj : c.ins[p + 1]? = some j) (hT : T (p + 1) = false) (hx : h[p]? = some x) (h0 : 0 ≤ x) (h1 : x ≤ 4096) (hy : h[p + 2]? = some y) (e : y = x + 1) : Step l c h p 2 [pushI n] := by
  have hlt := (List.getElem?_eq_some_iff.1 hj).1
  have ht : tk l (pushI n) = 0 ∧ lv l (pushI n) = 1 := by
    have := tk_of (l := l) (i := pushI n) (op := 1) rfl (by omega) (by omega)
    exact ⟨this.1.trans (by decide), this.2.trans (by decide)⟩
  refine ⟨by omega, by omega, by simp, tgt_two S hT, .inr ⟨x, _, rfl, h0, hx, ?_, may_push _ _ _, fun hj => ?_⟩, ?_⟩
  · exact done_on (b := p + 2 - 1) (y := y) (by omega) h1 (by simp [pushI]) (by simp [pushI]) (by simp [pushI]) (by simp [pushI]) (by rw [show p + 2 - 1 + 1 = p + 2 by omega]; exact hy) (by omega)
  · simp [isJ, pushI] at hj
  · rw [wsum_two hi hj]
    have := wt_pos c.ins.length i
    have := wt_pos c.ins.length j
    have hw : wt (c.ins.length - 2 + 1) (pushI n) = 1 := by simp [wt, isJ, pushI]
    have hv : mvI p 2 1 (pushI n) = pushI n := by simp [mvI, isJ, pushI]
    simp only [List.length_cons, List.length_nil, Nat.zero_add, List.map_cons, List.map_nil, hv, wsum, List.sum_cons, List.sum_nil, Nat.add_zero, hw]
    omega
theorem singleP_step (S : Seen c h R T) (g : Good l c h) (o : OwnOk l c) (hp : p < c.ins.length) (hr : (singleP R c.ins p (insAt c.ins p)).rule ≠ 0) : Step l c h p (singleP R c.ins p (insAt c.ins p)).n (singleP R c.ins p (insAt c.ins p)).put := by
  obtain ⟨i, hi⟩ : ∃ i, c.ins[p]? = some i := ⟨_, List.getElem?_eq_getElem hp⟩
  obtain ⟨x, hx⟩ : ∃ x, h[p]? = some x := ⟨_, List.getElem?_eq_getElem (by rw [g.len]; exact hp)⟩
  have hii : insAt c.ins p = i := by simp [insAt, hi]
  rw [hii] at hr ⊢
  have hm := o.may i (List.mem_of_getElem? hi)
  have hS := S.reach p x hx
  unfold singleP at hr ⊢
  split
  · rename_i hR
    have hx1 : x = -1 := by
      rcases g.reach p x hx with h | h
      · exact h
      · rw [hR] at hS; have := hS.2 h.1; cases this
    subst hx1
    refine ⟨by simp, by simp only; omega, by simp, tgt_one, .inl ⟨rfl, .inl ⟨rfl, hx⟩⟩, ?_⟩
    simp only
    rw [wsum_one hi]
    have := wt_pos c.ins.length i
    simp [wsum]
    omega
  · rename_i hR
    have h0 : 0 ≤ x := hS.1 (by simpa using hR)
    obtain ⟨ho, hd⟩ := g.step p i x hi hx h0
    rw [if_neg hR] at hr
    split
    · rename_i h2
      obtain ⟨q, e, hq⟩ := hd i.n (by unfold nextI; rw [if_pos h2.1]; simp)
      have : q = p + 1 := by omega
      subst this
      have ht := tk_of (l := l) h2.1 (by omega) (by omega)
      have t1 : takes 17 = 0 := by decide
      have t2 : leaves 17 = 0 := by decide
      refine ⟨by simp, by simp only; omega, by simp, tgt_one, .inl ⟨rfl, .inr ⟨x, h0, hx, ?_⟩⟩, ?_⟩
      · simp only
        rw [hq]
        congr 1
        omega
      · simp only
        rw [wsum_one hi]
        have := wt_pos c.ins.length i
        simp [wsum]
        omega
    · rename_i h2
      rw [if_neg h2] at hr
      split
      · rename_i h3
        obtain ⟨q, e, hq⟩ := hd ((p + 1 : Nat) : Int) (by unfold nextI; rw [if_neg (by omega), if_pos h3.1]; simp)
        have := Int.ofNat_inj.1 e
        subst this
        have ht := tk_of (l := l) h3.1 (by omega) (by omega)
        have t1 : takes 18 = 1 := by decide
        have t2 : leaves 18 = 0 := by decide
        have d1 := tk_of (l := l) (i := ⟨25, 0, 0⟩) (op := 25) rfl (by omega) (by omega)
        have d2 : takes 25 = 1 := by decide
        have d3 : leaves 25 = 0 := by decide
        have := ho.1
        refine ⟨by simp, by simp only; omega, by simp, tgt_one, .inr ⟨x, _, rfl, h0, hx, ?_, may_drop _ _, fun hj => by simp [isJ] at hj⟩, ?_⟩
        · simp only
          refine done_on (b := p + 1 - 1) (by omega) ho.2.1 (by simp) (by simp) (by simp) (by simp) (by rw [show p + 1 - 1 + 1 = p + 1 by omega]; exact hq) (by omega)
        · simp only
          rw [wsum_one hi]
          have hjj : isJ i := .inr h3.1
          have := may_rng hm hjj
          simp [wsum, mvI, isJ, wt]
          have h18 := h3.1
          simp [h18]
          omega
      · rename_i h3
        rw [if_neg h3] at hr
        split
        · rename_i h4
          obtain ⟨hj, ht17, htn⟩ := h4
          have hrg := may_rng hm hj
          have htl : i.n.toNat < c.ins.length := by omega
          obtain ⟨t, ht⟩ : ∃ t, c.ins[i.n.toNat]? = some t := ⟨_, List.getElem?_eq_getElem htl⟩
          simp only [ht, Option.getD_some] at ht17 htn ⊢
          have hmt := o.may t (List.mem_of_getElem? ht)
          have hrt := may_rng hmt (.inl ht17)
          have hmem : i.n ∈ nextI i p := by
            unfold isJ at hj
            unfold nextI
            rcases hj with e | e
            · rw [if_pos e]; simp
            · rw [if_neg (by omega), if_pos e]; simp
          obtain ⟨q, e, hq⟩ := hd i.n hmem
          have hqe : i.n.toNat = q := by omega
          rw [hqe] at ht
          have hnn : 0 ≤ x - tk l i + lv l i := by have := ho.1; have := lv_nonneg l i; omega
          obtain ⟨ho2, hd2⟩ := g.step q t _ ht hq hnn
          obtain ⟨r, e2, hr2⟩ := hd2 t.n (by unfold nextI; rw [if_pos ht17]; simp)
          have tt := tk_of (l := l) ht17 (by omega) (by omega)
          have t1 : takes 17 = 0 := by decide
          have t2 : leaves 17 = 0 := by decide
          have same : tk l ⟨i.op, t.n, 0⟩ = tk l i ∧ lv l ⟨i.op, t.n, 0⟩ = lv l i := by
            unfold isJ at hj
            rcases hj with e | e <;> simp [tk, lv, e]
          have ok4 : okAt l ⟨i.op, t.n, 0⟩ x := by
            obtain ⟨a1, a2, a3, a4⟩ := ho
            exact ⟨by rw [same.1]; exact a1, a2, fun h => by rw [same.1]; exact a3 h, a4⟩
          have nx4 : ∀ q' ∈ nextI ⟨i.op, t.n, 0⟩ (p + 1 - 1), ∃ r' : Nat, q' = r' ∧ h[r']? = some (x - tk l ⟨i.op, t.n, 0⟩ + lv l ⟨i.op, t.n, 0⟩) := by
            intro q' hq'
            rw [same.1, same.2]
            unfold nextI at hq'
            simp only at hq'
            split at hq'
            · simp at hq'
              refine ⟨r, by omega, ?_⟩
              rw [hr2]
              congr 1
              omega
            · split at hq'
              · simp only [List.mem_cons, List.not_mem_nil, or_false] at hq'
                rcases hq' with hq' | hq'
                · obtain ⟨s, e3, hs⟩ := hd ((p + 1 : Nat) : Int) (by unfold nextI; rw [if_neg (by assumption), if_pos (by assumption)]; simp)
                  exact ⟨s, by omega, hs⟩
                · refine ⟨r, by omega, ?_⟩
                  rw [hr2]
                  congr 1
                  omega
              · unfold isJ at hj
                omega
          refine ⟨by omega, by omega, by simp, tgt_one, ?_, ?_⟩
          · exact .inr ⟨x, _, rfl, h0, hx, ⟨ok4, nx4⟩, may_jump _ _ hj hrt.1 hrt.2, fun _ => by omega⟩
          · rw [wsum_one hi]
            have hj2 : isJ (⟨i.op, t.n, 0⟩ : Ins) := hj
            have hmv : mvI p 1 1 ⟨i.op, t.n, 0⟩ = ⟨i.op, t.n, 0⟩ := by
              unfold mvI mvP
              rw [if_pos hj2]
              simp only
              congr 1
              split
              · rfl
              · rw [if_neg (by omega)]; omega
            simp only [List.length_cons, List.length_nil, Nat.zero_add, List.map_cons, List.map_nil, hmv, wsum, List.sum_cons, List.sum_nil, Nat.add_zero]
            unfold wt
            rw [if_pos hj2, if_pos hj]
            simp only
            omega
        · rename_i h4
          rw [if_neg h4] at hr
          exact absurd rfl hr
theorem chg_ite {q : Prop} [Decidable q] {a b : Chg} {M : Chg → Prop} (h1 : q → M a) (h2 : ¬ q → M b) : M (if q then a else b) := by
  by_cases h : q
  · rw [if_pos h]; exact h1 h
  · rw [if_neg h]; exact h2 h
set_option maxHeartbeats 1000000 in
theorem pairP_step (S : Seen c h R T) (g : Good l c h) (o : OwnOk l c) (hp : p < c.ins.length) (hRp : R p = true) (hr : (pairP (insAt c.ins p) (jAt T c.ins p) (kAt T c.ins p)).rule ≠ 0) :
    Step l c h p (pairP (insAt c.ins p) (jAt T c.ins p) (kAt T c.ins p)).n (pairP (insAt c.ins p) (jAt T c.ins p) (kAt T c.ins p)).put := by
  obtain ⟨i, hi⟩ : ∃ i, c.ins[p]? = some i := ⟨_, List.getElem?_eq_getElem hp⟩
  obtain ⟨x, hx⟩ : ∃ x, h[p]? = some x := ⟨_, List.getElem?_eq_getElem (by rw [g.len]; exact hp)⟩
  have hii : insAt c.ins p = i := by simp [insAt, hi]
  rw [hii] at hr ⊢
  have hm := o.may i (List.mem_of_getElem? hi)
  have h0 : 0 ≤ x := (S.reach p x hx).1 hRp
  obtain ⟨ho, hd⟩ := g.step p i x hi hx h0
  have hx1 := ho.2.1
  have hjs : ∀ op : Int, op ≠ 0 → (jAt T c.ins p).op = op → T (p + 1) = false ∧ c.ins[p + 1]? = some (jAt T c.ins p) := fun op h1 h2 => jAt_some (by rw [h2]; exact h1)
  have hks : ∀ op : Int, op ≠ 0 → (kAt T c.ins p).op = op → T (p + 2) = false ∧ c.ins[p + 2]? = some (kAt T c.ins p) := fun op h1 h2 => kAt_some (by rw [h2]; exact h1)
  generalize jAt T c.ins p = j at hr hjs ⊢
  generalize kAt T c.ins p = k at hr hks ⊢
  have v1 : takes 1 = 0 ∧ leaves 1 = 1 := by decide
  have v2 : takes 2 = 0 ∧ leaves 2 = 1 := by decide
  have v3 : takes 3 = 1 ∧ leaves 3 = 0 := by decide
  have v7 : takes 7 = 2 ∧ leaves 7 = 1 := by decide
  have v8 : takes 8 = 2 ∧ leaves 8 = 1 := by decide
  have v9 : takes 9 = 2 ∧ leaves 9 = 1 := by decide
  have v10 : takes 10 = 2 ∧ leaves 10 = 1 := by decide
  have v11 : takes 11 = 2 ∧ leaves 11 = 1 := by decide
  have v12 : takes 12 = 2 ∧ leaves 12 = 1 := by decide
  have v13 : takes 13 = 2 ∧ leaves 13 = 1 := by decide
  have v14 : takes 14 = 2 ∧ leaves 14 = 1 := by decide
  have v15 : takes 15 = 1 ∧ leaves 15 = 1 := by decide
  have v16 : takes 16 = 1 ∧ leaves 16 = 1 := by decide
  have v18 : takes 18 = 1 ∧ leaves 18 = 0 := by decide
  have v23 : takes 23 = 1 ∧ leaves 23 = 0 := by decide
  have v25 : takes 25 = 1 ∧ leaves 25 = 0 := by decide
  have v6 : takes 6 = 0 ∧ leaves 6 = 0 := by decide
  -- i, then j: what the heights are
  have go : ∀ (oi oj : Int), i.op = oi → j.op = oj → oi ≠ 17 → oi ≠ 19 → oi ≠ 20 → oj ≠ 0 → oj ≠ 17 → oj ≠ 19 → oj ≠ 20 →
      T (p + 1) = false ∧ c.ins[p + 1]? = some j ∧ h[p + 1]? = some (x - takes oi + leaves oi) ∧ 0 ≤ x - takes oi + leaves oi ∧ h[p + 2]? = some (x - takes oi + leaves oi - takes oj + leaves oj) ∧ takes oj ≤ x - takes oi + leaves oi := by
    intro oi oj ei ej a1 a2 a3 b0 b1 b2 b3
    obtain ⟨k1, k2⟩ := hjs oj b0 ej
    have ti := tk_of (l := l) ei a2 a3
    have tj := tk_of (l := l) ej b2 b3
    obtain ⟨q1, q2, q3⟩ := on g hi hx h0 (by omega) (by omega)
    rw [ti.1, ti.2] at q1 q2
    obtain ⟨r1, r2, r3⟩ := on g k2 q1 q2 (by omega) (by omega)
    rw [tj.1, tj.2] at r1
    rw [tj.1] at r3
    exact ⟨k1, k2, q1, q2, r1, r3⟩
  let M : Chg → Prop := fun X => X.rule ≠ 0 → Step l c h p X.n X.put
  revert hr
  show M (pairP i j k)
  unfold pairP
  refine chg_ite (fun e _ => ?_) fun e1 => ?_
  · skip
    obtain ⟨k1, k2, _, _, k3, _⟩ := go 1 16 e.1 e.2 (by omega) (by omega) (by omega) (by omega) (by omega) (by omega) (by omega)
    exact two_push S g hi k2 k1 hx h0 hx1 k3 (by omega)
  refine chg_ite (fun e _ => ?_) fun e2 => ?_
  · skip
    obtain ⟨k1, k2, _, _, k3, _⟩ := go 1 15 e.1 e.2 (by omega) (by omega) (by omega) (by omega) (by omega) (by omega) (by omega)
    exact two_push S g hi k2 k1 hx h0 hx1 k3 (by omega)
  refine chg_ite (fun e _ => ?_) fun e3 => ?_
  · skip
    obtain ⟨k1, k2, m1, m2, k3, _⟩ := go 1 1 e.1 e.2.1 (by omega) (by omega) (by omega) (by omega) (by omega) (by omega) (by omega)
    have hk : ∃ ok : Int, k.op = ok ∧ takes ok = 2 ∧ leaves ok = 1 ∧ ok ≠ 0 ∧ ok ≠ 17 ∧ ok ≠ 19 ∧ ok ≠ 20 := by
      have := e.2.2
      unfold leftP at this
      by_cases q7 : k.op = 7
      · exact ⟨7, q7, v7.1, v7.2, by omega, by omega, by omega, by omega⟩
      by_cases q8 : k.op = 8
      · exact ⟨8, q8, v8.1, v8.2, by omega, by omega, by omega, by omega⟩
      by_cases q9 : k.op = 9
      · exact ⟨9, q9, v9.1, v9.2, by omega, by omega, by omega, by omega⟩
      by_cases q12 : k.op = 12
      · exact ⟨12, q12, v12.1, v12.2, by omega, by omega, by omega, by omega⟩
      by_cases q13 : k.op = 13
      · exact ⟨13, q13, v13.1, v13.2, by omega, by omega, by omega, by omega⟩
      by_cases q14 : k.op = 14
      · exact ⟨14, q14, v14.1, v14.2, by omega, by omega, by omega, by omega⟩
      by_cases q10 : k.op = 10
      · exact ⟨10, q10, v10.1, v10.2, by omega, by omega, by omega, by omega⟩
      by_cases q11 : k.op = 11
      · exact ⟨11, q11, v11.1, v11.2, by omega, by omega, by omega, by omega⟩
      rw [if_neg q7, if_neg q8, if_neg q9, if_neg q12, if_neg q13, if_neg q14] at this
      split at this
      · simp at this
      · simp at this
    obtain ⟨ok, ek, t1, t2, n0, n17, n19, n20⟩ := hk
    obtain ⟨f1, f2⟩ := hks ok n0 ek
    have hlt := (List.getElem?_eq_some_iff.1 f2).1
    obtain ⟨s1, s2, s3⟩ := on g f2 k3 (by omega) (by omega) (by omega)
    have tk3 := tk_of (l := l) ek n19 n20
    have ht : ∀ n, tk l (pushI n) = 0 ∧ lv l (pushI n) = 1 := fun n => by
      have := tk_of (l := l) (i := pushI n) (op := 1) rfl (by omega) (by omega)
      exact ⟨this.1.trans (by decide), this.2.trans (by decide)⟩
    refine ⟨by simp, by simp only; omega, by simp, tgt_three S k1 f1, .inr ⟨x, _, rfl, h0, hx, ?_, may_push _ _ _, fun hj => by simp [isJ, pushI] at hj⟩, ?_⟩
    · have := ht ((leftP k.op i.n j.n).getD 0)
      simp only
      refine done_on (b := p + 3 - 1) (by omega) hx1 (by simp [pushI]) (by simp [pushI]) (by simp [pushI]) (by simp [pushI]) (by rw [show p + 3 - 1 + 1 = p + 2 + 1 by omega]; exact s1) (by omega)
    · simp only
      rw [wsum_three hi k2 f2]
      have := wt_pos c.ins.length i
      have := wt_pos c.ins.length j
      have := wt_pos c.ins.length k
      have hw : wt (c.ins.length - 3 + 1) (pushI ((leftP k.op i.n j.n).getD 0)) = 1 := by simp [wt, isJ, pushI]
      have hv : mvI p 3 1 (pushI ((leftP k.op i.n j.n).getD 0)) = pushI ((leftP k.op i.n j.n).getD 0) := by simp [mvI, isJ, pushI]
      simp only [List.length_cons, List.length_nil, Nat.zero_add, List.map_cons, List.map_nil, hv, wsum, List.sum_cons, List.sum_nil, Nat.add_zero, hw]
      omega
  refine chg_ite (fun e _ => ?_) fun e4 => ?_
  · skip
    rcases e with ⟨e | e, ej⟩
    · obtain ⟨k1, k2, _, _, k3, _⟩ := go 1 25 e ej (by omega) (by omega) (by omega) (by omega) (by omega) (by omega) (by omega)
      exact two_none S g hi k2 k1 hx h0 k3 (by omega)
    · obtain ⟨k1, k2, _, _, k3, _⟩ := go 2 25 e ej (by omega) (by omega) (by omega) (by omega) (by omega) (by omega) (by omega)
      exact two_none S g hi k2 k1 hx h0 k3 (by omega)
  refine chg_ite (fun e _ => ?_) fun e5 => ?_
  · skip
    rcases e with ⟨e, _, ej | ej⟩
    · obtain ⟨k1, k2, _, _, k3, _⟩ := go 1 7 e ej (by omega) (by omega) (by omega) (by omega) (by omega) (by omega) (by omega)
      exact two_none S g hi k2 k1 hx h0 k3 (by omega)
    · obtain ⟨k1, k2, _, _, k3, _⟩ := go 1 8 e ej (by omega) (by omega) (by omega) (by omega) (by omega) (by omega) (by omega)
      exact two_none S g hi k2 k1 hx h0 k3 (by omega)
  refine chg_ite (fun e _ => ?_) fun e6 => ?_
  · skip
    rcases e with ⟨e, _, ej | ej⟩
    · obtain ⟨k1, k2, _, _, k3, _⟩ := go 1 9 e ej (by omega) (by omega) (by omega) (by omega) (by omega) (by omega) (by omega)
      exact two_none S g hi k2 k1 hx h0 k3 (by omega)
    · obtain ⟨k1, k2, _, _, k3, _⟩ := go 1 10 e ej (by omega) (by omega) (by omega) (by omega) (by omega) (by omega) (by omega)
      exact two_none S g hi k2 k1 hx h0 k3 (by omega)
  refine chg_ite (fun e _ => ?_) fun e7 => ?_
  · skip
    obtain ⟨k1, k2, _, _, k3, _⟩ := go 2 3 e.1 e.2.1 (by omega) (by omega) (by omega) (by omega) (by omega) (by omega) (by omega)
    exact two_none S g hi k2 k1 hx h0 k3 (by omega)
  refine chg_ite (fun e _ => ?_) fun e8 => ?_
  · skip
    obtain ⟨k1, k2, m1, m2, k3, m3⟩ := go 1 18 e.1 e.2.1 (by omega) (by omega) (by omega) (by omega) (by omega) (by omega) (by omega)
    have hlt := (List.getElem?_eq_some_iff.1 k2).1
    have hmj := o.may j (List.mem_of_getElem? k2)
    have hjj : isJ j := .inr e.2.1
    have hrj := may_rng hmj hjj
    obtain ⟨_, hdj⟩ := g.step (p + 1) j _ k2 m1 m2
    obtain ⟨q, eq, hq⟩ := hdj j.n (by unfold nextI; rw [if_neg (by omega), if_pos e.2.1]; simp)
    have tj := tk_of (l := l) e.2.1 (by omega) (by omega)
    have tn := tk_of (l := l) (i := ⟨17, j.n, 0⟩) (op := 17) rfl (by omega) (by omega)
    have v17 : takes 17 = 0 ∧ leaves 17 = 0 := by decide
    refine ⟨by simp, by simp only; omega, by simp, tgt_two S k1, .inr ⟨x, _, rfl, h0, hx, ⟨ok_low (by omega) hx1 (by simp) (by simp), fun q' hq' => ?_⟩, may_jump _ _ (.inl rfl) hrj.1 hrj.2, fun _ => ?_⟩, ?_⟩
    · unfold nextI at hq'
      simp at hq'
      refine ⟨q, by omega, ?_⟩
      rw [hq]
      congr 1
      omega
    · exact tgt_two S k1 (p + 1) j _ k2 m1 m2 hjj
    · simp only
      rw [wsum_two hi k2]
      have hw := wt_mv (put := [(⟨17, j.n, 0⟩ : Ins)]) (p := p) (n := 2) (len := c.ins.length) (by omega) (by simp) (by simp) ⟨17, j.n, 0⟩
      have hw2 : wt c.ins.length ⟨17, j.n, 0⟩ = wt c.ins.length j := by
        have h1 : isJ (⟨17, j.n, 0⟩ : Ins) := .inl rfl
        unfold wt
        rw [if_pos h1, if_pos hjj]
      have := wt_pos c.ins.length i
      simp only [List.map_cons, List.map_nil, wsum, List.sum_cons, List.sum_nil, Nat.add_zero]
      omega
  refine chg_ite (fun e _ => ?_) fun e9 => ?_
  · skip
    obtain ⟨k1, k2, _, _, k3, _⟩ := go 1 18 e.1 e.2 (by omega) (by omega) (by omega) (by omega) (by omega) (by omega) (by omega)
    exact two_none S g hi k2 k1 hx h0 k3 (by omega)
  refine chg_ite (fun e _ => ?_) fun e10 => ?_
  · skip
    obtain ⟨k1, k2, _, _, k3, _⟩ := go 1 23 e.1 e.2.2 (by omega) (by omega) (by omega) (by omega) (by omega) (by omega) (by omega)
    exact two_none S g hi k2 k1 hx h0 k3 (by omega)
  refine chg_ite (fun e _ => ?_) fun e11 => ?_
  · skip
    obtain ⟨k1, k2, _, _, k3, _⟩ := go 6 6 e.1 e.2.1 (by omega) (by omega) (by omega) (by omega) (by omega) (by omega) (by omega)
    have hlt := (List.getElem?_eq_some_iff.1 k2).1
    have hmj := o.may j (List.mem_of_getElem? k2)
    obtain ⟨iop, inn, im⟩ := i
    obtain ⟨jop, jn, jm⟩ := j
    simp only at e
    obtain ⟨rfl, rfl, rfl, e64⟩ := e
    have tn := tk_of (l := l) (i := ⟨6, inn, im + jm⟩) (op := 6) rfl (by omega) (by omega)
    refine ⟨by simp, by simp only; omega, by simp, tgt_two S k1, .inr ⟨x, _, rfl, h0, hx, ?_, may_clear _ _ hm hmj e64, fun hj => by simp [isJ] at hj⟩, ?_⟩
    · simp only
      exact done_on (b := p + 2 - 1) (by omega) hx1 (by simp) (by simp) (by simp) (by simp) (by rw [show p + 2 - 1 + 1 = p + 2 by omega]; exact k3) (by omega)
    · simp only
      rw [wsum_two hi k2]
      simp [wsum, mvI, isJ, wt]
  exact fun h => absurd rfl h
theorem ruleP_step (S : Seen c h R T) (g : Good l c h) (o : OwnOk l c) (hp : p < c.ins.length) (hr : (ruleP R T c.ins p).rule ≠ 0) : Step l c h p (ruleP R T c.ins p).n (ruleP R T c.ins p).put := by
  unfold ruleP at hr ⊢
  split
  · exact singleP_step S g o hp ‹_›
  · rename_i h1
    rw [if_neg h1] at hr
    refine pairP_step S g o hp ?_ hr
    cases hR : R p
    · refine absurd ?_ h1
      simp [singleP, hR]
    · rfl
end
end Go.Proofs.YthiflgncldmkjaaDoor
set_option linter.unusedVariables false
set_option linter.unusedSimpArgs false
set_option maxRecDepth 100000
namespace Go.Proofs.YthiflgncldmkjaaDoor
open Go.Ri

theorem Reach.ins {c c' : Code} (e : c.ins = c'.ins) {a : Nat} (h : Reach c a) : Reach c' a := by
  induction h with
  | zero => exact .zero
  | step hr hi hp ih => exact .step ih (e ▸ hi) hp
def bareC (L : List Ins) : Code := ⟨L, 0, 0, false⟩
open Classical in
noncomputable def reachL (L : List Ins) (a : Nat) : Bool := decide (Reach (bareC L) a)
open Classical in
noncomputable def targL (L : List Ins) (t : Nat) : Bool := decide (∃ a i, Reach (bareC L) a ∧ L[a]? = some i ∧ isJ i ∧ i.n = (t : Nat))
theorem reachL_iff {L : List Ins} {c : Code} (e : c.ins = L) {a : Nat} : reachL L a = true ↔ Reach c a := by
  unfold reachL
  rw [@decide_eq_true_iff _ (Classical.propDecidable _)]
  exact ⟨fun h => h.ins e.symm, fun h => h.ins e⟩
theorem targL_iff {L : List Ins} {t : Nat} : targL L t = true ↔ ∃ a i, Reach (bareC L) a ∧ L[a]? = some i ∧ isJ i ∧ i.n = (t : Nat) := by
  unfold targL
  rw [@decide_eq_true_iff _ (Classical.propDecidable _)]
noncomputable def fitP (L : List Ins) (p : Nat) : Chg := ruleP (reachL L) (targL L) L p
noncomputable def firstP (L : List Ins) : Nat → Nat → Option Nat
  | 0, _ => none
  | k + 1, p => if (fitP L p).rule = 0 then firstP L k (p + 1) else some p
noncomputable def onceP (L : List Ins) : Option (List Ins) := (firstP L L.length 0).map fun p => doneP L p (fitP L p).n (fitP L p).put
theorem firstP_some {L : List Ins} : ∀ {k p q : Nat}, firstP L k p = some q → p ≤ q ∧ q < p + k ∧ (fitP L q).rule ≠ 0 ∧ ∀ r, p ≤ r → r < q → (fitP L r).rule = 0
  | 0, p, q, h => by cases h
  | k + 1, p, q, h => by
    unfold firstP at h
    split at h
    · rename_i h0
      obtain ⟨h1, h2, h3, h4⟩ := firstP_some h
      refine ⟨by omega, by omega, h3, fun r hr hr2 => ?_⟩
      by_cases e : r = p
      · rw [e]; exact h0
      · exact h4 r (by omega) hr2
    · rename_i h0
      cases h
      exact ⟨Nat.le_refl _, by omega, h0, fun r hr hr2 => by omega⟩
theorem firstP_none {L : List Ins} : ∀ {k p : Nat}, firstP L k p = none → ∀ r, p ≤ r → r < p + k → (fitP L r).rule = 0
  | 0, p, h, r, h1, h2 => by omega
  | k + 1, p, h, r, h1, h2 => by
    unfold firstP at h
    split at h
    · by_cases e : r = p
      · rw [e]; assumption
      · exact firstP_none h r (by omega) (by omega)
    · cases h
theorem firstP_at {L : List Ins} {q : Nat} (h1 : (fitP L q).rule ≠ 0) : ∀ (k p : Nat), p ≤ q → q < p + k → (∀ r, p ≤ r → r < q → (fitP L r).rule = 0) → firstP L k p = some q
  | 0, p, h2, h3, _ => by omega
  | k + 1, p, h2, h3, h4 => by
    unfold firstP
    by_cases e : p = q
    · subst e; rw [if_neg h1]
    · rw [if_pos (h4 p (Nat.le_refl _) (by omega))]
      exact firstP_at h1 k (p + 1) (by omega) (by omega) fun r hr hr2 => h4 r (by omega) hr2
theorem firstP_no {L : List Ins} : ∀ (k p : Nat), (∀ r, p ≤ r → r < p + k → (fitP L r).rule = 0) → firstP L k p = none
  | 0, p, _ => rfl
  | k + 1, p, h => by
    unfold firstP
    rw [if_pos (h p (Nat.le_refl _) (by omega))]
    exact firstP_no k (p + 1) fun r hr hr2 => h r (by omega) (by omega)

def Snd (l : List Code) (c : Code) : Prop := OwnOk l c ∧ ∃ h, Good l c h
theorem seen_of {l : List Code} {c : Code} {h : List Int} (g : Good l c h) : Seen c h (reachL c.ins) (targL c.ins) := by
  refine ⟨fun a x hx => ?_, fun a i x hi hx h0 hj => ?_⟩
  · rw [reachL_iff rfl]
    refine ⟨fun hr => ?_, fun h0 => ?_⟩
    · obtain ⟨y, hy, h0⟩ := g.at_reach hr
      rw [hx] at hy
      cases hy
      exact h0
    · rcases g.reach a x hx with h | h
      · omega
      · exact h.2
  · rcases g.reach a x hx with h | ⟨_, hr⟩
    · omega
    · refine targL_iff.2 ⟨a, i, Reach.ins (c := c) (c' := bareC c.ins) rfl hr, hi, hj, ?_⟩
      -- a target is a number of a place
      obtain ⟨_, hd⟩ := g.step a i x hi hx h0
      obtain ⟨q, e, _⟩ := hd i.n (by unfold isJ at hj; unfold nextI; rcases hj with e | e; rw [if_pos e]; simp; rw [if_neg (by omega), if_pos e]; simp)
      omega
theorem fit_step {l : List Code} {c : Code} {h : List Int} (g : Good l c h) (o : OwnOk l c) {p : Nat} (hp : p < c.ins.length) (hr : (fitP c.ins p).rule ≠ 0) : Step l c h p (fitP c.ins p).n (fitP c.ins p).put :=
  ruleP_step (seen_of g) g o hp hr
theorem fit_zero {L : List Ins} {p : Nat} (h : (fitP L p).rule = 0) : reachL L p = true := by
  cases hR : reachL L p
  · unfold fitP ruleP singleP at h
    simp [hR] at h
  · rfl
theorem once_snd {l : List Code} {c : Code} (s : Snd l c) {L : List Ins} (h : onceP c.ins = some L) : Snd l { c with ins := L } ∧ wsum L.length L < wsum c.ins.length c.ins ∧ L.length ≤ c.ins.length := by
  obtain ⟨o, hs, g⟩ := s
  simp only [onceP, Option.map_eq_some_iff] at h
  obtain ⟨p, hp, rfl⟩ := h
  obtain ⟨_, h1, h2, h3⟩ := firstP_some hp
  have hpl : p < c.ins.length := by omega
  have S := fit_step g o hpl h2
  refine ⟨⟨S.may g o fun a ha => ?_, _, S.good g o.some_⟩, S.down, by rw [S.len]; have := S.small; have := S.bound; omega⟩
  have := fit_zero (h3 a (by omega) ha)
  exact g.at_reach ((reachL_iff rfl).1 this)
inductive Makes : List Ins → List Ins → Prop where
  | stop {L : List Ins} : onceP L = none → Makes L L
  | more {L L1 L2 : List Ins} : onceP L = some L1 → Makes L1 L2 → Makes L L2
theorem Makes.one {L A B : List Ins} (h : Makes L A) (k : Makes L B) : A = B := by
  induction h with
  | stop h0 =>
    cases k with
    | stop _ => rfl
    | more h1 _ => rw [h0] at h1; cases h1
  | more h0 _ ih =>
    cases k with
    | stop h1 => rw [h0] at h1; cases h1
    | more h1 k => rw [h0] at h1; cases h1; exact ih k
theorem Makes.last {L A : List Ins} (h : Makes L A) : onceP A = none := by
  induction h with
  | stop h => exact h
  | more _ _ ih => exact ih
theorem Makes.snd {l : List Code} {L A : List Ins} (h : Makes L A) : ∀ {c : Code}, c.ins = L → Snd l c → Snd l { c with ins := A } ∧ A.length ≤ L.length := by
  induction h with
  | stop _ => rintro c rfl s; exact ⟨s, Nat.le_refl _⟩
  | more h0 _ ih =>
    rintro c rfl s
    obtain ⟨s1, _, hl⟩ := once_snd s h0
    obtain ⟨s2, hl2⟩ := ih (c := { c with ins := _ }) rfl s1
    exact ⟨s2, by omega⟩
structure Alike (l l' : List Code) : Prop where
  len : l.length = l'.length
  at_ : ∀ k : Nat, (l[k]?).map (fun c => (c.params, c.answers)) = (l'[k]?).map (fun c => (c.params, c.answers))
theorem Alike.refl (l : List Code) : Alike l l := ⟨rfl, fun _ => rfl⟩
theorem Alike.symm {l l' : List Code} (h : Alike l l') : Alike l' l := ⟨h.len.symm, fun k => (h.at_ k).symm⟩
theorem Alike.trans {l l' l'' : List Code} (h : Alike l l') (k : Alike l' l'') : Alike l l'' := ⟨h.len.trans k.len, fun j => (h.at_ j).trans (k.at_ j)⟩
theorem Alike.set {l : List Code} {k : Nat} {c : Code} (hc : l[k]? = some c) (L : List Ins) : Alike l (l.set k { c with ins := L }) := by
  refine ⟨by simp, fun j => ?_⟩
  by_cases e : k = j
  · subst e
    rw [List.getElem?_set_self (List.getElem?_eq_some_iff.1 hc).1, hc]
    rfl
  · rw [List.getElem?_set_ne e]
theorem Alike.params {l l' : List Code} (h : Alike l l') (n : Int) : paramsAt l n = paramsAt l' n := by
  have := h.at_ n.toNat
  unfold paramsAt
  cases h1 : l[n.toNat]? <;> cases h2 : l'[n.toNat]? <;> simp [h1, h2] at this ⊢
  exact this.1
theorem Alike.answers {l l' : List Code} (h : Alike l l') (n : Int) : answersAt l n = answersAt l' n := by
  have := h.at_ n.toNat
  unfold answersAt
  cases h1 : l[n.toNat]? <;> cases h2 : l'[n.toNat]? <;> simp [h1, h2] at this ⊢
  exact this.2
theorem Alike.may {l l' : List Code} (h : Alike l l') (c : Code) (i : Ins) : mayI l c i = mayI l' c i := by
  unfold mayI
  rw [h.len, h.params]
theorem Alike.tk {l l' : List Code} (h : Alike l l') (i : Ins) : Go.Proofs.YthiflgncldmkjaaDoor.tk l i = Go.Proofs.YthiflgncldmkjaaDoor.tk l' i := rfl
theorem Alike.lv {l l' : List Code} (h : Alike l l') (i : Ins) : Go.Proofs.YthiflgncldmkjaaDoor.lv l i = Go.Proofs.YthiflgncldmkjaaDoor.lv l' i := by
  unfold Go.Proofs.YthiflgncldmkjaaDoor.lv
  rw [h.answers]
theorem Alike.done {l l' : List Code} (h : Alike l l') {i : Ins} {a : Nat} {x : Int} {hs : List Int} (d : Done l i a x hs) : Done l' i a x hs :=
  ⟨d.1, fun p hp => by obtain ⟨q, e, hq⟩ := d.2 p hp; exact ⟨q, e, by rw [← h.lv]; exact hq⟩⟩
theorem Alike.good {l l' : List Code} (h : Alike l l') {c : Code} {hs : List Int} (g : Good l c hs) : Good l' c hs :=
  ⟨g.len, g.zero, fun a i x hi hx h0 => h.done (g.step a i x hi hx h0), g.reach⟩
theorem Alike.own {l l' : List Code} (h : Alike l l') {c : Code} (o : OwnOk l c) : OwnOk l' c :=
  ⟨o.some_, o.few, o.cells, o.params, fun i hi => by rw [← h.may]; exact o.may i hi⟩
theorem Alike.snd {l l' : List Code} (h : Alike l l') {c : Code} (s : Snd l c) : Snd l' c := ⟨h.own s.1, s.2.imp fun _ g => h.good g⟩
end Go.Proofs.YthiflgncldmkjaaDoor
set_option linter.unusedVariables false
set_option linter.unusedSimpArgs false
set_option maxRecDepth 100000
namespace Go.Proofs.YthiflgncldmkjaaDoor
open Go.Ri

def ChgAt (N : Nat) (H : AH) (v : AV) (c : Chg) : Prop := ∃ s, v = .agg [.int .i64 (c.rule : Nat), .int .i64 (c.n : Nat), s] ∧ Row H s 3 (c.put.map insC) ∧ ∀ b o n d, s = .slice (some (b, o)) n d → N ≤ b
theorem ChgAt.none (N : Nat) (H : AH) (a b : Nat) : ChgAt N H (.agg [.int .i64 (a : Nat), .int .i64 (b : Nat), .slice none 0 (.kn 0)]) ⟨a, b, []⟩ := ⟨_, rfl, Row.nil _ _, fun _ _ _ _ h => by cases h⟩
theorem ChgAt.low {N M : Nat} {H : AH} {v : AV} {c : Chg} (h : ChgAt N H v c) (hM : M ≤ N) : ChgAt M H v c := by
  obtain ⟨s, h1, h2, h3⟩ := h
  exact ⟨s, h1, h2, fun b o n d e => Nat.le_trans hM (h3 b o n d e)⟩
theorem Row.keepN {N : Nat} {H H' : AH} {s : AV} {k : Nat} {l : List (List AV)} (h : Row H s k l) (hN : ∀ b o n d, s = .slice (some (b, o)) n d → N ≤ b) (hs : ∀ b B, N ≤ b → H.m b = some B → H'.m b = some B) : Row H' s k l := by
  rcases h.is with h1 | ⟨a, c, rfl, h2⟩
  · exact ⟨h.len, .inl h1⟩
  refine ⟨h.len, .inr ⟨a, c, rfl, h2.imp id ?_⟩⟩
  rintro ⟨b, o, B, rfl, hB, r⟩
  exact ⟨b, o, B, rfl, hs _ _ (hN b o _ _ rfl) hB, r⟩
theorem ChgAt.keep {N : Nat} {H H' : AH} {v : AV} {c : Chg} (h : ChgAt N H v c) (hs : ∀ b B, N ≤ b → H.m b = some B → H'.m b = some B) : ChgAt N H' v c := by
  obtain ⟨s, h1, h2, h3⟩ := h
  exact ⟨s, h1, Row.keepN h2 h3 hs, h3⟩
theorem row_one {H : AH} {b : Nat} {B : Blk} {i : Ins} (h : H.m b = some B) (hc : B.cells = insC i) : Row H (.slice (some (b, 0)) 1 (.kn 1)) 3 [insC i] := by
  refine ⟨fun x hx => by simp at hx; subst hx; rfl, .inr ⟨_, _, rfl, .inr ⟨b, 0, B, rfl, h, by rw [hc]; simp [insC], fun k hk => ?_⟩⟩⟩
  have : k = 0 := by simpa using hk
  subst this
  rw [hc]
  rfl
theorem ChgAt.made {N : Nat} {H : AH} {cs : List AV} {e : TypeId} {b : Nat} {B : Blk} {i : Ins} (a n : Nat) (hN : N ≤ H.next) (hb : b < H.next) (hc : cs = insC i) {v : AV} (hv : v = .agg [.int .i64 (a : Nat), .int .i64 (n : Nat), .slice (some (H.next, 0)) 1 (.kn 1)]) : ChgAt N ((H.new cs e).put b B) v ⟨a, n, [i]⟩ := by
  subst hv
  refine ⟨_, rfl, row_one (b := H.next) (B := ⟨cs, e, true⟩) ?_ hc, fun b o n d e => by cases e; exact hN⟩
  simp only [put_m, new_m, if_true]
  rw [if_neg (by omega)]
theorem jumps_spec (d : Nat) (H : AH) (i : Ins) : RT (d + 1) 101 [.agg (insC i)] H = some (.bool (decide (isJ i)), H.new (insC i) 29) := by
  rw [R101]
  unfold F101
  have hin : insC i = [.int .i64 i.op, .int .i64 i.n, .int .i64 i.m] := rfl
  rw [hin]
  by_cases h17 : i.op = 17
  · simp -implicitDefEqProofs only [go_sem, Nat.reduceAdd, Nat.reduceMul, Nat.reduceLT, Nat.reduceLeDiff, Nat.reduceEqDiff, Nat.reduceBEq, reduceCtorEq, Int.reduceLT, Int.reduceLE, Int.reduceEq, Int.reduceGT, Int.reduceGE, Int.reduceToNat, Int.reduceNeg, decide_eq_true h17]
    simp [isJ, h17]
  · by_cases h18 : i.op = 18
    · simp -implicitDefEqProofs only [go_sem, Nat.reduceAdd, Nat.reduceMul, Nat.reduceLT, Nat.reduceLeDiff, Nat.reduceEqDiff, Nat.reduceBEq, reduceCtorEq, Int.reduceLT, Int.reduceLE, Int.reduceEq, Int.reduceGT, Int.reduceGE, Int.reduceToNat, Int.reduceNeg, decide_eq_false h17, decide_eq_true h18]
      simp [isJ, h18]
    · simp -implicitDefEqProofs only [go_sem, Nat.reduceAdd, Nat.reduceMul, Nat.reduceLT, Nat.reduceLeDiff, Nat.reduceEqDiff, Nat.reduceBEq, reduceCtorEq, Int.reduceLT, Int.reduceLE, Int.reduceEq, Int.reduceGT, Int.reduceGE, Int.reduceToNat, Int.reduceNeg, decide_eq_false h17, decide_eq_false h18]
      simp [isJ, h17, h18]

def unaryP (i j : Ins) : Chg :=
  if i.op = 1 ∧ j.op = 16 then ⟨5, 2, [pushI (IntKind.i64.wrap (0 - i.n))]⟩
  else if i.op = 1 ∧ j.op = 15 then ⟨5, 2, [pushI (truthI (decide (i.n = 0)))]⟩
  else ⟨0, 0, []⟩
def tripleP (i j k : Ins) : Chg := if i.op = 1 ∧ j.op = 1 ∧ (leftP k.op i.n j.n).isSome = true then ⟨6, 3, [pushI ((leftP k.op i.n j.n).getD 0)]⟩ else ⟨0, 0, []⟩
def idleP (i j : Ins) : Nat :=
  if (i.op = 1 ∨ i.op = 2) ∧ j.op = 25 then 7
  else if i.op = 1 ∧ i.n = 0 ∧ (j.op = 7 ∨ j.op = 8) then 8
  else if i.op = 1 ∧ i.n = 1 ∧ (j.op = 9 ∨ j.op = 10) then 8
  else if i.op = 2 ∧ j.op = 3 ∧ i.n = j.n then 9
  else 0
def restP (i j : Ins) : Chg :=
  if i.op = 1 ∧ j.op = 18 ∧ i.n = 0 then ⟨10, 2, [⟨17, j.n, 0⟩]⟩
  else if i.op = 1 ∧ j.op = 18 then ⟨10, 2, []⟩
  else if i.op = 1 ∧ i.n ≠ 0 ∧ j.op = 23 then ⟨11, 2, []⟩
  else if i.op = 6 ∧ j.op = 6 ∧ j.n = i.n + i.m ∧ i.m + j.m ≤ 64 then ⟨12, 2, [⟨6, i.n, i.m + j.m⟩]⟩
  else ⟨0, 0, []⟩
theorem pairP_eq (i j k : Ins) : pairP i j k = if (unaryP i j).rule ≠ 0 then unaryP i j else if (tripleP i j k).rule ≠ 0 then tripleP i j k else if idleP i j ≠ 0 then ⟨idleP i j, 2, []⟩ else restP i j := by
  unfold pairP unaryP
  by_cases h1 : i.op = 1 ∧ j.op = 16
  · rw [if_pos h1, if_pos h1]; rfl
  rw [if_neg h1, if_neg h1]
  by_cases h2 : i.op = 1 ∧ j.op = 15
  · rw [if_pos h2, if_pos h2]; rfl
  rw [if_neg h2, if_neg h2, if_neg (show ¬ ((⟨0, 0, []⟩ : Chg).rule ≠ 0) by simp)]
  unfold tripleP
  by_cases h3 : i.op = 1 ∧ j.op = 1 ∧ (leftP k.op i.n j.n).isSome = true
  · rw [if_pos h3, if_pos h3]; rfl
  rw [if_neg h3, if_neg h3, if_neg (show ¬ ((⟨0, 0, []⟩ : Chg).rule ≠ 0) by simp)]
  unfold idleP
  by_cases h4 : (i.op = 1 ∨ i.op = 2) ∧ j.op = 25
  · rw [if_pos h4, if_pos h4]; rfl
  rw [if_neg h4, if_neg h4]
  by_cases h5 : i.op = 1 ∧ i.n = 0 ∧ (j.op = 7 ∨ j.op = 8)
  · rw [if_pos h5, if_pos h5]; rfl
  rw [if_neg h5, if_neg h5]
  by_cases h6 : i.op = 1 ∧ i.n = 1 ∧ (j.op = 9 ∨ j.op = 10)
  · rw [if_pos h6, if_pos h6]; rfl
  rw [if_neg h6, if_neg h6]
  by_cases h7 : i.op = 2 ∧ j.op = 3 ∧ i.n = j.n
  · rw [if_pos h7, if_pos h7]; rfl
  rw [if_neg h7, if_neg h7]
  rfl

theorem neg_spec (d : Nat) (n : Int) (H : AH) : RT (d + 1) 111 [.int .i64 n] H = some (.int .i64 (IntKind.i64.wrap (0 - n)), H) := by
  rw [R111]
  unfold F111
  simp -implicitDefEqProofs only [go_sem, Nat.reduceAdd, Nat.reduceMul, Nat.reduceLT, Nat.reduceLeDiff, Nat.reduceEqDiff, Nat.reduceBEq, reduceCtorEq, Int.reduceLT, Int.reduceLE, Int.reduceEq, Int.reduceGT, Int.reduceGE, Int.reduceToNat, Int.reduceNeg]
theorem bs22i (op n m : Int) : nBuildSlice Tryd.prog 22 1 [(0, .agg [.int .i64 op, .int .i64 n, .int .i64 m])] = some ⟨[.int .i64 op, .int .i64 n, .int .i64 m], 29, slTo 1 1⟩ := by kernel_rfl
theorem unary_spec (d : Nat) {H : AH} (hw : H.wf) (i j : Ins) : Ret (RT (d + 2) 105 [.agg (insC i), .agg (insC j)] H) fun r => Ext H.next H r.2 ∧ ChgAt H.next r.2 r.1 (unaryP i j) := by
  rw [R105]
  unfold F105
  obtain ⟨io, inn, im⟩ := i
  obtain ⟨jo, jn, jm⟩ := j
  have hi : ∀ a b c, insC ⟨a, b, c⟩ = [.int .i64 a, .int .i64 b, .int .i64 c] := fun _ _ _ => rfl
  have hx3 : Ext H.next H (((H.new (insC ⟨io, inn, im⟩) 29).new (insC ⟨jo, jn, jm⟩) 29).new [.int .i64 0, .int .i64 0, .slice none 0 (.kn 0)] 108) := (((Ext.refl hw).new _ _).new _ _).new _ _
  rw [hi, hi] at *
  have n1 : ¬ H.next = H.next + 1 + 1 := by omega
  have n2 : ¬ H.next = H.next + 1 := by omega
  have n3 : ¬ H.next + 1 = H.next + 1 + 1 := by omega
  have n4 : ¬ H.next + 1 + 1 = H.next + 1 + 1 + 1 := by omega
  have hput := fun B => hx3.put (b := H.next + 1 + 1) (by omega) (by simp) B
  have hx4 := fun cs e => hx3.new cs e
  have hput4 := fun cs e B => (hx4 cs e).put (b := H.next + 1 + 1) (by omega) (by simp) B
  have no : ¬ (io = 1 ∧ jo = 16) → ¬ (io = 1 ∧ jo = 15) → unaryP ⟨io, inn, im⟩ ⟨jo, jn, jm⟩ = ⟨0, 0, []⟩ := fun h1 h2 => by
    simp only [unaryP]
    rw [if_neg h1, if_neg h2]
  by_cases h1 : io = 1
  · subst h1
    by_cases h16 : jo = 16
    · subst h16
      simp -implicitDefEqProofs only [go_sem, Nat.reduceAdd, Nat.reduceMul, Nat.reduceLT, Nat.reduceLeDiff, Nat.reduceEqDiff, Nat.reduceBEq, reduceCtorEq, Int.reduceLT, Int.reduceLE, Int.reduceEq, Int.reduceGT, Int.reduceGE, Int.reduceToNat, Int.reduceNeg, n1, n2, n3, n4, neg_spec, bs22i]
      refine .mk ⟨hput4 _ _ _, ?_⟩
      exact ChgAt.made 5 2 (by simp only [put_next, new_next]; omega) (by simp) rfl rfl
    · by_cases h15 : jo = 15
      · subst h15
        have hu : unaryP ⟨1, inn, im⟩ ⟨15, jn, jm⟩ = ⟨5, 2, [pushI (truthI (decide (inn = 0)))]⟩ := by simp [unaryP]
        rw [hu]
        by_cases h0 : inn = 0
        · rw [decide_eq_true h0]
          simp -implicitDefEqProofs only [go_sem, Nat.reduceAdd, Nat.reduceMul, Nat.reduceLT, Nat.reduceLeDiff, Nat.reduceEqDiff, Nat.reduceBEq, reduceCtorEq, Int.reduceLT, Int.reduceLE, Int.reduceEq, Int.reduceGT, Int.reduceGE, Int.reduceToNat, Int.reduceNeg, n1, n2, n3, n4, decide_eq_true h0, bs22i]
          refine .mk ⟨hput4 _ _ _, ?_⟩
          exact ChgAt.made 5 2 (by simp only [put_next, new_next]; omega) (by simp) rfl rfl
        · rw [decide_eq_false h0]
          simp -implicitDefEqProofs only [go_sem, Nat.reduceAdd, Nat.reduceMul, Nat.reduceLT, Nat.reduceLeDiff, Nat.reduceEqDiff, Nat.reduceBEq, reduceCtorEq, Int.reduceLT, Int.reduceLE, Int.reduceEq, Int.reduceGT, Int.reduceGE, Int.reduceToNat, Int.reduceNeg, n1, n2, n3, n4, decide_eq_false h0, bs22i]
          refine .mk ⟨hput4 _ _ _, ?_⟩
          exact ChgAt.made 5 2 (by simp only [put_next, new_next]; omega) (by simp) rfl rfl
      · rw [no (fun h => h16 h.2) (fun h => h15 h.2)]
        simp -implicitDefEqProofs only [go_sem, Nat.reduceAdd, Nat.reduceMul, Nat.reduceLT, Nat.reduceLeDiff, Nat.reduceEqDiff, Nat.reduceBEq, reduceCtorEq, Int.reduceLT, Int.reduceLE, Int.reduceEq, Int.reduceGT, Int.reduceGE, Int.reduceToNat, Int.reduceNeg, n1, n2, n3, n4, decide_eq_false h16, decide_eq_false h15, F105_J0]
        exact .mk ⟨hput _, ChgAt.none _ _ 0 0⟩
  · rw [no (fun h => h1 h.1) (fun h => h1 h.1)]
    simp -implicitDefEqProofs only [go_sem, Nat.reduceAdd, Nat.reduceMul, Nat.reduceLT, Nat.reduceLeDiff, Nat.reduceEqDiff, Nat.reduceBEq, reduceCtorEq, Int.reduceLT, Int.reduceLE, Int.reduceEq, Int.reduceGT, Int.reduceGE, Int.reduceToNat, Int.reduceNeg, n1, n2, n3, n4, decide_eq_false h1, F105_J0]
    exact .mk ⟨hput _, ChgAt.none _ _ 0 0⟩
end Go.Proofs.YthiflgncldmkjaaDoor
set_option linter.unusedVariables false
set_option linter.unusedSimpArgs false
set_option maxRecDepth 100000
namespace Go.Proofs.YthiflgncldmkjaaDoor
open Go.Ri

theorem add_spec (d : Nat) (a b : Int) (H : AH) : RT (d + 1) 125 [.int .i64 a, .int .i64 b] H = some (.int .i64 (IntKind.i64.wrap (a + b)), H) := by
  rw [R125]
  unfold F125
  simp -implicitDefEqProofs only [go_sem, Nat.reduceAdd, Nat.reduceMul, Nat.reduceLT, Nat.reduceLeDiff, Nat.reduceEqDiff, Nat.reduceBEq, reduceCtorEq, Int.reduceLT, Int.reduceLE, Int.reduceEq, Int.reduceGT, Int.reduceGE, Int.reduceToNat, Int.reduceNeg]
theorem subp_spec (d : Nat) (a b : Int) (H : AH) : RT (d + 1) 126 [.int .i64 a, .int .i64 b] H = some (.int .i64 (IntKind.i64.wrap (a - b)), H) := by
  rw [R126]
  unfold F126
  simp -implicitDefEqProofs only [go_sem, Nat.reduceAdd, Nat.reduceMul, Nat.reduceLT, Nat.reduceLeDiff, Nat.reduceEqDiff, Nat.reduceBEq, reduceCtorEq, Int.reduceLT, Int.reduceLE, Int.reduceEq, Int.reduceGT, Int.reduceGE, Int.reduceToNat, Int.reduceNeg]
theorem mul_spec (d : Nat) (a b : Int) (H : AH) : RT (d + 1) 127 [.int .i64 a, .int .i64 b] H = some (.int .i64 (IntKind.i64.wrap (a * b)), H) := by
  rw [R127]
  unfold F127
  simp -implicitDefEqProofs only [go_sem, Nat.reduceAdd, Nat.reduceMul, Nat.reduceLT, Nat.reduceLeDiff, Nat.reduceEqDiff, Nat.reduceBEq, reduceCtorEq, Int.reduceLT, Int.reduceLE, Int.reduceEq, Int.reduceGT, Int.reduceGE, Int.reduceToNat, Int.reduceNeg]
theorem div_spec (d : Nat) (a b : Int) (H : AH) : RT (d + 1) 128 [.int .i64 a, .int .i64 b] H = some (if b = 0 then .tuple [.int .i64 0, .int .i64 11] else .tuple [.int .i64 (IntKind.i64.wrap (a.tdiv b)), .int .i64 0], H) := by
  rw [R128]
  unfold F128
  by_cases h : b = 0
  · simp -implicitDefEqProofs only [go_sem, Nat.reduceAdd, Nat.reduceMul, Nat.reduceLT, Nat.reduceLeDiff, Nat.reduceEqDiff, Nat.reduceBEq, reduceCtorEq, Int.reduceLT, Int.reduceLE, Int.reduceEq, Int.reduceGT, Int.reduceGE, Int.reduceToNat, Int.reduceNeg, decide_eq_true h, if_pos h]
  · have hq := aBin_quo Tryd.prog 2 .i64 a b h
    simp -implicitDefEqProofs only [go_sem, Nat.reduceAdd, Nat.reduceMul, Nat.reduceLT, Nat.reduceLeDiff, Nat.reduceEqDiff, Nat.reduceBEq, reduceCtorEq, Int.reduceLT, Int.reduceLE, Int.reduceEq, Int.reduceGT, Int.reduceGE, Int.reduceToNat, Int.reduceNeg, decide_eq_false h, if_neg h, hq]
theorem mod_spec (d : Nat) (a b : Int) (H : AH) : RT (d + 1) 129 [.int .i64 a, .int .i64 b] H = some (if b = 0 then .tuple [.int .i64 0, .int .i64 11] else .tuple [.int .i64 (a.tmod b), .int .i64 0], H) := by
  rw [R129]
  unfold F129
  by_cases h : b = 0
  · simp -implicitDefEqProofs only [go_sem, Nat.reduceAdd, Nat.reduceMul, Nat.reduceLT, Nat.reduceLeDiff, Nat.reduceEqDiff, Nat.reduceBEq, reduceCtorEq, Int.reduceLT, Int.reduceLE, Int.reduceEq, Int.reduceGT, Int.reduceGE, Int.reduceToNat, Int.reduceNeg, decide_eq_true h, if_pos h]
  · have hq := aBin_rem Tryd.prog 2 .i64 a b h
    simp -implicitDefEqProofs only [go_sem, Nat.reduceAdd, Nat.reduceMul, Nat.reduceLT, Nat.reduceLeDiff, Nat.reduceEqDiff, Nat.reduceBEq, reduceCtorEq, Int.reduceLT, Int.reduceLE, Int.reduceEq, Int.reduceGT, Int.reduceGE, Int.reduceToNat, Int.reduceNeg, decide_eq_false h, if_neg h, hq]
theorem truth2_spec (d : Nat) (b : Bool) (H : AH) : RT (d + 1) 136 [.bool b] H = some (.tuple [.int .i64 (truthI b), .bool true], H) := by
  rw [R136]
  unfold F136
  cases b
  · simp -implicitDefEqProofs only [go_sem, Nat.reduceEqDiff, Nat.reduceBEq, reduceCtorEq]
    rfl
  · simp -implicitDefEqProofs only [go_sem, Nat.reduceEqDiff, Nat.reduceBEq, reduceCtorEq]
    rfl
theorem callV_at (call : CallF) (f : Nat) (v : AV) (H : AH) : callV call (.func f []) [v] H = call f [v] H := rfl
theorem two_spec (d : Nat) (op a b : Int) (H : AH) : Ret (RT (d + 2) 124 [.int .i64 op, .int .i64 a, .int .i64 b] H) fun r => r.2 = H ∧ ((∃ x, leftP op a b = some x ∧ r.1 = .tuple [.int .i64 x, .bool true]) ∨ (leftP op a b = none ∧ ∃ y, r.1 = .tuple [.int .i64 y, .bool false])) := by
  rw [R124]
  unfold F124
  by_cases h7 : op = 7
  · subst h7
    simp -implicitDefEqProofs only [go_sem, Nat.reduceAdd, Nat.reduceMul, Nat.reduceLT, Nat.reduceLeDiff, Nat.reduceEqDiff, Nat.reduceBEq, reduceCtorEq, Int.reduceLT, Int.reduceLE, Int.reduceEq, Int.reduceGT, Int.reduceGE, Int.reduceToNat, Int.reduceNeg, add_spec]
    exact .mk ⟨rfl, .inl ⟨_, rfl, rfl⟩⟩
  by_cases h8 : op = 8
  · subst h8
    simp -implicitDefEqProofs only [go_sem, Nat.reduceAdd, Nat.reduceMul, Nat.reduceLT, Nat.reduceLeDiff, Nat.reduceEqDiff, Nat.reduceBEq, reduceCtorEq, Int.reduceLT, Int.reduceLE, Int.reduceEq, Int.reduceGT, Int.reduceGE, Int.reduceToNat, Int.reduceNeg, subp_spec]
    exact .mk ⟨rfl, .inl ⟨_, rfl, rfl⟩⟩
  by_cases h9 : op = 9
  · subst h9
    simp -implicitDefEqProofs only [go_sem, Nat.reduceAdd, Nat.reduceMul, Nat.reduceLT, Nat.reduceLeDiff, Nat.reduceEqDiff, Nat.reduceBEq, reduceCtorEq, Int.reduceLT, Int.reduceLE, Int.reduceEq, Int.reduceGT, Int.reduceGE, Int.reduceToNat, Int.reduceNeg, mul_spec]
    exact .mk ⟨rfl, .inl ⟨_, rfl, rfl⟩⟩
  by_cases h10 : op = 10
  · subst h10
    by_cases hb : b = 0
    · simp -implicitDefEqProofs only [go_sem, Nat.reduceAdd, Nat.reduceMul, Nat.reduceLT, Nat.reduceLeDiff, Nat.reduceEqDiff, Nat.reduceBEq, reduceCtorEq, Int.reduceLT, Int.reduceLE, Int.reduceEq, Int.reduceGT, Int.reduceGE, Int.reduceToNat, Int.reduceNeg, div_spec, if_pos hb]
      exact .mk ⟨rfl, .inr ⟨by simp [leftP, hb], _, rfl⟩⟩
    · simp -implicitDefEqProofs only [go_sem, Nat.reduceAdd, Nat.reduceMul, Nat.reduceLT, Nat.reduceLeDiff, Nat.reduceEqDiff, Nat.reduceBEq, reduceCtorEq, Int.reduceLT, Int.reduceLE, Int.reduceEq, Int.reduceGT, Int.reduceGE, Int.reduceToNat, Int.reduceNeg, div_spec, if_neg hb]
      exact .mk ⟨rfl, .inl ⟨_, by simp [leftP, hb], rfl⟩⟩
  by_cases h11 : op = 11
  · subst h11
    by_cases hb : b = 0
    · simp -implicitDefEqProofs only [go_sem, Nat.reduceAdd, Nat.reduceMul, Nat.reduceLT, Nat.reduceLeDiff, Nat.reduceEqDiff, Nat.reduceBEq, reduceCtorEq, Int.reduceLT, Int.reduceLE, Int.reduceEq, Int.reduceGT, Int.reduceGE, Int.reduceToNat, Int.reduceNeg, mod_spec, if_pos hb]
      exact .mk ⟨rfl, .inr ⟨by simp [leftP, hb], _, rfl⟩⟩
    · simp -implicitDefEqProofs only [go_sem, Nat.reduceAdd, Nat.reduceMul, Nat.reduceLT, Nat.reduceLeDiff, Nat.reduceEqDiff, Nat.reduceBEq, reduceCtorEq, Int.reduceLT, Int.reduceLE, Int.reduceEq, Int.reduceGT, Int.reduceGE, Int.reduceToNat, Int.reduceNeg, mod_spec, if_neg hb]
      exact .mk ⟨rfl, .inl ⟨_, by simp [leftP, hb], rfl⟩⟩
  by_cases h12 : op = 12
  · subst h12
    simp -implicitDefEqProofs only [go_sem, Nat.reduceAdd, Nat.reduceMul, Nat.reduceLT, Nat.reduceLeDiff, Nat.reduceEqDiff, Nat.reduceBEq, reduceCtorEq, Int.reduceLT, Int.reduceLE, Int.reduceEq, Int.reduceGT, Int.reduceGE, Int.reduceToNat, Int.reduceNeg, callV_at, truth2_spec]
    exact .mk ⟨rfl, .inl ⟨_, rfl, rfl⟩⟩
  by_cases h13 : op = 13
  · subst h13
    simp -implicitDefEqProofs only [go_sem, Nat.reduceAdd, Nat.reduceMul, Nat.reduceLT, Nat.reduceLeDiff, Nat.reduceEqDiff, Nat.reduceBEq, reduceCtorEq, Int.reduceLT, Int.reduceLE, Int.reduceEq, Int.reduceGT, Int.reduceGE, Int.reduceToNat, Int.reduceNeg, callV_at, truth2_spec]
    exact .mk ⟨rfl, .inl ⟨_, rfl, rfl⟩⟩
  by_cases h14 : op = 14
  · subst h14
    simp -implicitDefEqProofs only [go_sem, Nat.reduceAdd, Nat.reduceMul, Nat.reduceLT, Nat.reduceLeDiff, Nat.reduceEqDiff, Nat.reduceBEq, reduceCtorEq, Int.reduceLT, Int.reduceLE, Int.reduceEq, Int.reduceGT, Int.reduceGE, Int.reduceToNat, Int.reduceNeg, callV_at, truth2_spec]
    exact .mk ⟨rfl, .inl ⟨_, rfl, rfl⟩⟩
  simp -implicitDefEqProofs only [go_sem, Nat.reduceAdd, Nat.reduceMul, Nat.reduceLT, Nat.reduceLeDiff, Nat.reduceEqDiff, Nat.reduceBEq, reduceCtorEq, Int.reduceLT, Int.reduceLE, Int.reduceEq, Int.reduceGT, Int.reduceGE, Int.reduceToNat, Int.reduceNeg, decide_eq_false h7, decide_eq_false h8, decide_eq_false h9, decide_eq_false h10, decide_eq_false h11, decide_eq_false h12, decide_eq_false h13, decide_eq_false h14]
  exact .mk ⟨rfl, .inr ⟨by simp [leftP, h7, h8, h9, h10, h11, h12, h13, h14], _, rfl⟩⟩

theorem idle_spec (d : Nat) {H : AH} (hw : H.wf) (i j : Ins) : Ret (RT (d + 1) 107 [.agg (insC i), .agg (insC j)] H) fun r => Ext H.next H r.2 ∧ r.1 = .int .i64 (idleP i j : Nat) := by
  rw [R107]
  unfold F107
  obtain ⟨io, inn, im⟩ := i
  obtain ⟨jo, jn, jm⟩ := j
  have hi : ∀ a b c, insC ⟨a, b, c⟩ = [.int .i64 a, .int .i64 b, .int .i64 c] := fun _ _ _ => rfl
  have hx : Ext H.next H ((H.new (insC ⟨io, inn, im⟩) 29).new (insC ⟨jo, jn, jm⟩) 29) := ((Ext.refl hw).new _ _).new _ _
  rw [hi, hi] at *
  have n2 : ¬ H.next = H.next + 1 := by omega
  unfold idleP
  simp only
  by_cases h1 : io = 1
  · subst h1
    by_cases h25 : jo = 25
    · subst h25
      simp -implicitDefEqProofs only [go_sem, Nat.reduceAdd, Nat.reduceMul, Nat.reduceLT, Nat.reduceLeDiff, Nat.reduceEqDiff, Nat.reduceBEq, reduceCtorEq, Int.reduceLT, Int.reduceLE, Int.reduceEq, Int.reduceGT, Int.reduceGE, Int.reduceToNat, Int.reduceNeg, n2]
      exact .mk ⟨hx, rfl⟩
    by_cases h0 : inn = 0
    · subst h0
      by_cases h7 : jo = 7
      · subst h7
        simp -implicitDefEqProofs only [go_sem, Nat.reduceAdd, Nat.reduceMul, Nat.reduceLT, Nat.reduceLeDiff, Nat.reduceEqDiff, Nat.reduceBEq, reduceCtorEq, Int.reduceLT, Int.reduceLE, Int.reduceEq, Int.reduceGT, Int.reduceGE, Int.reduceToNat, Int.reduceNeg, n2]
        exact .mk ⟨hx, rfl⟩
      by_cases h8 : jo = 8
      · subst h8
        simp -implicitDefEqProofs only [go_sem, Nat.reduceAdd, Nat.reduceMul, Nat.reduceLT, Nat.reduceLeDiff, Nat.reduceEqDiff, Nat.reduceBEq, reduceCtorEq, Int.reduceLT, Int.reduceLE, Int.reduceEq, Int.reduceGT, Int.reduceGE, Int.reduceToNat, Int.reduceNeg, n2]
        exact .mk ⟨hx, rfl⟩
      simp -implicitDefEqProofs only [go_sem, Nat.reduceAdd, Nat.reduceMul, Nat.reduceLT, Nat.reduceLeDiff, Nat.reduceEqDiff, Nat.reduceBEq, reduceCtorEq, Int.reduceLT, Int.reduceLE, Int.reduceEq, Int.reduceGT, Int.reduceGE, Int.reduceToNat, Int.reduceNeg, n2, decide_eq_false h25, decide_eq_false h7, decide_eq_false h8]
      exact .mk ⟨hx, by simp [h25, h7, h8]⟩
    · by_cases h01 : inn = 1
      · subst h01
        by_cases h9 : jo = 9
        · subst h9
          simp -implicitDefEqProofs only [go_sem, Nat.reduceAdd, Nat.reduceMul, Nat.reduceLT, Nat.reduceLeDiff, Nat.reduceEqDiff, Nat.reduceBEq, reduceCtorEq, Int.reduceLT, Int.reduceLE, Int.reduceEq, Int.reduceGT, Int.reduceGE, Int.reduceToNat, Int.reduceNeg, n2]
          exact .mk ⟨hx, rfl⟩
        by_cases h10 : jo = 10
        · subst h10
          simp -implicitDefEqProofs only [go_sem, Nat.reduceAdd, Nat.reduceMul, Nat.reduceLT, Nat.reduceLeDiff, Nat.reduceEqDiff, Nat.reduceBEq, reduceCtorEq, Int.reduceLT, Int.reduceLE, Int.reduceEq, Int.reduceGT, Int.reduceGE, Int.reduceToNat, Int.reduceNeg, n2]
          exact .mk ⟨hx, rfl⟩
        simp -implicitDefEqProofs only [go_sem, Nat.reduceAdd, Nat.reduceMul, Nat.reduceLT, Nat.reduceLeDiff, Nat.reduceEqDiff, Nat.reduceBEq, reduceCtorEq, Int.reduceLT, Int.reduceLE, Int.reduceEq, Int.reduceGT, Int.reduceGE, Int.reduceToNat, Int.reduceNeg, n2, decide_eq_false h25, decide_eq_false h9, decide_eq_false h10]
        exact .mk ⟨hx, by simp [h25, h9, h10]⟩
      · simp -implicitDefEqProofs only [go_sem, Nat.reduceAdd, Nat.reduceMul, Nat.reduceLT, Nat.reduceLeDiff, Nat.reduceEqDiff, Nat.reduceBEq, reduceCtorEq, Int.reduceLT, Int.reduceLE, Int.reduceEq, Int.reduceGT, Int.reduceGE, Int.reduceToNat, Int.reduceNeg, n2, decide_eq_false h25, decide_eq_false h0, decide_eq_false h01]
        exact .mk ⟨hx, by simp [h25, h0, h01]⟩
  · by_cases h2 : io = 2
    · subst h2
      by_cases h25 : jo = 25
      · subst h25
        simp -implicitDefEqProofs only [go_sem, Nat.reduceAdd, Nat.reduceMul, Nat.reduceLT, Nat.reduceLeDiff, Nat.reduceEqDiff, Nat.reduceBEq, reduceCtorEq, Int.reduceLT, Int.reduceLE, Int.reduceEq, Int.reduceGT, Int.reduceGE, Int.reduceToNat, Int.reduceNeg, n2]
        exact .mk ⟨hx, rfl⟩
      by_cases h3 : jo = 3
      · subst h3
        by_cases he : inn = jn
        · simp -implicitDefEqProofs only [go_sem, Nat.reduceAdd, Nat.reduceMul, Nat.reduceLT, Nat.reduceLeDiff, Nat.reduceEqDiff, Nat.reduceBEq, reduceCtorEq, Int.reduceLT, Int.reduceLE, Int.reduceEq, Int.reduceGT, Int.reduceGE, Int.reduceToNat, Int.reduceNeg, n2, decide_eq_true he]
          exact .mk ⟨hx, by simp [he]⟩
        · simp -implicitDefEqProofs only [go_sem, Nat.reduceAdd, Nat.reduceMul, Nat.reduceLT, Nat.reduceLeDiff, Nat.reduceEqDiff, Nat.reduceBEq, reduceCtorEq, Int.reduceLT, Int.reduceLE, Int.reduceEq, Int.reduceGT, Int.reduceGE, Int.reduceToNat, Int.reduceNeg, n2, decide_eq_false he]
          exact .mk ⟨hx, by simp [he]⟩
      · simp -implicitDefEqProofs only [go_sem, Nat.reduceAdd, Nat.reduceMul, Nat.reduceLT, Nat.reduceLeDiff, Nat.reduceEqDiff, Nat.reduceBEq, reduceCtorEq, Int.reduceLT, Int.reduceLE, Int.reduceEq, Int.reduceGT, Int.reduceGE, Int.reduceToNat, Int.reduceNeg, n2, decide_eq_false h25, decide_eq_false h3]
        exact .mk ⟨hx, by simp [h25, h3]⟩
    · simp -implicitDefEqProofs only [go_sem, Nat.reduceAdd, Nat.reduceMul, Nat.reduceLT, Nat.reduceLeDiff, Nat.reduceEqDiff, Nat.reduceBEq, reduceCtorEq, Int.reduceLT, Int.reduceLE, Int.reduceEq, Int.reduceGT, Int.reduceGE, Int.reduceToNat, Int.reduceNeg, n2, decide_eq_false h1, decide_eq_false h2]
      exact .mk ⟨hx, by simp [h1, h2]⟩
theorem chg_eq {N : Nat} {H : AH} {v : AV} {c c' : Chg} (e : c = c') (h : ChgAt N H v c') : ChgAt N H v c := e ▸ h
theorem rest_spec (d : Nat) {H : AH} (hw : H.wf) {i j : Ins} (hiok : i.Ok) (hjok : j.Ok) (hsm : i.op = 6 → 0 ≤ i.n ∧ i.n ≤ 65536 ∧ 0 ≤ i.m ∧ i.m ≤ 64) (hsmj : j.op = 6 → 0 ≤ j.m ∧ j.m ≤ 64) : Ret (RT (d + 1) 108 [.agg (insC i), .agg (insC j)] H) fun r => Ext H.next H r.2 ∧ ChgAt H.next r.2 r.1 (restP i j) := by
  rw [R108]
  unfold F108
  obtain ⟨io, inn, im⟩ := i
  obtain ⟨jo, jn, jm⟩ := j
  have hi : ∀ a b c, insC ⟨a, b, c⟩ = [.int .i64 a, .int .i64 b, .int .i64 c] := fun _ _ _ => rfl
  have hx3 : Ext H.next H (((H.new (insC ⟨io, inn, im⟩) 29).new (insC ⟨jo, jn, jm⟩) 29).new [.int .i64 0, .int .i64 0, .slice none 0 (.kn 0)] 108) := (((Ext.refl hw).new _ _).new _ _).new _ _
  rw [hi, hi] at *
  simp only at hsm hsmj
  have n1 : ¬ H.next = H.next + 1 + 1 := by omega
  have n2 : ¬ H.next = H.next + 1 := by omega
  have n3 : ¬ H.next + 1 = H.next + 1 + 1 := by omega
  have n4 : ¬ H.next + 1 + 1 = H.next + 1 + 1 + 1 := by omega
  have hput := fun B => hx3.put (b := H.next + 1 + 1) (by omega) (by simp) B
  have hx4 := fun cs e => hx3.new cs e
  have hput4 := fun cs e B => (hx4 cs e).put (b := H.next + 1 + 1) (by omega) (by simp) B
  have no : restP ⟨io, inn, im⟩ ⟨jo, jn, jm⟩ = ⟨0, 0, []⟩ → ChgAt H.next ((((H.new [.int .i64 io, .int .i64 inn, .int .i64 im] 29).new [.int .i64 jo, .int .i64 jn, .int .i64 jm] 29).new [.int .i64 0, .int .i64 0, .slice none 0 (.kn 0)] 108).put (H.next + 1 + 1) ⟨[.int .i64 0, .int .i64 0, .slice none 0 (.kn 0)], 108, true⟩) (.agg [.int .i64 0, .int .i64 0, .slice none 0 (.kn 0)]) (restP ⟨io, inn, im⟩ ⟨jo, jn, jm⟩) := fun e => chg_eq e (ChgAt.none _ _ 0 0)
  by_cases h1 : io = 1
  · subst h1
    by_cases h18 : jo = 18
    · subst h18
      by_cases h0 : inn = 0
      · subst h0
        simp -implicitDefEqProofs only [go_sem, Nat.reduceAdd, Nat.reduceMul, Nat.reduceLT, Nat.reduceLeDiff, Nat.reduceEqDiff, Nat.reduceBEq, reduceCtorEq, Int.reduceLT, Int.reduceLE, Int.reduceEq, Int.reduceGT, Int.reduceGE, Int.reduceToNat, Int.reduceNeg, n1, n2, n3, n4, bs22i]
        refine .mk ⟨hput4 _ _ _, ?_⟩
        have e : restP ⟨1, 0, im⟩ ⟨18, jn, jm⟩ = ⟨10, 2, [⟨17, jn, 0⟩]⟩ := by simp [restP]
        exact chg_eq e (ChgAt.made 10 2 (by simp only [put_next, new_next]; omega) (by simp) rfl rfl)
      · simp -implicitDefEqProofs only [go_sem, Nat.reduceAdd, Nat.reduceMul, Nat.reduceLT, Nat.reduceLeDiff, Nat.reduceEqDiff, Nat.reduceBEq, reduceCtorEq, Int.reduceLT, Int.reduceLE, Int.reduceEq, Int.reduceGT, Int.reduceGE, Int.reduceToNat, Int.reduceNeg, n1, n2, n3, n4, decide_eq_false h0]
        refine .mk ⟨hput _, ?_⟩
        have e : restP ⟨1, inn, im⟩ ⟨18, jn, jm⟩ = ⟨10, 2, []⟩ := by simp [restP, h0]
        exact chg_eq e (ChgAt.none _ _ 10 2)
    · by_cases h0 : inn = 0
      · subst h0
        simp -implicitDefEqProofs only [go_sem, Nat.reduceAdd, Nat.reduceMul, Nat.reduceLT, Nat.reduceLeDiff, Nat.reduceEqDiff, Nat.reduceBEq, reduceCtorEq, Int.reduceLT, Int.reduceLE, Int.reduceEq, Int.reduceGT, Int.reduceGE, Int.reduceToNat, Int.reduceNeg, n1, n2, n3, n4, decide_eq_false h18]
        exact .mk ⟨hput _, no (by simp [restP, h18])⟩
      · by_cases h23 : jo = 23
        · subst h23
          simp -implicitDefEqProofs only [go_sem, Nat.reduceAdd, Nat.reduceMul, Nat.reduceLT, Nat.reduceLeDiff, Nat.reduceEqDiff, Nat.reduceBEq, reduceCtorEq, Int.reduceLT, Int.reduceLE, Int.reduceEq, Int.reduceGT, Int.reduceGE, Int.reduceToNat, Int.reduceNeg, n1, n2, n3, n4, decide_eq_false h0]
          refine .mk ⟨hput _, ?_⟩
          have e : restP ⟨1, inn, im⟩ ⟨23, jn, jm⟩ = ⟨11, 2, []⟩ := by simp [restP, h0]
          exact chg_eq e (ChgAt.none _ _ 11 2)
        · simp -implicitDefEqProofs only [go_sem, Nat.reduceAdd, Nat.reduceMul, Nat.reduceLT, Nat.reduceLeDiff, Nat.reduceEqDiff, Nat.reduceBEq, reduceCtorEq, Int.reduceLT, Int.reduceLE, Int.reduceEq, Int.reduceGT, Int.reduceGE, Int.reduceToNat, Int.reduceNeg, n1, n2, n3, n4, decide_eq_false h18, decide_eq_false h0, decide_eq_false h23]
          exact .mk ⟨hput _, no (by simp [restP, h18, h23])⟩
  · by_cases h6 : io = 6
    · subst h6
      have hs := hsm rfl
      by_cases j6 : jo = 6
      · subst j6
        have hsj := hsmj rfl
        have hw1 : IntKind.i64.wrap (inn + im) = inn + im := wrap_id (by unfold InI; omega)
        have hw2 : IntKind.i64.wrap (im + jm) = im + jm := wrap_id (by unfold InI; omega)
        by_cases he : jn = inn + im
        · by_cases h64 : im + jm ≤ 64
          · simp -implicitDefEqProofs only [go_sem, Nat.reduceAdd, Nat.reduceMul, Nat.reduceLT, Nat.reduceLeDiff, Nat.reduceEqDiff, Nat.reduceBEq, reduceCtorEq, Int.reduceLT, Int.reduceLE, Int.reduceEq, Int.reduceGT, Int.reduceGE, Int.reduceToNat, Int.reduceNeg, n1, n2, n3, n4, hw1, decide_eq_true he, hw2, decide_eq_true h64, bs22i]
            refine .mk ⟨hput4 _ _ _, ?_⟩
            have e : restP ⟨6, inn, im⟩ ⟨6, jn, jm⟩ = ⟨12, 2, [⟨6, inn, im + jm⟩]⟩ := by
              unfold restP
              rw [if_neg (fun h => absurd h.1 (by simp)), if_neg (fun h => absurd h.1 (by simp)), if_neg (fun h => absurd h.1 (by simp)), if_pos ⟨rfl, rfl, he, h64⟩]
            exact chg_eq e (ChgAt.made 12 2 (by simp only [put_next, new_next]; omega) (by simp) rfl rfl)
          · simp -implicitDefEqProofs only [go_sem, Nat.reduceAdd, Nat.reduceMul, Nat.reduceLT, Nat.reduceLeDiff, Nat.reduceEqDiff, Nat.reduceBEq, reduceCtorEq, Int.reduceLT, Int.reduceLE, Int.reduceEq, Int.reduceGT, Int.reduceGE, Int.reduceToNat, Int.reduceNeg, n1, n2, n3, n4, hw1, decide_eq_true he, hw2, decide_eq_false h64]
            exact .mk ⟨hput _, no (by simp [restP, h64])⟩
        · simp -implicitDefEqProofs only [go_sem, Nat.reduceAdd, Nat.reduceMul, Nat.reduceLT, Nat.reduceLeDiff, Nat.reduceEqDiff, Nat.reduceBEq, reduceCtorEq, Int.reduceLT, Int.reduceLE, Int.reduceEq, Int.reduceGT, Int.reduceGE, Int.reduceToNat, Int.reduceNeg, n1, n2, n3, n4, hw1, decide_eq_false he]
          exact .mk ⟨hput _, no (by simp [restP, he])⟩
      · simp -implicitDefEqProofs only [go_sem, Nat.reduceAdd, Nat.reduceMul, Nat.reduceLT, Nat.reduceLeDiff, Nat.reduceEqDiff, Nat.reduceBEq, reduceCtorEq, Int.reduceLT, Int.reduceLE, Int.reduceEq, Int.reduceGT, Int.reduceGE, Int.reduceToNat, Int.reduceNeg, n1, n2, n3, n4, decide_eq_false j6]
        exact .mk ⟨hput _, no (by simp [restP, j6])⟩
    · simp -implicitDefEqProofs only [go_sem, Nat.reduceAdd, Nat.reduceMul, Nat.reduceLT, Nat.reduceLeDiff, Nat.reduceEqDiff, Nat.reduceBEq, reduceCtorEq, Int.reduceLT, Int.reduceLE, Int.reduceEq, Int.reduceGT, Int.reduceGE, Int.reduceToNat, Int.reduceNeg, n1, n2, n3, n4, decide_eq_false h1, decide_eq_false h6]
      exact .mk ⟨hput _, no (by simp [restP, h1, h6])⟩
end Go.Proofs.YthiflgncldmkjaaDoor
set_option linter.unusedVariables false
set_option linter.unusedSimpArgs false
set_option maxRecDepth 100000
namespace Go.Proofs.YthiflgncldmkjaaDoor
open Go.Ri

def BoolRow (H : AH) (v : AV) (l : List Bool) : Prop := Row H v 1 (l.map fun b => [.bool b])
theorem BoolRow.at {H : AH} {v : AV} {l : List Bool} (h : BoolRow H v l) {i : Nat} (hi : i < l.length) : ∃ p, (∀ k, idxSl v (.int k (i : Nat)) 1 = some (.ptr (some p))) ∧ ldOne (.ptr (some p)) H = some (.bool l[i]) := by
  obtain ⟨b, o, h1, _, h3⟩ := Row.at h (i := i) (by simpa using hi)
  have := h3 0 (by omega)
  simp only [List.getElem_map, Nat.add_zero, List.getElem?_cons_zero] at this
  exact ⟨(b, o), h1, this⟩
def CapOk (s : AV) : Prop := ∃ p n c, s = .slice (some p) n c ∧ (c = .op 3 ∨ ∃ m, c = .kn m ∧ n ≤ m)
def bAt (l : List Bool) (i : Nat) : Bool := (l[i]?).getD false
structure Sight (H : AH) (k : Nat) (s : AV) (L : List Ins) (R T : List Bool) : Prop where
  blk : ∃ r t, H.m k = some ⟨[s, r, t], 148, true⟩ ∧ BoolRow H r R ∧ BoolRow H t T
  row : Row H s 3 (L.map insC)
  cap : CapOk s
  lenR : R.length = L.length
  lenT : T.length = L.length
theorem Sight.mono {H H' : AH} {k : Nat} {s : AV} {L : List Ins} {R T : List Bool} (h : Sight H k s L R T) (hs : H.sub H') : Sight H' k s L R T := by
  obtain ⟨r, t, h1, h2, h3⟩ := h.blk
  exact ⟨⟨r, t, hs _ _ h1, Row.mono h2 hs, Row.mono h3 hs⟩, h.row.mono hs, h.cap, h.lenR, h.lenT⟩
theorem Sight.alen {H : AH} {k : Nat} {s : AV} {L : List Ins} {R T : List Bool} (h : Sight H k s L R T) : aLen Tryd.prog 22 s = some (.int .i64 (L.length : Nat)) := by
  rw [h.row.alen ysl22.under, List.length_map]
theorem Sight.ins {H : AH} {k : Nat} {s : AV} {L : List Ins} {R T : List Bool} (h : Sight H k s L R T) {i : Nat} (hi : i < L.length) :
    ∃ b o, (∀ kd, idxSl s (.int kd (i : Nat)) 3 = some (.ptr (some (b, o)))) ∧ ldAgg (.ptr (some (b, o))) 3 H = some (.agg (insC L[i])) := by
  obtain ⟨b, o, e1, e2, _⟩ := h.row.at (i := i) (by simpa using hi)
  simp only [List.getElem_map] at e2
  exact ⟨b, o, e1, e2⟩

theorem Row.sub_cut {H : AH} {s : AV} {k : Nat} {l : List (List AV)} (h : Row H s k l) (hc : ∃ p n c, s = .slice (some p) n c ∧ (c = .op k ∨ ∃ m, c = .kn m ∧ n ≤ m)) {a n : Nat} (hn : 0 < n) (ha : a + n ≤ l.length) :
    ∃ p c, slSl s k (some (.int .i64 (a : Nat))) (some (.int .i64 ((a + n : Nat) : Int))) (some (.int .i64 ((a + n : Nat) : Int))) = some (.slice (some p) n c) ∧ Row H (.slice (some p) n c) k ((l.drop a).take n) := by
  obtain ⟨p, m, c, rfl, hcap⟩ := hc
  have hlen : ∀ x ∈ (l.drop a).take n, x.length = k := fun x hx => h.len x (List.mem_of_mem_drop (List.mem_of_mem_take hx))
  have hll : ((l.drop a).take n).length = n := by simp; omega
  rcases h.is with ⟨e, _⟩ | ⟨q, c', e, hr⟩
  · cases e
  · cases e
    rcases hr with rfl | ⟨b, o, B, e, hB, hle, hat⟩
    · simp at ha; omega
    · cases e
      have hmx : ∀ y : Nat, (a + n ≤ y) → bnd (.int .i64 ((a + n : Nat) : Int)) y = some (a + n) := fun y hy => bnd_nat .i64 hy
      have hb : bnds l.length c.known (some (.int .i64 (a : Nat))) (some (.int .i64 ((a + n : Nat) : Int))) (some (.int .i64 ((a + n : Nat) : Int))) = some (a, a + n, some (a + n)) := by
        unfold bnds
        simp only
        rw [hmx _ (by rcases hcap with rfl | ⟨m, rfl, hm⟩; simpa [Cap.known] using ha; simp [Cap.known]; omega)]
        simp only [Option.bind_some]
        rw [hmx _ (Nat.le_refl _)]
        simp only [Option.bind_some]
        rw [bnd_nat .i64 (by omega)]
        rfl
      rw [slSl_ptr _ _ _ _ _ _ _ (by rcases hcap with rfl | ⟨m, rfl, _⟩; exact .inl rfl; exact .inr rfl), hb]
      simp only [Option.bind_some, Option.some.injEq]
      have row : ∀ p c, p = (b, o + a * k) → Row H (.slice (some p) n c) k ((l.drop a).take n) := by
        rintro p c rfl
        refine ⟨hlen, .inr ⟨_, c, by rw [hll], .inr ⟨b, o + a * k, B, rfl, hB, ?_, fun i hi => ?_⟩⟩⟩
        · rw [hll]
          have : (a + n) * k ≤ l.length * k := Nat.mul_le_mul_right _ ha
          rw [Nat.add_mul] at this
          omega
        · rw [hll] at hi
          have := hat (a + i) (by omega)
          rw [Nat.add_mul, ← Nat.add_assoc] at this
          rw [this]
          simp
      unfold cutAt
      by_cases h0 : a = 0
      · subst h0
        rw [if_pos rfl]
        simp only [Nat.zero_add]
        exact ⟨_, _, rfl, row _ _ (by simp)⟩
      · rw [if_neg h0, if_pos (by omega)]
        rw [show a + n - a = n by omega]
        exact ⟨_, _, rfl, row _ _ rfl⟩

def partOk (T : List Bool) (L : List Ins) (a n : Nat) : Prop := a + n ≤ L.length ∧ ∀ j, 1 ≤ j → j < n → bAt T (a + j) = false
theorem part_spec (d : Nat) {H : AH} {k : Nat} {s : AV} {L : List Ins} {R T : List Bool} (S : Sight H k s L R T) {a n : Nat} (ha : a < L.length) (hn : 1 ≤ n) (hn3 : n ≤ 3) (hL : L.length ≤ 1000000) :
    Ret (RT (d + 1) 104 [.ptr (some (k, 0)), .int .i64 (a : Nat), .int .i64 (n : Nat)] H) fun r => r.2 = H ∧ ((partOk T L a n ∧ ∃ p c, r.1 = .slice (some p) n c ∧ Row H r.1 3 (((L.drop a).take n).map insC)) ∨ (¬ partOk T L a n ∧ r.1 = .slice none 0 (.kn 0))) := by
  rw [R104]
  unfold F104
  obtain ⟨r, t, hb, hR, hTr⟩ := S.blk
  have hsub : IntKind.i64.wrap (((L.length : Nat) : Int) - ((a : Nat) : Int)) = ((L.length - a : Nat) : Int) := by
    rw [wrap_id (by unfold InI; omega)]; omega
  by_cases hfit : a + n ≤ L.length
  · have hc : decide (((n : Nat) : Int) > ((L.length - a : Nat) : Int)) = false := decide_eq_false (by omega)
    simp -implicitDefEqProofs only [go_sem, Nat.reduceAdd, Nat.reduceMul, Nat.reduceLT, Nat.reduceLeDiff, Nat.reduceEqDiff, Nat.reduceBEq, reduceCtorEq, Int.reduceLT, Int.reduceLE, Int.reduceEq, Int.reduceGT, Int.reduceGE, Int.reduceToNat, Int.reduceNeg, hb, S.alen, hsub, hc]
    refine Ret.then (Q' := fun r => r.2.2 = H ∧ r.2.1 0 = .ptr (some (k, 0)) ∧ r.2.1 1 = .int .i64 (a : Nat) ∧ r.2.1 2 = .int .i64 (n : Nat) ∧ r.2.1 6 = .slice none 0 (.kn 0) ∧ ((r.1 = .exit 0 ∧ partOk T L a n) ∨ (r.1 = .ret ∧ ¬ partOk T L a n)))
      (Ret.upTo (n := n - 1) (fun i t => t.2 = H ∧ t.1 0 = .ptr (some (k, 0)) ∧ t.1 1 = .int .i64 (a : Nat) ∧ t.1 2 = .int .i64 (n : Nat) ∧ t.1 6 = .slice none 0 (.kn 0) ∧ t.1 7 = .int .i64 ((i + 1 : Nat) : Int) ∧ ∀ j, 1 ≤ j → j < i + 1 → bAt T (a + j) = false) (by unfold big; omega) ⟨rfl, ?_, ?_, ?_, ?_, ?_, fun j h1 h2 => by omega⟩ ?_ ?_) ?_
    · simp -implicitDefEqProofs only [go_sem, Nat.reduceEqDiff, Nat.reduceBEq, reduceCtorEq]
    · simp -implicitDefEqProofs only [go_sem, Nat.reduceEqDiff, Nat.reduceBEq, reduceCtorEq]
    · simp -implicitDefEqProofs only [go_sem, Nat.reduceEqDiff, Nat.reduceBEq, reduceCtorEq]
    · simp -implicitDefEqProofs only [go_sem, Nat.reduceEqDiff, Nat.reduceBEq, reduceCtorEq]
    · simp -implicitDefEqProofs only [go_sem, Nat.reduceEqDiff, Nat.reduceBEq, reduceCtorEq]
      rfl
    · rintro i ⟨T1, H1⟩ hi ⟨hH, t0, t1, t2, t6, t7, hdone⟩
      simp only at hH t0 t1 t2 t6 t7
      subst hH
      have hcmp : decide (((i + 1 : Nat) : Int) < ((n : Nat) : Int)) = true := decide_eq_true (by omega)
      have hw : IntKind.i64.wrap (((a : Nat) : Int) + ((i + 1 : Nat) : Int)) = ((a + (i + 1) : Nat) : Int) := by
        rw [wrap_id (by unfold InI; omega)]; omega
      have hlt : a + (i + 1) < T.length := by rw [S.lenT]; omega
      obtain ⟨p, e1, e2⟩ := hTr.at hlt
      have hba : bAt T (a + (i + 1)) = T[a + (i + 1)] := by unfold bAt; rw [List.getElem?_eq_getElem hlt]; rfl
      unfold F104_L0
      cases hv : T[a + (i + 1)]
      · rw [hv] at e2
        simp -implicitDefEqProofs only [go_sem, Nat.reduceAdd, Nat.reduceMul, Nat.reduceLT, Nat.reduceLeDiff, Nat.reduceEqDiff, Nat.reduceBEq, reduceCtorEq, Int.reduceLT, Int.reduceLE, Int.reduceEq, Int.reduceGT, Int.reduceGE, Int.reduceToNat, Int.reduceNeg, t0, t1, t2, t7, hcmp, hb, hw, e1, e2, wrapS (i := i + 1) (by omega)]
        refine .mk (.inl ⟨rfl, rfl, ?_, ?_, ?_, ?_, ?_, fun j h1 h2 => ?_⟩)
        · simp -implicitDefEqProofs only [go_sem, Nat.reduceEqDiff, Nat.reduceBEq, reduceCtorEq, t0]
        · simp -implicitDefEqProofs only [go_sem, Nat.reduceEqDiff, Nat.reduceBEq, reduceCtorEq, t1]
        · simp -implicitDefEqProofs only [go_sem, Nat.reduceEqDiff, Nat.reduceBEq, reduceCtorEq, t2]
        · simp -implicitDefEqProofs only [go_sem, Nat.reduceEqDiff, Nat.reduceBEq, reduceCtorEq, t6]
        · simp -implicitDefEqProofs only [go_sem, Nat.reduceEqDiff, Nat.reduceBEq, reduceCtorEq]
        · by_cases e : j = i + 1
          · subst e; rw [hba, hv]
          · exact hdone j h1 (by omega)
      · rw [hv] at e2
        simp -implicitDefEqProofs only [go_sem, Nat.reduceAdd, Nat.reduceMul, Nat.reduceLT, Nat.reduceLeDiff, Nat.reduceEqDiff, Nat.reduceBEq, reduceCtorEq, Int.reduceLT, Int.reduceLE, Int.reduceEq, Int.reduceGT, Int.reduceGE, Int.reduceToNat, Int.reduceNeg, t0, t1, t2, t7, hcmp, hb, hw, e1, e2]
        refine .mk (.inr ⟨by simp, rfl, ?_, ?_, ?_, ?_, .inr ⟨rfl, fun h => ?_⟩⟩)
        · simp -implicitDefEqProofs only [go_sem, Nat.reduceEqDiff, Nat.reduceBEq, reduceCtorEq, t0]
        · simp -implicitDefEqProofs only [go_sem, Nat.reduceEqDiff, Nat.reduceBEq, reduceCtorEq, t1]
        · simp -implicitDefEqProofs only [go_sem, Nat.reduceEqDiff, Nat.reduceBEq, reduceCtorEq, t2]
        · simp -implicitDefEqProofs only [go_sem, Nat.reduceEqDiff, Nat.reduceBEq, reduceCtorEq, t6]
        · have := h.2 (i + 1) (by omega) (by omega)
          rw [hba, hv] at this
          cases this
    · rintro ⟨T1, H1⟩ ⟨hH, t0, t1, t2, t6, t7, hdone⟩
      simp only at hH t0 t1 t2 t6 t7
      subst hH
      rw [show n - 1 + 1 = n by omega] at t7 hdone
      have hcmp : decide (((n : Nat) : Int) < ((n : Nat) : Int)) = false := decide_eq_false (by omega)
      unfold F104_L0
      simp -implicitDefEqProofs only [go_sem, Nat.reduceAdd, Nat.reduceMul, Nat.reduceLT, Nat.reduceLeDiff, Nat.reduceEqDiff, Nat.reduceBEq, reduceCtorEq, Int.reduceLT, Int.reduceLE, Int.reduceEq, Int.reduceGT, Int.reduceGE, Int.reduceToNat, Int.reduceNeg, t2, t7, hcmp]
      refine .mk ⟨by simp, rfl, ?_, ?_, ?_, ?_, .inl ⟨rfl, hfit, hdone⟩⟩
      · simp -implicitDefEqProofs only [go_sem, Nat.reduceEqDiff, Nat.reduceBEq, reduceCtorEq, t0]
      · simp -implicitDefEqProofs only [go_sem, Nat.reduceEqDiff, Nat.reduceBEq, reduceCtorEq, t1]
      · simp -implicitDefEqProofs only [go_sem, Nat.reduceEqDiff, Nat.reduceBEq, reduceCtorEq, t2]
      · simp -implicitDefEqProofs only [go_sem, Nat.reduceEqDiff, Nat.reduceBEq, reduceCtorEq, t6]
    · rintro ⟨e, T1, H1⟩ ⟨hH, t0, t1, t2, t6, ⟨rfl, hok⟩ | ⟨rfl, hno⟩⟩
      · simp only at hH t0 t1 t2 t6
        subst hH
        have hw : IntKind.i64.wrap (((a : Nat) : Int) + ((n : Nat) : Int)) = ((a + n : Nat) : Int) := by
          rw [wrap_id (by unfold InI; omega)]; omega
        obtain ⟨p, c, h1, h2⟩ := Row.sub_cut S.row S.cap (a := a) (n := n) (by omega) (by simpa using hfit)
        simp -implicitDefEqProofs only [go_sem, Nat.reduceAdd, Nat.reduceMul, Nat.reduceLT, Nat.reduceLeDiff, Nat.reduceEqDiff, Nat.reduceBEq, reduceCtorEq, Int.reduceLT, Int.reduceLE, Int.reduceEq, Int.reduceGT, Int.reduceGE, Int.reduceToNat, Int.reduceNeg, t0, t1, t2, hb, hw, h1]
        refine .mk ⟨rfl, .inl ⟨hok, p, c, rfl, ?_⟩⟩
        rw [List.map_take, List.map_drop]
        exact h2
      · simp only at hH t0 t1 t2 t6
        subst hH
        simp -implicitDefEqProofs only [go_sem, Nat.reduceAdd, Nat.reduceMul, Nat.reduceLT, Nat.reduceLeDiff, Nat.reduceEqDiff, Nat.reduceBEq, reduceCtorEq, Int.reduceLT, Int.reduceLE, Int.reduceEq, Int.reduceGT, Int.reduceGE, Int.reduceToNat, Int.reduceNeg, t6]
        exact .mk ⟨rfl, .inr ⟨hno, rfl⟩⟩
  · have hc : decide (((n : Nat) : Int) > ((L.length - a : Nat) : Int)) = true := decide_eq_true (by omega)
    simp -implicitDefEqProofs only [go_sem, Nat.reduceAdd, Nat.reduceMul, Nat.reduceLT, Nat.reduceLeDiff, Nat.reduceEqDiff, Nat.reduceBEq, reduceCtorEq, Int.reduceLT, Int.reduceLE, Int.reduceEq, Int.reduceGT, Int.reduceGE, Int.reduceToNat, Int.reduceNeg, hb, S.alen, hsub, hc]
    exact .mk ⟨rfl, .inr ⟨fun h => hfit h.1, rfl⟩⟩
theorem nil_eql (v : AV) : (∃ p n c, v = .slice (some p) n c) → aBin Tryd.prog .eql 22 v (.slice none 0 (.kn 0)) = some (.bool false) := by
  rintro ⟨p, n, c, rfl⟩
  kernel_rfl
theorem nil_eql0 : aBin Tryd.prog .eql 22 (.slice none 0 (.kn 0)) (.slice none 0 (.kn 0)) = some (.bool true) := by kernel_rfl
end Go.Proofs.YthiflgncldmkjaaDoor
set_option linter.unusedVariables false
set_option linter.unusedSimpArgs false
set_option maxRecDepth 100000
namespace Go.Proofs.YthiflgncldmkjaaDoor
open Go.Ri

structure Plain (L : List Ins) : Prop where
  ok : ∀ i ∈ L, i.Ok
  few : L.length ≤ 65536
  jump : ∀ i ∈ L, isJ i → 0 ≤ i.n ∧ i.n < (L.length : Nat) ∧ i.m = 0
  clear : ∀ i ∈ L, i.op = 6 → 0 ≤ i.n ∧ i.n ≤ 65536 ∧ 0 ≤ i.m ∧ i.m ≤ 64
theorem jump_m {l : List Code} {c : Code} {i : Ins} (hm : mayI l c i = true) (hj : isJ i) : i.m = 0 := by
  unfold isJ at hj
  unfold mayI at hm
  split at hm
  · cases hm
  · rename_i h
    have h' : (lineOf i.op i.n i.m).isNone = false := by cases hh : (lineOf i.op i.n i.m).isNone <;> simp_all
    unfold lineOf at h'
    have hn : nums i.op = 1 := by rcases hj with e | e <;> rw [e] <;> decide
    rw [hn] at h'
    split at h'
    · simp at h'
    · split at h'
      · simp at h'
      · rename_i h2
        exact Classical.byContradiction fun h => h2 (.inr ⟨by omega, h⟩)
theorem clear_rng {l : List Code} {c : Code} {i : Ins} (hc : 0 ≤ c.cells ∧ c.cells ≤ 65536) (hm : mayI l c i = true) (h6 : i.op = 6) : 0 ≤ i.n ∧ i.n ≤ 65536 ∧ 0 ≤ i.m ∧ i.m ≤ 64 := by
  unfold mayI at hm
  split at hm
  · cases hm
  · simp [h6, within] at hm
    omega
theorem OwnOk.plain {l : List Code} {c : Code} (o : OwnOk l c) (hok : ∀ i ∈ c.ins, i.Ok) : Plain c.ins :=
  ⟨hok, o.few, fun i hi hj => ⟨(may_rng (o.may i hi) hj).1, (may_rng (o.may i hi) hj).2, jump_m (o.may i hi) hj⟩, fun i hi h6 => clear_rng o.cells (o.may i hi) h6⟩

theorem insAt_eq {L : List Ins} {a : Nat} (h : a < L.length) : insAt L a = L[a] := by
  unfold insAt
  rw [List.getElem?_eq_getElem h]
  rfl
theorem leftP_none0 (a b : Int) : leftP 0 a b = none := by simp [leftP]
theorem pairP_zero (i j k : Ins) (h : j.op = 0) : pairP i j k = ⟨0, 0, []⟩ := by simp [pairP, h]
theorem tripleP_zero (i j k : Ins) (h : k.op = 0) : tripleP i j k = ⟨0, 0, []⟩ := by simp [tripleP, h, leftP_none0]

set_option maxHeartbeats 1000000 in
theorem triple_spec (d : Nat) {H : AH} (hw : H.wf) {k : Nat} {s : AV} {L : List Ins} {R T : List Bool} (S : Sight H k s L R T) (hL : L.length ≤ 65536) {a : Nat} (ha : a + 1 < L.length) (hT : bAt T (a + 1) = false) :
    Ret (RT (d + 3) 106 [.ptr (some (k, 0)), .int .i64 (a : Nat)] H) fun r => Ext H.next H r.2 ∧ ChgAt H.next r.2 r.1 (tripleP L[a] L[a + 1] (if bAt T (a + 2) = true then I0 else insAt L (a + 2))) := by
  rw [R106]
  unfold F106
  have hx : Ext H.next H (H.new [.int .i64 0, .int .i64 0, .slice none 0 (.kn 0)] 108) := (Ext.refl hw).new _ _
  have S1 := S.mono (hx.sub hw)
  have hput := fun B => hx.put (b := H.next) (Nat.le_refl _) (by simp) B
  have hput4 := fun cs e B => (hx.new cs e).put (b := H.next) (Nat.le_refl _) (by simp only [new_next]; omega) B
  have n1 : ¬ H.next = H.next + 1 := by omega
  obtain ⟨⟨v, H2⟩, h104, hH, hr⟩ := part_spec (d + 1) S1 (a := a) (n := 3) (by omega) (by omega) (by omega) (by omega)
  simp only at hH hr
  subst hH
  rw [show ((3 : Nat) : Int) = 3 from rfl] at h104
  rcases hr with ⟨⟨hle, hnt⟩, p, c, rfl, hrow⟩ | ⟨hno, rfl⟩
  · have h2 := hnt 2 (by omega) (by omega)
    rw [if_neg (by rw [h2]; simp), insAt_eq (show a + 2 < L.length by omega)]
    have hlen : (((L.drop a).take 3).map insC).length = 3 := by simp; omega
    obtain ⟨b0, o0, e0, _, f0⟩ := hrow.at (i := 0) (by omega)
    obtain ⟨b1, o1, e1, _, f1⟩ := hrow.at (i := 1) (by omega)
    obtain ⟨b2, o2, e2, _, f2⟩ := hrow.at (i := 2) (by omega)
    have e0 := e0 .i64
    have e1 := e1 .i64
    have e2 := e2 .i64
    rw [Int.natCast_zero] at e0
    rw [Int.natCast_one] at e1
    rw [show ((2 : Nat) : Int) = 2 from rfl] at e2
    have f00 := f0 0 (by omega)
    have f01 := f0 1 (by omega)
    have f10 := f1 0 (by omega)
    have f11 := f1 1 (by omega)
    have f20 := f2 0 (by omega)
    simp only [List.getElem_map, List.getElem_take, List.getElem_drop, insC, List.getElem?_cons_zero, List.getElem?_cons_succ, Nat.add_zero] at f00 f01 f10 f11 f20
    have hne : aBin Tryd.prog .eql 22 (.slice (some p) 3 c) (.slice none 0 (.kn 0)) = some (.bool false) := nil_eql _ ⟨_, _, _, rfl⟩
    by_cases p0 : L[a].op = 1
    · by_cases p1 : L[a + 1].op = 1
      · obtain ⟨⟨w, H3⟩, h124, hH3, hr3⟩ := two_spec d L[a + 2].op L[a].n L[a + 1].n (H.new [.int .i64 0, .int .i64 0, .slice none 0 (.kn 0)] 108)
        simp only at hH3 hr3
        subst hH3
        rcases hr3 with ⟨x, hx1, rfl⟩ | ⟨hx1, y, rfl⟩
        · simp -implicitDefEqProofs only [go_sem, Nat.reduceAdd, Nat.reduceMul, Nat.reduceLT, Nat.reduceLeDiff, Nat.reduceEqDiff, Nat.reduceBEq, reduceCtorEq, Int.reduceLT, Int.reduceLE, Int.reduceEq, Int.reduceGT, Int.reduceGE, Int.reduceToNat, Int.reduceNeg, h104, hne, e0, e1, e2, f00, f01, f10, f11, f20, decide_eq_true p0, decide_eq_true p1, h124, n1, bs22i]
          refine .mk ⟨hput4 _ _ _, ?_⟩
          have e : tripleP L[a] L[a + 1] L[a + 2] = ⟨6, 3, [pushI x]⟩ := by simp [tripleP, p0, p1, hx1]
          exact chg_eq e (ChgAt.made 6 3 (by simp only [put_next, new_next]; omega) (by simp) rfl rfl)
        · simp -implicitDefEqProofs only [go_sem, Nat.reduceAdd, Nat.reduceMul, Nat.reduceLT, Nat.reduceLeDiff, Nat.reduceEqDiff, Nat.reduceBEq, reduceCtorEq, Int.reduceLT, Int.reduceLE, Int.reduceEq, Int.reduceGT, Int.reduceGE, Int.reduceToNat, Int.reduceNeg, h104, hne, e0, e1, e2, f00, f01, f10, f11, f20, decide_eq_true p0, decide_eq_true p1, h124, n1]
          refine .mk ⟨hput _, ?_⟩
          have e : tripleP L[a] L[a + 1] L[a + 2] = ⟨0, 0, []⟩ := by simp [tripleP, hx1]
          exact chg_eq e (ChgAt.none _ _ 0 0)
      · simp -implicitDefEqProofs only [go_sem, Nat.reduceAdd, Nat.reduceMul, Nat.reduceLT, Nat.reduceLeDiff, Nat.reduceEqDiff, Nat.reduceBEq, reduceCtorEq, Int.reduceLT, Int.reduceLE, Int.reduceEq, Int.reduceGT, Int.reduceGE, Int.reduceToNat, Int.reduceNeg, h104, hne, e0, e1, f00, f10, decide_eq_true p0, decide_eq_false p1, n1]
        refine .mk ⟨hput _, ?_⟩
        have e : tripleP L[a] L[a + 1] L[a + 2] = ⟨0, 0, []⟩ := by simp [tripleP, p1]
        exact chg_eq e (ChgAt.none _ _ 0 0)
    · simp -implicitDefEqProofs only [go_sem, Nat.reduceAdd, Nat.reduceMul, Nat.reduceLT, Nat.reduceLeDiff, Nat.reduceEqDiff, Nat.reduceBEq, reduceCtorEq, Int.reduceLT, Int.reduceLE, Int.reduceEq, Int.reduceGT, Int.reduceGE, Int.reduceToNat, Int.reduceNeg, h104, hne, e0, f00, decide_eq_false p0, n1]
      refine .mk ⟨hput _, ?_⟩
      have e : tripleP L[a] L[a + 1] L[a + 2] = ⟨0, 0, []⟩ := by simp [tripleP, p0]
      exact chg_eq e (ChgAt.none _ _ 0 0)
  · simp -implicitDefEqProofs only [go_sem, Nat.reduceAdd, Nat.reduceMul, Nat.reduceLT, Nat.reduceLeDiff, Nat.reduceEqDiff, Nat.reduceBEq, reduceCtorEq, Int.reduceLT, Int.reduceLE, Int.reduceEq, Int.reduceGT, Int.reduceGE, Int.reduceToNat, Int.reduceNeg, h104, nil_eql0, n1]
    refine .mk ⟨hput _, ?_⟩
    refine chg_eq (tripleP_zero _ _ _ ?_) (ChgAt.none _ _ 0 0)
    by_cases h2 : bAt T (a + 2) = true
    · rw [if_pos h2]; rfl
    · rw [if_neg h2]
      unfold insAt
      rw [List.getElem?_eq_none]
      · rfl
      · refine Nat.le_of_not_lt fun hlt => hno ⟨by omega, fun j h1 h3 => ?_⟩
        have : j = 1 ∨ j = 2 := by omega
        rcases this with rfl | rfl
        · exact hT
        · simpa using h2
end Go.Proofs.YthiflgncldmkjaaDoor
set_option linter.unusedVariables false
set_option linter.unusedSimpArgs false
set_option maxRecDepth 100000
namespace Go.Proofs.YthiflgncldmkjaaDoor
open Go.Ri

theorem Sight.insP {H : AH} {k : Nat} {s : AV} {L : List Ins} {R T : List Bool} (h : Sight H k s L R T) {i : Nat} (hi : i < L.length) :
    ∃ p, (∀ kd, idxSl s (.int kd (i : Nat)) 3 = some (.ptr (some p))) ∧ ldAgg (.ptr (some p)) 3 H = some (.agg (insC L[i])) := by
  obtain ⟨b, o, h1, h2⟩ := h.ins hi
  exact ⟨(b, o), h1, h2⟩
theorem bAt_eq {l : List Bool} {i : Nat} (h : i < l.length) : bAt l i = l[i] := by unfold bAt; rw [List.getElem?_eq_getElem h]; rfl
set_option maxHeartbeats 2000000 in
theorem single_spec (d : Nat) {H : AH} (hw : H.wf) {k : Nat} {s : AV} {L : List Ins} {R T : List Bool} (S : Sight H k s L R T) (P : Plain L) {a : Nat} (ha : a < L.length) :
    Ret (RT (d + 2) 103 [.ptr (some (k, 0)), .int .i64 (a : Nat)] H) fun r => Ext H.next H r.2 ∧ ChgAt H.next r.2 r.1 (singleP (bAt R) L a L[a]) := by
  rw [R103]
  unfold F103
  have hlen := P.few
  have hx1 : Ext H.next H (H.new [.int .i64 0, .int .i64 0, .slice none 0 (.kn 0)] 108) := (Ext.refl hw).new _ _
  have hx : Ext H.next H ((H.new [.int .i64 0, .int .i64 0, .slice none 0 (.kn 0)] 108).new (insC L[a]) 29) := hx1.new _ _
  obtain ⟨r, t, hb, hR, hTr⟩ := S.blk
  have hkn : k < H.next := hw _ _ hb
  have k1 : ¬ k = H.next := by omega
  have k2 : ¬ k = H.next + 1 := by omega
  have k3 : ¬ k = H.next + 1 + 1 := by omega
  have n1 : ¬ H.next = H.next + 1 := by omega
  have n2 : ¬ H.next = H.next + 1 + 1 := by omega
  have n3 : ¬ H.next + 1 = H.next + 1 + 1 := by omega
  have n4 : ¬ H.next = H.next + 1 + 1 + 1 := by omega
  have n5 : ¬ H.next + 1 = H.next + 1 + 1 + 1 := by omega
  have n6 : ¬ H.next = H.next + 1 + 1 + 1 + 1 := by omega
  have n7 : ¬ H.next + 1 = H.next + 1 + 1 + 1 + 1 := by omega
  have hput := fun B => hx.put (b := H.next) (Nat.le_refl _) (by simp only [new_next]; omega) B
  have hput4 := fun cs e B => (hx.new cs e).put (b := H.next) (Nat.le_refl _) (by simp only [new_next]; omega) B
  have S1 := S.mono (hx1.sub hw)
  have S2 := S.mono (hx.sub hw)
  obtain ⟨p0, e0, f0⟩ := S1.insP ha
  have hltR : a < R.length := by rw [S.lenR]; exact ha
  have hR2 : BoolRow _ r R := Row.mono hR (hx.sub hw)
  obtain ⟨p, e1, e2⟩ := hR2.at hltR
  obtain ⟨jn0, jn1, jn2⟩ := show (isJ L[a] → 0 ≤ L[a].n) ∧ (isJ L[a] → L[a].n < (L.length : Nat)) ∧ (isJ L[a] → L[a].m = 0) from ⟨fun h => (P.jump _ (List.getElem_mem _) h).1, fun h => (P.jump _ (List.getElem_mem _) h).2.1, fun h => (P.jump _ (List.getElem_mem _) h).2.2⟩
  have hin : insC L[a] = [.int .i64 L[a].op, .int .i64 L[a].n, .int .i64 L[a].m] := rfl
  have h101 := jumps_spec d ((H.new [.int .i64 0, .int .i64 0, .slice none 0 (.kn 0)] 108).new (insC L[a]) 29) L[a]
  rw [hin] at f0 hx hput hput4 e2 h101
  have hwa := wrapS (i := a) (by omega)
  cases hv : R[a]
  · rw [hv] at e2
    simp -implicitDefEqProofs only [go_sem, Nat.reduceAdd, Nat.reduceMul, Nat.reduceLT, Nat.reduceLeDiff, Nat.reduceEqDiff, Nat.reduceBEq, reduceCtorEq, Int.reduceLT, Int.reduceLE, Int.reduceEq, Int.reduceGT, Int.reduceGE, Int.reduceToNat, Int.reduceNeg, hb, k1, k2, e0, f0, new_put1, e1, e2, n1]
    refine .mk ⟨hput _, ?_⟩
    have e : singleP (bAt R) L a L[a] = ⟨1, 1, []⟩ := by simp [singleP, bAt_eq hltR, hv]
    exact chg_eq e (ChgAt.none _ _ 1 1)
  · rw [hv] at e2
    have hRt : ¬ bAt R a = false := by rw [bAt_eq hltR, hv]; simp
    have hx5 : Ext H.next H (((H.new [.int .i64 0, .int .i64 0, .slice none 0 (.kn 0)] 108).new [.int .i64 L[a].op, .int .i64 L[a].n, .int .i64 L[a].m] 29).new [.int .i64 L[a].op, .int .i64 L[a].n, .int .i64 L[a].m] 29) := hx.new _ _
    have hres : ∀ (B : Blk) (cs : List AV) (e : TypeId), (((((H.new [.int .i64 0, .int .i64 0, .slice none 0 (.kn 0)] 108).new [.int .i64 L[a].op, .int .i64 L[a].n, .int .i64 L[a].m] 29).new [.int .i64 L[a].op, .int .i64 L[a].n, .int .i64 L[a].m] 29).res 1).put (H.next + 1 + 1 + 1) B).put (H.next + 1 + 1 + 1) ⟨cs, e, true⟩ = (((H.new [.int .i64 0, .int .i64 0, .slice none 0 (.kn 0)] 108).new [.int .i64 L[a].op, .int .i64 L[a].n, .int .i64 L[a].m] 29).new [.int .i64 L[a].op, .int .i64 L[a].n, .int .i64 L[a].m] 29).new cs e := fun B cs e => res_new _ cs e B
    by_cases h17 : L[a].op = 17
    · have h18 : ¬ L[a].op = 18 := by omega
      by_cases hn : L[a].n = ((a + 1 : Nat) : Int)
      · simp -implicitDefEqProofs only [go_sem, Nat.reduceAdd, Nat.reduceMul, Nat.reduceLT, Nat.reduceLeDiff, Nat.reduceEqDiff, Nat.reduceBEq, reduceCtorEq, Int.reduceLT, Int.reduceLE, Int.reduceEq, Int.reduceGT, Int.reduceGE, Int.reduceToNat, Int.reduceNeg, hb, k1, k2, e0, f0, new_put1, e1, e2, n1, decide_eq_true h17, hwa, decide_eq_true hn]
        refine .mk ⟨hput _, ?_⟩
        have e : singleP (bAt R) L a L[a] = ⟨2, 1, []⟩ := by
          unfold singleP
          rw [if_neg hRt, if_pos ⟨h17, hn⟩]
        exact chg_eq e (ChgAt.none _ _ 2 1)
      · have hj : isJ L[a] := .inl h17
        have no2 : ¬ (L[a].op = 17 ∧ L[a].n = ((a + 1 : Nat) : Int)) := fun h => hn h.2
        have no3 : ¬ (L[a].op = 18 ∧ L[a].n = ((a + 1 : Nat) : Int)) := fun h => h18 h.1
        have hti : L[a].n.toNat < L.length := by have := jn0 hj; have := jn1 hj; omega
        have htn : ((L[a].n.toNat : Nat) : Int) = L[a].n := Int.toNat_of_nonneg (jn0 hj)
        rw [decide_eq_true hj] at h101
        obtain ⟨p4, e4, f4⟩ := (S.mono (hx5.sub hw)).insP hti
        have e4 := e4 .i64
        rw [htn] at e4
        have hit : insC L[L[a].n.toNat] = [.int .i64 L[L[a].n.toNat].op, .int .i64 L[L[a].n.toNat].n, .int .i64 L[L[a].n.toNat].m] := rfl
        have htg : (L[L[a].n.toNat]?).getD I0 = L[L[a].n.toNat] := by rw [List.getElem?_eq_getElem hti]; rfl
        rw [hit] at f4
        generalize L[L[a].n.toNat] = tt at *
        have f4r : ldAgg (.ptr (some p4)) 3 ((((H.new [.int .i64 0, .int .i64 0, .slice none 0 (.kn 0)] 108).new [.int .i64 L[a].op, .int .i64 L[a].n, .int .i64 L[a].m] 29).new [.int .i64 L[a].op, .int .i64 L[a].n, .int .i64 L[a].m] 29).res 1) = some (.agg [.int .i64 tt.op, .int .i64 tt.n, .int .i64 tt.m]) := f4
        have hx6 := hx5.new [.int .i64 tt.op, .int .i64 tt.n, .int .i64 tt.m] 29
        have hp6 := fun B => hx6.put (b := H.next) (Nat.le_refl _) (by simp only [new_next]; omega) B
        have hp7 := fun B cs e B' => ((hx6.put (b := H.next + 1) (by omega) (by simp only [new_next]; omega) B).new cs e).put (b := H.next) (Nat.le_refl _) (by simp only [new_next, put_next]; omega) B'
        by_cases t17 : tt.op = 17
        · by_cases tn : tt.n > L[a].n
          · simp -implicitDefEqProofs only [go_sem, Nat.reduceAdd, Nat.reduceMul, Nat.reduceLT, Nat.reduceLeDiff, Nat.reduceEqDiff, Nat.reduceBEq, reduceCtorEq, Int.reduceLT, Int.reduceLE, Int.reduceEq, Int.reduceGT, Int.reduceGE, Int.reduceToNat, Int.reduceNeg, hb, k1, k2, k3, e0, f0, new_put1, hres, e1, e2, n1, n2, n3, n4, n5, n6, n7, decide_eq_true h17, decide_eq_false hn, decide_eq_false h18, hwa, h101, e4, f4r, decide_eq_true t17, decide_eq_true tn, bs22i]
            refine .mk ⟨hp7 _ _ _ _, ?_⟩
            have e : singleP (bAt R) L a L[a] = ⟨4, 1, [⟨L[a].op, tt.n, L[a].m⟩]⟩ := by
              unfold singleP
              rw [htg, if_neg hRt, if_neg no2, if_neg no3, if_pos ⟨hj, t17, tn⟩, jn2 hj]
            exact chg_eq e (ChgAt.made 4 1 (by simp only [put_next, new_next]; omega) (by simp only [put_next, new_next]; omega) rfl rfl)
          · simp -implicitDefEqProofs only [go_sem, Nat.reduceAdd, Nat.reduceMul, Nat.reduceLT, Nat.reduceLeDiff, Nat.reduceEqDiff, Nat.reduceBEq, reduceCtorEq, Int.reduceLT, Int.reduceLE, Int.reduceEq, Int.reduceGT, Int.reduceGE, Int.reduceToNat, Int.reduceNeg, hb, k1, k2, k3, e0, f0, new_put1, hres, e1, e2, n1, n2, n3, n4, n5, decide_eq_true h17, decide_eq_false hn, decide_eq_false h18, hwa, h101, e4, f4r, decide_eq_true t17, decide_eq_false tn, F103_J0]
            refine .mk ⟨hp6 _, ?_⟩
            have e : singleP (bAt R) L a L[a] = ⟨0, 0, []⟩ := by
              unfold singleP
              rw [htg, if_neg hRt, if_neg no2, if_neg no3, if_neg fun h => tn h.2.2]
            exact chg_eq e (ChgAt.none _ _ 0 0)
        · simp -implicitDefEqProofs only [go_sem, Nat.reduceAdd, Nat.reduceMul, Nat.reduceLT, Nat.reduceLeDiff, Nat.reduceEqDiff, Nat.reduceBEq, reduceCtorEq, Int.reduceLT, Int.reduceLE, Int.reduceEq, Int.reduceGT, Int.reduceGE, Int.reduceToNat, Int.reduceNeg, hb, k1, k2, k3, e0, f0, new_put1, hres, e1, e2, n1, n2, n3, n4, n5, decide_eq_true h17, decide_eq_false hn, decide_eq_false h18, hwa, h101, e4, f4r, decide_eq_false t17, F103_J0]
          refine .mk ⟨hp6 _, ?_⟩
          have e : singleP (bAt R) L a L[a] = ⟨0, 0, []⟩ := by
            unfold singleP
            rw [htg, if_neg hRt, if_neg no2, if_neg no3, if_neg fun h => t17 h.2.1]
          exact chg_eq e (ChgAt.none _ _ 0 0)
    · have no2 : ¬ (L[a].op = 17 ∧ L[a].n = ((a + 1 : Nat) : Int)) := fun h => h17 h.1
      by_cases h18 : L[a].op = 18
      · by_cases hn : L[a].n = ((a + 1 : Nat) : Int)
        · simp -implicitDefEqProofs only [go_sem, Nat.reduceAdd, Nat.reduceMul, Nat.reduceLT, Nat.reduceLeDiff, Nat.reduceEqDiff, Nat.reduceBEq, reduceCtorEq, Int.reduceLT, Int.reduceLE, Int.reduceEq, Int.reduceGT, Int.reduceGE, Int.reduceToNat, Int.reduceNeg, hb, k1, k2, e0, f0, new_put1, e1, e2, n1, n2, decide_eq_false h17, decide_eq_true h18, hwa, decide_eq_true hn, bs22i]
          refine .mk ⟨hput4 _ _ _, ?_⟩
          have e : singleP (bAt R) L a L[a] = ⟨3, 1, [⟨25, 0, 0⟩]⟩ := by
            unfold singleP
            rw [if_neg hRt, if_neg no2, if_pos ⟨h18, hn⟩]
          exact chg_eq e (ChgAt.made 3 1 (by simp only [put_next, new_next]; omega) (by simp only [put_next, new_next]; omega) rfl rfl)
        · have hj : isJ L[a] := .inr h18
          have no3 : ¬ (L[a].op = 18 ∧ L[a].n = ((a + 1 : Nat) : Int)) := fun h => hn h.2
          have hti : L[a].n.toNat < L.length := by have := jn0 hj; have := jn1 hj; omega
          have htn : ((L[a].n.toNat : Nat) : Int) = L[a].n := Int.toNat_of_nonneg (jn0 hj)
          rw [decide_eq_true hj] at h101
          obtain ⟨p4, e4, f4⟩ := (S.mono (hx5.sub hw)).insP hti
          have e4 := e4 .i64
          rw [htn] at e4
          have hit : insC L[L[a].n.toNat] = [.int .i64 L[L[a].n.toNat].op, .int .i64 L[L[a].n.toNat].n, .int .i64 L[L[a].n.toNat].m] := rfl
          have htg : (L[L[a].n.toNat]?).getD I0 = L[L[a].n.toNat] := by rw [List.getElem?_eq_getElem hti]; rfl
          rw [hit] at f4
          generalize L[L[a].n.toNat] = tt at *
          have f4r : ldAgg (.ptr (some p4)) 3 ((((H.new [.int .i64 0, .int .i64 0, .slice none 0 (.kn 0)] 108).new [.int .i64 L[a].op, .int .i64 L[a].n, .int .i64 L[a].m] 29).new [.int .i64 L[a].op, .int .i64 L[a].n, .int .i64 L[a].m] 29).res 1) = some (.agg [.int .i64 tt.op, .int .i64 tt.n, .int .i64 tt.m]) := f4
          have hx6 := hx5.new [.int .i64 tt.op, .int .i64 tt.n, .int .i64 tt.m] 29
          have hp6 := fun B => hx6.put (b := H.next) (Nat.le_refl _) (by simp only [new_next]; omega) B
          have hp7 := fun B cs e B' => ((hx6.put (b := H.next + 1) (by omega) (by simp only [new_next]; omega) B).new cs e).put (b := H.next) (Nat.le_refl _) (by simp only [new_next, put_next]; omega) B'
          by_cases t17 : tt.op = 17
          · by_cases tn : tt.n > L[a].n
            · simp -implicitDefEqProofs only [go_sem, Nat.reduceAdd, Nat.reduceMul, Nat.reduceLT, Nat.reduceLeDiff, Nat.reduceEqDiff, Nat.reduceBEq, reduceCtorEq, Int.reduceLT, Int.reduceLE, Int.reduceEq, Int.reduceGT, Int.reduceGE, Int.reduceToNat, Int.reduceNeg, hb, k1, k2, k3, e0, f0, new_put1, hres, e1, e2, n1, n2, n3, n4, n5, n6, n7, decide_eq_false h17, decide_eq_true h18, decide_eq_false hn, hwa, h101, e4, f4r, decide_eq_true t17, decide_eq_true tn, bs22i]
              refine .mk ⟨hp7 _ _ _ _, ?_⟩
              have e : singleP (bAt R) L a L[a] = ⟨4, 1, [⟨L[a].op, tt.n, L[a].m⟩]⟩ := by
                unfold singleP
                rw [htg, if_neg hRt, if_neg no2, if_neg no3, if_pos ⟨hj, t17, tn⟩, jn2 hj]
              exact chg_eq e (ChgAt.made 4 1 (by simp only [put_next, new_next]; omega) (by simp only [put_next, new_next]; omega) rfl rfl)
            · simp -implicitDefEqProofs only [go_sem, Nat.reduceAdd, Nat.reduceMul, Nat.reduceLT, Nat.reduceLeDiff, Nat.reduceEqDiff, Nat.reduceBEq, reduceCtorEq, Int.reduceLT, Int.reduceLE, Int.reduceEq, Int.reduceGT, Int.reduceGE, Int.reduceToNat, Int.reduceNeg, hb, k1, k2, k3, e0, f0, new_put1, hres, e1, e2, n1, n2, n3, n4, n5, decide_eq_false h17, decide_eq_true h18, decide_eq_false hn, hwa, h101, e4, f4r, decide_eq_true t17, decide_eq_false tn, F103_J0]
              refine .mk ⟨hp6 _, ?_⟩
              have e : singleP (bAt R) L a L[a] = ⟨0, 0, []⟩ := by
                unfold singleP
                rw [htg, if_neg hRt, if_neg no2, if_neg no3, if_neg fun h => tn h.2.2]
              exact chg_eq e (ChgAt.none _ _ 0 0)
          · simp -implicitDefEqProofs only [go_sem, Nat.reduceAdd, Nat.reduceMul, Nat.reduceLT, Nat.reduceLeDiff, Nat.reduceEqDiff, Nat.reduceBEq, reduceCtorEq, Int.reduceLT, Int.reduceLE, Int.reduceEq, Int.reduceGT, Int.reduceGE, Int.reduceToNat, Int.reduceNeg, hb, k1, k2, k3, e0, f0, new_put1, hres, e1, e2, n1, n2, n3, n4, n5, decide_eq_false h17, decide_eq_true h18, decide_eq_false hn, hwa, h101, e4, f4r, decide_eq_false t17, F103_J0]
            refine .mk ⟨hp6 _, ?_⟩
            have e : singleP (bAt R) L a L[a] = ⟨0, 0, []⟩ := by
              unfold singleP
              rw [htg, if_neg hRt, if_neg no2, if_neg no3, if_neg fun h => t17 h.2.1]
            exact chg_eq e (ChgAt.none _ _ 0 0)
      · have hj : ¬ isJ L[a] := by unfold isJ; omega
        rw [decide_eq_false hj] at h101
        have hp5 := fun B => hx5.put (b := H.next) (Nat.le_refl _) (by simp only [new_next]; omega) B
        simp -implicitDefEqProofs only [go_sem, Nat.reduceAdd, Nat.reduceMul, Nat.reduceLT, Nat.reduceLeDiff, Nat.reduceEqDiff, Nat.reduceBEq, reduceCtorEq, Int.reduceLT, Int.reduceLE, Int.reduceEq, Int.reduceGT, Int.reduceGE, Int.reduceToNat, Int.reduceNeg, hb, k1, k2, k3, e0, f0, new_put1, e1, e2, n1, n2, n3, decide_eq_false h17, decide_eq_false h18, h101, F103_J0]
        refine .mk ⟨hp5 _, ?_⟩
        have e : singleP (bAt R) L a L[a] = ⟨0, 0, []⟩ := by
          unfold singleP
          rw [if_neg hRt, if_neg no2, if_neg fun h => h18 h.1, if_neg fun h => hj h.1]
        exact chg_eq e (ChgAt.none _ _ 0 0)
end Go.Proofs.YthiflgncldmkjaaDoor
set_option linter.unusedVariables false
set_option linter.unusedSimpArgs false
set_option maxRecDepth 100000
namespace Go.Proofs.YthiflgncldmkjaaDoor
open Go.Ri

theorem Ext.res1 {N : Nat} {H0 H : AH} (h : Ext N H0 H) : Ext N H0 (H.res 1) := ⟨h.low, Nat.le_trans h.next (Nat.le_succ _), fun b B hB => Nat.lt_succ_of_lt (h.wf b B hB)⟩
structure Fz (H G : AH) : Prop where
  ext : Ext H.next H G
  lt : H.next < G.next
  blk : G.m H.next = some ⟨[.int .i64 0, .int .i64 0, .slice none 0 (.kn 0)], 108, true⟩
theorem Fz.on {H G G' : AH} (z : Fz H G) (h : Ext G.next G G') : Fz H G' :=
  ⟨z.ext.trans h (Nat.le_of_lt z.lt), Nat.lt_of_lt_of_le z.lt h.next, by rw [h.low _ z.lt]; exact z.blk⟩
theorem Fz.new {H G : AH} (z : Fz H G) (cs : List AV) (e : TypeId) : Fz H (G.new cs e) := z.on ((Ext.refl z.ext.wf).new _ _)
theorem Fz.res {H G : AH} (z : Fz H G) : Fz H (G.res 1) := z.on (Ext.res1 (Ext.refl z.ext.wf))
theorem Fz.put {H G : AH} (z : Fz H G) {b : Nat} (hb : H.next < b) (hb' : b < G.next) (B : Blk) : Fz H (G.put b B) :=
  ⟨z.ext.put (by omega) hb' _, z.lt, by simp only [put_m]; rw [if_neg (by omega)]; exact z.blk⟩
theorem Fz.fin {H G : AH} (z : Fz H G) (B : Blk) : Ext H.next H (G.put H.next B) := z.ext.put (Nat.le_refl _) z.lt _
theorem Fz.sub {H G : AH} (z : Fz H G) (hw : H.wf) : H.sub G := z.ext.sub hw
theorem ChgAt.fin {N M : Nat} {H : AH} {v : AV} {c : Chg} (h : ChgAt N H v c) {B : Blk} (hM : M < N) : ChgAt M (H.put M B) v c :=
  (h.keep fun b B' hb hB => by simp only [put_m]; rw [if_neg (by omega)]; exact hB).low (Nat.le_of_lt hM)
theorem put_put (H : AH) (b : Nat) (B B' : Blk) : (H.put b B).put b B' = H.put b B' := AH.same (fun i => by simp only [put_m]; split <;> rfl) rfl
theorem rule_pos {c : Chg} : decide (((c.rule : Nat) : Int) > 0) = decide (c.rule ≠ 0) := by
  by_cases h : c.rule = 0
  · rw [h]; rfl
  · rw [decide_eq_true h, decide_eq_true (by omega)]
set_option maxHeartbeats 2000000 in
theorem fits_spec (d : Nat) {H : AH} (hw : H.wf) {k : Nat} {s : AV} {L : List Ins} {R T : List Bool} (S : Sight H k s L R T) (P : Plain L) {a : Nat} (ha : a < L.length) :
    Ret (RT (d + 4) 76 [.ptr (some (k, 0)), .int .i64 (a : Nat)] H) fun r => Ext H.next H r.2 ∧ ChgAt H.next r.2 r.1 (ruleP (bAt R) (bAt T) L a) := by
  rw [R76]
  unfold F76
  have z1 : Fz H (H.new [.int .i64 0, .int .i64 0, .slice none 0 (.kn 0)] 108) := ⟨(Ext.refl hw).new _ _, by simp, by simp⟩
  have hrl : ruleP (bAt R) (bAt T) L a = if (singleP (bAt R) L a L[a]).rule ≠ 0 then singleP (bAt R) L a L[a] else pairP L[a] (jAt (bAt T) L a) (kAt (bAt T) L a) := by
    unfold ruleP
    rw [insAt_eq ha]
  rw [hrl]
  obtain ⟨⟨v2, H2⟩, h103, hx2, s2, rfl, hrow2, hlow2⟩ := single_spec (d + 1) z1.ext.wf (S.mono (z1.sub hw)) P ha
  simp only at hx2 hrow2
  have z2 := z1.on hx2
  have z3 := z2.new [.int .i64 ((singleP (bAt R) L a L[a]).rule : Nat), .int .i64 ((singleP (bAt R) L a L[a]).n : Nat), s2] 108
  have c1 : ChgAt (H.next + 1) (H2.new [.int .i64 ((singleP (bAt R) L a L[a]).rule : Nat), .int .i64 ((singleP (bAt R) L a L[a]).n : Nat), s2] 108) (.agg [.int .i64 ((singleP (bAt R) L a L[a]).rule : Nat), .int .i64 ((singleP (bAt R) L a L[a]).n : Nat), s2]) (singleP (bAt R) L a L[a]) :=
    ⟨s2, rfl, hrow2.mono (((Ext.refl z2.ext.wf).new _ _).sub z2.ext.wf), hlow2⟩
  have n2 : ¬ H.next = H2.next := Nat.ne_of_lt z2.lt
  have hb2 := z2.blk
  have hrp := rule_pos (c := singleP (bAt R) L a L[a])
  generalize singleP (bAt R) L a L[a] = c at *
  by_cases hc : c.rule ≠ 0
  · rw [if_pos hc]
    rw [decide_eq_true hc] at hrp
    simp -implicitDefEqProofs only [go_sem, Nat.reduceAdd, Nat.reduceMul, Nat.reduceLT, Nat.reduceLeDiff, Nat.reduceEqDiff, Nat.reduceBEq, reduceCtorEq, Int.reduceLT, Int.reduceLE, Int.reduceEq, Int.reduceGT, Int.reduceGE, Int.reduceToNat, Int.reduceNeg, h103, new_put, hrp, hb2, n2]
    exact .mk ⟨z3.fin _, c1.fin (Nat.lt_succ_self _)⟩
  rw [if_neg hc]
  rw [decide_eq_false hc] at hrp
  obtain ⟨⟨v3, H3⟩, h104, hH3, hr3⟩ := part_spec (d + 2) (S.mono (z3.sub hw)) (a := a) (n := 2) ha (by omega) (by omega) (by have := P.few; omega)
  simp only at hH3 hr3
  rw [show ((2 : Nat) : Int) = 2 from rfl] at h104
  rcases hr3 with ⟨⟨hle, hnt⟩, p, cp, rfl, hrow⟩ | ⟨hno, rfl⟩
  · have hT1 := hnt 1 (by omega) (by omega)
    have hj : jAt (bAt T) L a = L[a + 1] := by
      unfold jAt
      rw [if_neg (by rw [hT1]; simp), insAt_eq (by omega)]
    have hk : tripleP L[a] L[a + 1] (kAt (bAt T) L a) = tripleP L[a] L[a + 1] (if bAt T (a + 2) = true then I0 else insAt L (a + 2)) := by
      by_cases h0 : L[a + 1].op = 0
      · simp [tripleP, h0]
      · unfold kAt
        rw [hj]
        by_cases ht : bAt T (a + 2) = true
        · rw [if_pos (.inr ht), if_pos ht]
        · rw [if_neg (fun h => h.elim h0 ht), if_neg ht]
    rw [hj, pairP_eq, hk]
    rw [← hH3] at z3 hrow
    clear c1
    have hlen : (((L.drop a).take 2).map insC).length = 2 := by simp; omega
    have rd : ∀ G : AH, H3.sub G → ∃ p0 p1, idxSl (.slice (some p) 2 cp) (.int .i64 0) 3 = some (.ptr (some p0)) ∧ idxSl (.slice (some p) 2 cp) (.int .i64 1) 3 = some (.ptr (some p1)) ∧ ldAgg (.ptr (some p0)) 3 G = some (.agg (insC L[a])) ∧ ldAgg (.ptr (some p1)) 3 G = some (.agg (insC L[a + 1])) := by
      intro G hs
      have hrow' := Row.mono hrow hs
      obtain ⟨b0, o0, e0, f0, _⟩ := hrow'.at (i := 0) (by omega)
      obtain ⟨b1, o1, e1, f1, _⟩ := hrow'.at (i := 1) (by omega)
      have e0 := e0 .i64
      have e1 := e1 .i64
      rw [Int.natCast_zero] at e0
      rw [Int.natCast_one] at e1
      simp only [List.getElem_map, List.getElem_take, List.getElem_drop, Nat.add_zero] at f0 f1
      exact ⟨(b0, o0), (b1, o1), e0, e1, f0, f1⟩
    have hw3 := z3.ext.wf
    -- unary
    obtain ⟨⟨v4, H4⟩, h105, hx4, s4, rfl, hrow4, hlow4⟩ := unary_spec (d + 1) z3.res.ext.wf L[a] L[a + 1]
    simp only at hx4 hrow4
    have hlt34 : H3.next < H4.next := hx4.next
    have z4 := z3.res.on hx4
    have x34 : Ext H3.next H3 H4 := (Ext.res1 (Ext.refl hw3)).trans hx4 (Nat.le_succ _)
    have z5 := z4.put z3.lt hlt34 ⟨[.int .i64 ((unaryP L[a] L[a + 1]).rule : Nat), .int .i64 ((unaryP L[a] L[a + 1]).n : Nat), s4], 108, true⟩
    have x35 := x34.put (Nat.le_refl _) hlt34 ⟨[.int .i64 ((unaryP L[a] L[a + 1]).rule : Nat), .int .i64 ((unaryP L[a] L[a + 1]).n : Nat), s4], 108, true⟩
    have c5 : ChgAt (H3.next + 1) (H4.put H3.next ⟨[.int .i64 ((unaryP L[a] L[a + 1]).rule : Nat), .int .i64 ((unaryP L[a] L[a + 1]).n : Nat), s4], 108, true⟩) (.agg [.int .i64 ((unaryP L[a] L[a + 1]).rule : Nat), .int .i64 ((unaryP L[a] L[a + 1]).n : Nat), s4]) (unaryP L[a] L[a + 1]) :=
      ChgAt.keep ⟨s4, rfl, hrow4, hlow4⟩ fun b B hb hB => by simp only [put_m]; rw [if_neg (by omega)]; exact hB
    have hb3 := z3.blk
    have hb5 := z5.blk
    obtain ⟨p0, p1, e0, e1, f0, f1⟩ := rd (H3.res 1) fun b B h => h
    have hr5 := rule_pos (c := unaryP L[a] L[a + 1])
    have n3 : ¬ H.next = H3.next := Nat.ne_of_lt z3.lt
    have hne : aBin Tryd.prog .eql 22 (.slice (some p) 2 cp) (.slice none 0 (.kn 0)) = some (.bool false) := nil_eql _ ⟨_, _, _, rfl⟩
    generalize unaryP L[a] L[a + 1] = cu at *
    by_cases hc5 : cu.rule ≠ 0
    · rw [if_pos hc5]
      rw [decide_eq_true hc5] at hr5
      have hm4 : H4.m H.next = some ⟨[.int .i64 0, .int .i64 0, .slice none 0 (.kn 0)], 108, true⟩ := z4.blk
      simp -implicitDefEqProofs only [go_sem, Nat.reduceAdd, Nat.reduceMul, Nat.reduceLT, Nat.reduceLeDiff, Nat.reduceEqDiff, Nat.reduceBEq, reduceCtorEq, Int.reduceLT, Int.reduceLE, Int.reduceEq, Int.reduceGT, Int.reduceGE, Int.reduceToNat, Int.reduceNeg, h103, new_put, hrp, hb2, n2, h104, hne, e0, e1, f0, f1, h105, put_put, hr5, n3, hm4]
      exact .mk ⟨z5.fin _, c5.fin (by have := z3.lt; omega)⟩
    rw [if_neg hc5]
    rw [decide_eq_false hc5] at hr5
    -- triple
    obtain ⟨⟨v6, H6⟩, h106, hx6, s6, rfl, hrow6, hlow6⟩ := triple_spec d z5.ext.wf (S.mono (z5.sub hw)) P.few (a := a) (by omega) hT1
    simp only at hx6 hrow6
    have z6 := z5.on hx6
    have x36 : Ext H3.next H3 H6 := x35.trans hx6 (Nat.le_of_lt hlt34)
    generalize tripleP L[a] L[a + 1] (if bAt T (a + 2) = true then I0 else insAt L (a + 2)) = c6 at *
    have z7 := z6.new [.int .i64 (c6.rule : Nat), .int .i64 (c6.n : Nat), s6] 108
    have x37 := x36.new [.int .i64 (c6.rule : Nat), .int .i64 (c6.n : Nat), s6] 108
    have c7 : ChgAt (H3.next + 1) (H6.new [.int .i64 (c6.rule : Nat), .int .i64 (c6.n : Nat), s6] 108) (.agg [.int .i64 (c6.rule : Nat), .int .i64 (c6.n : Nat), s6]) c6 :=
      ⟨s6, rfl, hrow6.mono (((Ext.refl z6.ext.wf).new _ _).sub z6.ext.wf), fun b o n d e => Nat.le_trans hlt34 (hlow6 b o n d e)⟩
    have hr7 := rule_pos (c := c6)
    have hb6 := z6.blk
    have n6 : ¬ H.next = H6.next := Nat.ne_of_lt z6.lt
    by_cases hc7 : c6.rule ≠ 0
    · rw [if_pos hc7]
      rw [decide_eq_true hc7] at hr7
      simp -implicitDefEqProofs only [go_sem, Nat.reduceAdd, Nat.reduceMul, Nat.reduceLT, Nat.reduceLeDiff, Nat.reduceEqDiff, Nat.reduceBEq, reduceCtorEq, Int.reduceLT, Int.reduceLE, Int.reduceEq, Int.reduceGT, Int.reduceGE, Int.reduceToNat, Int.reduceNeg, h103, new_put, hrp, hb2, n2, h104, hne, e0, e1, f0, f1, h105, put_put, hr5, h106, hr7, hb6, n6]
      exact .mk ⟨z7.fin _, c7.fin (by have := z3.lt; omega)⟩
    rw [if_neg hc7]
    rw [decide_eq_false hc7] at hr7
    -- idle
    obtain ⟨q0, q1, g0, g1, g2, g3⟩ := rd (H6.new [.int .i64 (c6.rule : Nat), .int .i64 (c6.n : Nat), s6] 108) (x37.sub hw3)
    rw [e0] at g0
    cases g0
    rw [e1] at g1
    cases g1
    obtain ⟨⟨v8, H8⟩, h107, hx8, hv8⟩ := idle_spec (d + 2) z7.ext.wf L[a] L[a + 1]
    simp only at hx8 hv8
    subst hv8
    have z8 := z7.on hx8
    have x38 : Ext H3.next H3 H8 := x37.trans hx8 x37.next
    have hb8 := z8.blk
    by_cases hi : idleP L[a] L[a + 1] ≠ 0
    · rw [if_pos hi]
      have hri : decide (((idleP L[a] L[a + 1] : Nat) : Int) > 0) = true := decide_eq_true (by omega)
      simp -implicitDefEqProofs only [go_sem, Nat.reduceAdd, Nat.reduceMul, Nat.reduceLT, Nat.reduceLeDiff, Nat.reduceEqDiff, Nat.reduceBEq, reduceCtorEq, Int.reduceLT, Int.reduceLE, Int.reduceEq, Int.reduceGT, Int.reduceGE, Int.reduceToNat, Int.reduceNeg, h103, new_put, hrp, hb2, n2, h104, hne, e0, e1, f0, f1, h105, put_put, hr5, h106, hr7, g2, g3, h107, hri, hb8]
      exact .mk ⟨z8.fin _, ChgAt.none _ _ _ 2⟩
    rw [if_neg hi]
    have hri : decide (((idleP L[a] L[a + 1] : Nat) : Int) > 0) = false := decide_eq_false (by omega)
    -- the rest
    obtain ⟨q0, q1, g0, g1, g4, g5⟩ := rd H8 (x38.sub hw3)
    rw [e0] at g0
    cases g0
    rw [e1] at g1
    cases g1
    obtain ⟨⟨v9, H9⟩, h108, hx9, s9, rfl, hrow9, hlow9⟩ := rest_spec (d + 2) z8.ext.wf (P.ok L[a] (List.getElem_mem _)) (P.ok L[a + 1] (List.getElem_mem _)) (P.clear L[a] (List.getElem_mem _)) fun h => (P.clear L[a + 1] (List.getElem_mem _) h).2.2
    simp only at hx9 hrow9
    have z9 := z8.on hx9
    have hb9 := z9.blk
    have c9 : ChgAt (H.next + 1) H9 (.agg [.int .i64 ((restP L[a] L[a + 1]).rule : Nat), .int .i64 ((restP L[a] L[a + 1]).n : Nat), s9]) (restP L[a] L[a + 1]) :=
      ⟨s9, rfl, hrow9, fun b o n d e => Nat.le_trans z8.lt (hlow9 b o n d e)⟩
    simp -implicitDefEqProofs only [go_sem, Nat.reduceAdd, Nat.reduceMul, Nat.reduceLT, Nat.reduceLeDiff, Nat.reduceEqDiff, Nat.reduceBEq, reduceCtorEq, Int.reduceLT, Int.reduceLE, Int.reduceEq, Int.reduceGT, Int.reduceGE, Int.reduceToNat, Int.reduceNeg, h103, new_put, hrp, hb2, n2, h104, hne, e0, e1, f0, f1, h105, put_put, hr5, h106, hr7, g2, g3, h107, hri, g4, g5, h108, hb9]
    exact .mk ⟨z9.fin _, c9.fin (Nat.lt_succ_self _)⟩
  · have hj : (jAt (bAt T) L a).op = 0 := by
      unfold jAt
      by_cases ht : bAt T (a + 1) = true
      · rw [if_pos ht]; rfl
      · rw [if_neg ht]
        unfold insAt
        rw [List.getElem?_eq_none]
        · rfl
        · refine Nat.le_of_not_lt fun hlt => hno ⟨by omega, fun j h1 h3 => ?_⟩
          have : j = 1 := by omega
          subst this
          simpa using ht
    rw [pairP_zero _ _ _ hj]
    subst hH3
    simp -implicitDefEqProofs only [go_sem, Nat.reduceAdd, Nat.reduceMul, Nat.reduceLT, Nat.reduceLeDiff, Nat.reduceEqDiff, Nat.reduceBEq, reduceCtorEq, Int.reduceLT, Int.reduceLE, Int.reduceEq, Int.reduceGT, Int.reduceGE, Int.reduceToNat, Int.reduceNeg, h103, new_put, hrp, hb2, n2, h104, nil_eql0]
    exact .mk ⟨z3.fin _, ChgAt.none _ _ 0 0⟩
end Go.Proofs.YthiflgncldmkjaaDoor
set_option linter.unusedVariables false
set_option linter.unusedSimpArgs false
set_option maxRecDepth 100000
namespace Go.Proofs.YthiflgncldmkjaaDoor
open Go.Ri

def nextN (i : Ins) (a : Nat) : List Nat := (nextI i a).map Int.toNat
structure Seek (L : List Ins) (R T : List Bool) (w : List Nat) : Prop where
  lenR : R.length = L.length
  lenT : T.length = L.length
  sound : ∀ a, bAt R a = true → Reach (bareC L) a
  wait : ∀ a ∈ w, Reach (bareC L) a
  zero : bAt R 0 = true ∨ 0 ∈ w
  next : ∀ (a : Nat) (i : Ins) (q : Nat), bAt R a = true → L[a]? = some i → ((q : Nat) : Int) ∈ nextI i a → bAt R q = true ∨ q ∈ w
  tgt : ∀ t : Nat, bAt T t = true ↔ ∃ a i, bAt R a = true ∧ L[a]? = some i ∧ isJ i ∧ i.n = (t : Nat)
theorem Seek.done {L : List Ins} {R T : List Bool} (S : Seek L R T []) : bAt R = reachL L ∧ bAt T = targL L := by
  have hr : ∀ a, bAt R a = true ↔ Reach (bareC L) a := fun a => by
    refine ⟨S.sound a, fun h => ?_⟩
    induction h with
    | zero => exact S.zero.resolve_right (by simp)
    | step _ hi hp ih => exact (S.next _ _ _ ih hi hp).resolve_right (by simp)
  have eq : ∀ {x y : Bool}, (x = true ↔ y = true) → x = y := fun {x y} h => by cases x <;> cases y <;> simp_all
  refine ⟨funext fun a => eq ?_, funext fun t => eq ?_⟩
  · rw [hr]
    exact (reachL_iff (L := L) (c := bareC L) rfl).symm
  · rw [S.tgt, targL_iff]
    exact ⟨fun ⟨a, i, h, r⟩ => ⟨a, i, (hr a).1 h, r⟩, fun ⟨a, i, h, r⟩ => ⟨a, i, (hr a).2 h, r⟩⟩
theorem bAt_set {l : List Bool} {i j : Nat} (hi : i < l.length) : bAt (l.set i true) j = if j = i then true else bAt l j := by
  unfold bAt
  by_cases h : j = i
  · subst h; rw [if_pos rfl, List.getElem?_set_self hi]; rfl
  · rw [if_neg h, List.getElem?_set_ne (fun e => h e.symm)]
theorem Seek.old {L : List Ins} {R T : List Bool} {w : List Nat} {a : Nat} (S : Seek L R T (w ++ [a])) (h : bAt R a = true) : Seek L R T w := by
  refine ⟨S.lenR, S.lenT, S.sound, fun b hb => S.wait b (by simp [hb]), ?_, fun b i q h1 h2 h3 => ?_, S.tgt⟩
  · rcases S.zero with h0 | h0
    · exact .inl h0
    · simp at h0
      rcases h0 with h0 | rfl
      · exact .inr h0
      · exact .inl h
  · rcases S.next b i q h1 h2 h3 with h0 | h0
    · exact .inl h0
    · simp at h0
      rcases h0 with h0 | rfl
      · exact .inr h0
      · exact .inl h
theorem mem_nextN {i : Ins} {a q : Nat} : ((q : Nat) : Int) ∈ nextI i a → q ∈ nextN i a := by
  intro h
  unfold nextN
  rw [List.mem_map]
  exact ⟨_, h, by simp⟩
theorem Seek.go {L : List Ins} {R T T' : List Bool} {w : List Nat} {a : Nat} {i : Ins} (S : Seek L R T (w ++ [a])) (hi : L[a]? = some i) (hnn : ∀ p ∈ nextI i a, 0 ≤ p) (hT' : T'.length = L.length)
    (ht : ∀ t : Nat, bAt T' t = true ↔ bAt T t = true ∨ (isJ i ∧ i.n = (t : Nat))) : Seek L (R.set a true) T' (w ++ nextN i a) := by
  have hal : a < R.length := by rw [S.lenR]; exact (List.getElem?_eq_some_iff.1 hi).1
  have ha : Reach (bareC L) a := S.wait a (by simp)
  have hset := fun j => bAt_set (l := R) (j := j) hal
  refine ⟨by simp [S.lenR], hT', fun b hb => ?_, fun b hb => ?_, ?_, fun b j q h1 h2 h3 => ?_, fun t => ?_⟩
  · rw [hset] at hb
    split at hb
    · rename_i e; rw [e]; exact ha
    · exact S.sound b hb
  · simp only [List.mem_append] at hb
    rcases hb with hb | hb
    · exact S.wait b (by simp [hb])
    · unfold nextN at hb
      rw [List.mem_map] at hb
      obtain ⟨p, hp, rfl⟩ := hb
      exact .step ha hi (by rw [Int.toNat_of_nonneg (hnn p hp)]; exact hp)
  · rw [hset]
    by_cases e : 0 = a
    · rw [if_pos e]; exact .inl rfl
    · rw [if_neg e]
      rcases S.zero with h0 | h0
      · exact .inl h0
      · simp at h0
        rcases h0 with h0 | h0
        · exact .inr (by simp [h0])
        · exact absurd h0 e
  · rw [hset] at h1 ⊢
    by_cases e : q = a
    · rw [if_pos e]; exact .inl rfl
    · rw [if_neg e]
      split at h1
      · rename_i eb
        subst eb
        rw [hi] at h2
        cases h2
        exact .inr (by simp [mem_nextN h3])
      · rcases S.next b j q h1 h2 h3 with h0 | h0
        · exact .inl h0
        · simp at h0
          rcases h0 with h0 | h0
          · exact .inr (by simp [h0])
          · exact absurd h0 e
  · rw [ht, S.tgt]
    constructor
    · rintro (⟨b, j, h1, h2, h3, h4⟩ | ⟨h1, h2⟩)
      · refine ⟨b, j, ?_, h2, h3, h4⟩
        rw [hset]
        split
        · rfl
        · exact h1
      · exact ⟨a, i, by rw [hset, if_pos rfl], hi, h1, h2⟩
    · rintro ⟨b, j, h1, h2, h3, h4⟩
      rw [hset] at h1
      split at h1
      · rename_i eb
        subst eb
        rw [hi] at h2
        cases h2
        exact .inr ⟨h3, h4⟩
      · exact .inl ⟨b, j, h1, h2, h3, h4⟩
def falses (R : List Bool) : Nat := R.countP (!·)
theorem falses_set {R : List Bool} {a : Nat} (h : R[a]? = some false) : falses (R.set a true) + 1 = falses R := by
  unfold falses
  induction R generalizing a with
  | nil => simp at h
  | cons x R ih =>
    cases a with
    | zero => simp at h; subst h; simp
    | succ a =>
      have := ih (a := a) (by simpa using h)
      simp only [List.set_cons_succ, List.countP_cons]
      omega
theorem bAt_rep (n i : Nat) : bAt (List.replicate n false) i = false := by
  unfold bAt
  rw [List.getElem?_replicate]
  split <;> rfl
theorem Seek.start {L : List Ins} : Seek L (List.replicate L.length false) (List.replicate L.length false) [0] := by
  have no : ∀ {a : Nat}, bAt (List.replicate L.length false) a = true → False := fun {a} h => by
    rw [bAt_rep] at h
    cases h
  refine ⟨by simp, by simp, fun a h => (no h).elim, fun a ha => ?_, .inr (by simp), fun a i q h => (no h).elim, fun t => ⟨fun h => (no h).elim, fun ⟨a, i, h, _⟩ => (no h).elim⟩⟩
  simp at ha
  subst ha
  exact .zero

theorem pfollow_spec (d : Nat) {H : AH} (hw : H.wf) {k : Nat} {s r t : AV} {L : List Ins} (hk : H.m k = some ⟨[s, r, t], 148, true⟩) (hrow : Row H s 3 (L.map insC)) {a : Nat} (ha : a < L.length) (hL : L.length ≤ 65536) :
    Ret (RT (d + 1) 102 [.ptr (some (k, 0)), .int .i64 (a : Nat)] H) fun x => Row x.2 x.1 1 ((nextI L[a] a).map fun p => [.int .i64 p]) ∧ Ext H.next H x.2 := by
  rw [R102]
  unfold F102
  obtain ⟨b, o, e1, e2, _⟩ := hrow.at (i := a) (by simpa using ha)
  simp only [List.getElem_map] at e2
  obtain ⟨p, hp⟩ : ∃ p, p = (b, o) := ⟨_, rfl⟩
  rw [← hp] at e1 e2
  have hin : insC L[a] = [.int .i64 L[a].op, .int .i64 L[a].n, .int .i64 L[a].m] := rfl
  rw [hin] at e2
  have hx : Ext H.next H (H.new [.int .i64 L[a].op, .int .i64 L[a].n, .int .i64 L[a].m] 29) := (Ext.refl hw).new _ _
  have hwr := wrapS (i := a) (by omega)
  generalize L[a] = i at *
  have one : ∀ p : Int, Row (((H.new [.int .i64 i.op, .int .i64 i.n, .int .i64 i.m] 29).new [.int .i64 p] 3)) (.slice (some (H.next + 1, 0)) 1 (.kn 1)) 1 [[.int .i64 p]] := fun p =>
    Own.row (l := [[.int .i64 p]]) (by omega) (Own.made (N := 0) (H := H.new [.int .i64 i.op, .int .i64 i.n, .int .i64 i.m] 29) (n := 1) (Nat.zero_le _) rfl) (by simp)
  have two : ∀ p q : Int, Row (((H.new [.int .i64 i.op, .int .i64 i.n, .int .i64 i.m] 29).new [.int .i64 p, .int .i64 q] 3)) (.slice (some (H.next + 1, 0)) 2 (.kn 2)) 1 [[.int .i64 p], [.int .i64 q]] := fun p q =>
    Own.row (l := [[.int .i64 p], [.int .i64 q]]) (by omega) (Own.made (N := 0) (H := H.new [.int .i64 i.op, .int .i64 i.n, .int .i64 i.m] 29) (n := 2) (Nat.zero_le _) rfl) (by simp)
  by_cases e20 : i.op = 20
  · have e17 : i.op ≠ 17 := by omega
    have e18 : i.op ≠ 18 := by omega
    simp -implicitDefEqProofs only [go_sem, Nat.reduceAdd, Nat.reduceMul, Nat.reduceLT, Nat.reduceLeDiff, Nat.reduceEqDiff, Nat.reduceBEq, reduceCtorEq, Int.reduceLT, Int.reduceLE, Int.reduceEq, Int.reduceGT, Int.reduceGE, Int.reduceToNat, Int.reduceNeg, hk, e1, e2, new_put, decide_eq_true e20]
    refine .mk ⟨?_, hx⟩
    simp only [nextI, if_neg e17, if_neg e18, if_pos e20]
    exact Row.nil _ _
  by_cases e17 : i.op = 17
  · simp -implicitDefEqProofs only [go_sem, Nat.reduceAdd, Nat.reduceMul, Nat.reduceLT, Nat.reduceLeDiff, Nat.reduceEqDiff, Nat.reduceBEq, reduceCtorEq, Int.reduceLT, Int.reduceLE, Int.reduceEq, Int.reduceGT, Int.reduceGE, Int.reduceToNat, Int.reduceNeg, hk, e1, e2, new_put, decide_eq_false e20, decide_eq_true e17]
    refine .mk ⟨?_, hx.new _ _⟩
    simp only [nextI, if_pos e17]
    exact one i.n
  by_cases e18 : i.op = 18
  · simp -implicitDefEqProofs only [go_sem, Nat.reduceAdd, Nat.reduceMul, Nat.reduceLT, Nat.reduceLeDiff, Nat.reduceEqDiff, Nat.reduceBEq, reduceCtorEq, Int.reduceLT, Int.reduceLE, Int.reduceEq, Int.reduceGT, Int.reduceGE, Int.reduceToNat, Int.reduceNeg, hk, e1, e2, new_put, decide_eq_false e20, decide_eq_false e17, decide_eq_true e18, hwr]
    refine .mk ⟨?_, hx.new _ _⟩
    simp only [nextI, if_neg e17, if_pos e18]
    exact two _ _
  · simp -implicitDefEqProofs only [go_sem, Nat.reduceAdd, Nat.reduceMul, Nat.reduceLT, Nat.reduceLeDiff, Nat.reduceEqDiff, Nat.reduceBEq, reduceCtorEq, Int.reduceLT, Int.reduceLE, Int.reduceEq, Int.reduceGT, Int.reduceGE, Int.reduceToNat, Int.reduceNeg, hk, e1, e2, new_put, decide_eq_false e20, decide_eq_false e17, decide_eq_false e18, hwr]
    refine .mk ⟨?_, hx.new _ _⟩
    simp only [nextI, if_neg e17, if_neg e18, if_neg e20]
    exact one _

theorem mk139 (n : Nat) (h : n ≤ 1000000) : nMakeSlice Tryd.prog 139 (.int .i64 (n : Nat)) (.int .i64 (n : Nat)) = some ⟨List.replicate n (.bool false), 4, fun b => .slice (some (b, 0)) n (.kn n)⟩ := by
  obtain ⟨i, hi, hb⟩ : ∃ i, Tryd.prog.info? 4 = some i ∧ i.bytes = 1 := by
    have h1 : (Tryd.prog.info? 4).isSome = true := by kernel_rfl
    have h2 : ((Tryd.prog.info? 4).map (·.bytes)).getD 0 = 1 := by kernel_rfl
    obtain ⟨i, hi⟩ := Option.isSome_iff_exists.1 h1
    rw [hi] at h2
    exact ⟨i, hi, h2⟩
  have hu : Tryd.prog.underlying 139 = some (.slice 4) := by kernel_rfl
  have hz : zeroL Tryd.prog 4 = some [.bool false] := by kernel_rfl
  have hc : Tryd.prog.cellsOf 4 = 1 := by kernel_rfl
  unfold nMakeSlice
  simp only [hu, hi, hz, Option.bind_some, hc]
  rw [if_pos ⟨by omega, Int.le_refl _, by rw [hb]; omega, by omega, by simp⟩]
  simp only [Int.toNat_natCast, Nat.mul_one]
  congr 2
  unfold pat
  apply List.ext_getElem?
  intro j
  rw [List.getElem?_map, List.getElem?_replicate]
  by_cases hj : j < n
  · rw [List.getElem?_range hj, if_pos hj]
    simp [Nat.mod_one]
  · rw [if_neg hj, List.getElem?_eq_none (by simp; omega)]
    rfl
structure Lk (Hb : AH) (s : AV) (L : List Ins) (R T : List Bool) (H : AH) : Prop where
  ext : Ext Hb.next Hb H
  lt : Hb.next + 2 < H.next
  rb : H.m Hb.next = some ⟨R.map .bool, 4, true⟩
  tb : H.m (Hb.next + 1) = some ⟨T.map .bool, 4, true⟩
  kb : H.m (Hb.next + 2) = some ⟨[s, .slice (some (Hb.next, 0)) L.length (.kn L.length), .slice (some (Hb.next + 1, 0)) L.length (.kn L.length)], 148, true⟩
theorem Lk.on {Hb : AH} {s : AV} {L : List Ins} {R T : List Bool} {H H' : AH} (K : Lk Hb s L R T H) (h : Ext (Hb.next + 3) H H') : Lk Hb s L R T H' :=
  ⟨K.ext.trans h (by omega), by have := h.next; omega, by rw [h.low _ (by omega)]; exact K.rb, by rw [h.low _ (by omega)]; exact K.tb, by rw [h.low _ (by omega)]; exact K.kb⟩
theorem Lk.setR {Hb : AH} {s : AV} {L : List Ins} {R T : List Bool} {H : AH} (K : Lk Hb s L R T H) (a : Nat) : Lk Hb s L (R.set a true) T (H.put Hb.next ⟨(R.map AV.bool).set a (.bool true), 4, true⟩) := by
  have := K.lt
  refine ⟨K.ext.put (Nat.le_refl _) (by omega) _, K.lt, by simp [List.map_set], ?_, ?_⟩
  · simp only [put_m]; rw [if_neg (by omega)]; exact K.tb
  · simp only [put_m]; rw [if_neg (by omega)]; exact K.kb
theorem Lk.setT {Hb : AH} {s : AV} {L : List Ins} {R T : List Bool} {H : AH} (K : Lk Hb s L R T H) (a : Nat) : Lk Hb s L R (T.set a true) (H.put (Hb.next + 1) ⟨(T.map AV.bool).set a (.bool true), 4, true⟩) := by
  have := K.lt
  refine ⟨K.ext.put (by omega) (by omega) _, K.lt, ?_, by simp [List.map_set], ?_⟩
  · simp only [put_m]; rw [if_neg (by omega)]; exact K.rb
  · simp only [put_m]; rw [if_neg (by omega)]; exact K.kb
theorem boolRow_of {H : AH} {b n : Nat} {l : List Bool} {e : TypeId} {w : Bool} (h : H.m b = some ⟨l.map .bool, e, w⟩) (hl : l.length = n) : BoolRow H (.slice (some (b, 0)) n (.kn n)) l := by
  subst hl
  refine ⟨fun x hx => by simp only [List.mem_map] at hx; obtain ⟨_, _, rfl⟩ := hx; rfl, .inr ⟨_, _, by rw [List.length_map], .inr ⟨b, 0, _, rfl, h, by simp, fun i hi => ?_⟩⟩⟩
  simp only [List.length_map] at hi
  simp only [Nat.zero_add, Nat.mul_one, List.getElem_map]
  rw [List.drop_eq_getElem_cons (by simpa using hi)]
  simp
theorem Lk.sight {Hb : AH} {s : AV} {L : List Ins} {R T : List Bool} {H : AH} (K : Lk Hb s L R T H) (hw : Hb.wf) (hrow : Row Hb s 3 (L.map insC)) (hc : CapOk s) (hR : R.length = L.length) (hT : T.length = L.length) : Sight H (Hb.next + 2) s L R T :=
  ⟨⟨_, _, K.kb, boolRow_of K.rb hR, boolRow_of K.tb hT⟩, hrow.mono (K.ext.sub hw), hc, hR, hT⟩
def natsC (w : List Nat) : List Int := w.map fun n => ((n : Nat) : Int)
structure ILk (Hb : AH) (s : AV) (L : List Ins) (f : Nat) (t : St) : Prop where
  t0 : t.1 0 = s
  t3 : t.1 3 = .ptr (some (Hb.next + 2, 0))
  rest : ∃ R T w, Lk Hb s L R T t.2 ∧ OwnI (Hb.next + 3) t.2 (t.1 4) (natsC w) ∧ Seek L R T w ∧ 3 * falses R + w.length < f ∧ f ≤ 300000
def ELk (Hb : AH) (s : AV) (L : List Ins) (r : Ex × St) : Prop :=
  r.1 = .exit 0 ∧ r.2.1 3 = .ptr (some (Hb.next + 2, 0)) ∧ ∃ R T, Lk Hb s L R T r.2.2 ∧ Seek L R T []
theorem nextI_len (i : Ins) (a : Nat) : (nextI i a).length ≤ 2 := by
  unfold nextI
  split
  · simp
  · split
    · simp
    · split <;> simp
theorem ints_flat (l : List Int) : (l.map fun p => [AV.int .i64 p]).flatten = intsC l := by
  rw [flat_one]
  rfl
theorem look_tail (d : Nat) {Hb : AH} (hw : Hb.wf) {s : AV} {L : List Ins} (hrow : Row Hb s 3 (L.map insC)) (P : Plain L) {R Tg : List Bool} {H3 : AH} {T : Tm} {a : Nat} {w : List Nat} (ha : a < L.length) (hnn : ∀ p ∈ nextI L[a] a, 0 ≤ p) (K : Lk Hb s L R Tg H3)
    (hwait : OwnI (Hb.next + 3) H3 (T 4) (natsC w)) (S : Seek L R Tg (w ++ nextN L[a] a)) {f : Nat} (t0 : T 0 = s) (t3 : T 3 = .ptr (some (Hb.next + 2, 0))) (t5 : T 5 = .int .i64 (a : Nat)) (hlt : 3 * falses R + w.length + 2 < f) (hf : f ≤ 300000) :
    Ret (jn (F75_J0 (RT (d + 1)) (Ri.iter big) T H3) (F75_J1 (RT (d + 1)) (Ri.iter big))) fun r => (r.1 = .normal ∧ ILk Hb s L f r.2) ∨ (r.1 ≠ .normal ∧ ELk Hb s L r) := by
  obtain ⟨⟨v, H4⟩, h102, hr4, hx4⟩ := pfollow_spec d K.ext.wf K.kb (hrow.mono (K.ext.sub hw)) ha P.few
  simp only at hr4 hx4
  have x4 : Ext (Hb.next + 3) H3 H4 := hx4.less K.lt
  have K4 := K.on x4
  have hwait4 : OwnI (Hb.next + 3) H4 (T 4) (natsC w) := hwait.keep K.ext.wf hx4.low
  obtain ⟨hl4, hs4⟩ := hr4.src
  have hnl := nextI_len L[a] a
  have hfl := ints_flat (nextI L[a] a)
  rw [hfl] at hs4
  have hxs : Ext (Hb.next + 3) H4 H4 := Ext.self K4.ext.wf K4.lt
  unfold F75_J0
  simp -implicitDefEqProofs only [go_sem, Nat.reduceAdd, Nat.reduceMul, Nat.reduceLT, Nat.reduceLeDiff, Nat.reduceEqDiff, Nat.reduceBEq, reduceCtorEq, Int.reduceLT, Int.reduceLE, Int.reduceEq, Int.reduceGT, Int.reduceGE, Int.reduceToNat, Int.reduceNeg, t3, t5, h102]
  refine ret_bind (ret_bind ((app_own ysl40 (by kernel_rfl) hwait4 hxs hl4 hs4 (by rw [intsC_len]; simp) (by rw [intsC_len, intsC_len, natsC, List.length_map]; omega)).mono ?_))
  rintro ⟨v5, H5⟩ ⟨h1, h2, _⟩
  simp only at h1 h2
  refine .mk ?_
  simp -implicitDefEqProofs only [go_sem, Nat.reduceAdd, Nat.reduceMul, Nat.reduceLT, Nat.reduceLeDiff, Nat.reduceEqDiff, Nat.reduceBEq, reduceCtorEq, Int.reduceLT, Int.reduceLE, Int.reduceEq, Int.reduceGT, Int.reduceGE, Int.reduceToNat, Int.reduceNeg, F75_J1]
  refine .mk (.inl ⟨rfl, ?_, ?_, R, Tg, w ++ nextN L[a] a, K4.on h2, ?_, S, ?_, hf⟩)
  · simp -implicitDefEqProofs only [go_sem, Nat.reduceEqDiff, Nat.reduceBEq, reduceCtorEq, t0]
  · simp -implicitDefEqProofs only [go_sem, Nat.reduceEqDiff, Nat.reduceBEq, reduceCtorEq, t3]
  · simp -implicitDefEqProofs only [go_sem, Nat.reduceEqDiff, Nat.reduceBEq, reduceCtorEq]
    have e : intsC (natsC (w ++ nextN L[a] a)) = intsC (natsC w) ++ intsC (nextI L[a] a) := by
      unfold natsC intsC nextN
      rw [List.map_append, List.map_append]
      congr 2
      rw [List.map_map]
      conv => rhs; rw [← List.map_id (nextI L[a] a)]
      exact List.map_congr_left fun p hp => by simp only [Function.comp, id]; exact Int.toNat_of_nonneg (hnn p hp)
    show Own _ _ _ _ _ (intsC (natsC (w ++ nextN L[a] a)))
    rw [e]
    exact h1
  · simp only [List.length_append, nextN, List.length_map]
    omega
theorem Row.blk {H : AH} {s : AV} {k : Nat} {l : List (List AV)} (h : Row H s k l) {i : Nat} (hi : i < l.length) :
    ∃ b o B, (∀ kd, idxSl s (.int kd (i : Nat)) k = some (.ptr (some (b, o)))) ∧ H.m b = some B ∧ o + k ≤ B.cells.length ∧ (B.cells.drop o).take k = l[i] := by
  rcases h.is with ⟨_, rfl⟩ | ⟨a, c, rfl, h2⟩
  · simp at hi
  rcases h2 with rfl | ⟨b, o, B, rfl, hB, hl, hr⟩
  · simp at hi
  · have hik : i * k + k ≤ l.length * k := by rw [← Nat.succ_mul]; exact Nat.mul_le_mul_right k hi
    refine ⟨b, o + i * k, B, fun kd => ?_, hB, by omega, hr i hi⟩
    simp [idxSl]; omega
theorem cut_get {l : List AV} {o : Nat} {x : List AV} {k : Nat} (h : (l.drop o).take k = x) {j : Nat} (hj : j < k) : l[o + j]? = x[j]? := by
  rw [← h, List.getElem?_take, if_pos hj, List.getElem?_drop]
set_option maxHeartbeats 4000000 in
theorem look_round (d : Nat) {Hb : AH} (hw : Hb.wf) {s : AV} {L : List Ins} (hrow : Row Hb s 3 (L.map insC)) (P : Plain L) (hin : ∀ a, Reach (bareC L) a → a < L.length) (f : Nat) (t : St) (hI : ILk Hb s L (f + 1) t) :
    Ret (F75_L2 (RT (d + 1)) (Ri.iter big) t) fun r => (r.1 = .normal ∧ ILk Hb s L f r.2) ∨ (r.1 ≠ .normal ∧ ELk Hb s L r) := by
  obtain ⟨T, H⟩ := t
  obtain ⟨t0, t3, R, Tg, w, K, hwait, S, hlt, hf⟩ := hI
  simp only at t0 t3 K hwait
  have hLl := P.few
  have hwl : aLen Tryd.prog 40 (T 4) = some (.int .i64 (w.length : Nat)) := by rw [hwait.alen ysl40.under, intsC_len, natsC, List.length_map]
  unfold F75_L2
  rcases List.eq_nil_or_concat w with rfl | ⟨w', a, rfl⟩
  · simp -implicitDefEqProofs only [go_sem, Nat.reduceEqDiff, Nat.reduceBEq, reduceCtorEq, hwl]
    refine .mk (.inr ⟨by simp, rfl, ?_, R, Tg, K, S⟩)
    simp -implicitDefEqProofs only [go_sem, Nat.reduceAdd, Nat.reduceMul, Nat.reduceLT, Nat.reduceLeDiff, Nat.reduceEqDiff, Nat.reduceBEq, reduceCtorEq, Int.reduceLT, Int.reduceLE, Int.reduceEq, Int.reduceGT, Int.reduceGE, Int.reduceToNat, Int.reduceNeg, t3]
  · rw [List.concat_eq_append] at *
    have hwl' : aLen Tryd.prog 40 (T 4) = some (.int .i64 ((w'.length + 1 : Nat) : Int)) := by rw [hwl]; simp
    have halt : a < L.length := hin a (S.wait a (by simp))
    have hpos : decide (((w'.length + 1 : Nat) : Int) > 0) = true := decide_eq_true (by omega)
    have hsub1 : IntKind.i64.wrap (((w'.length + 1 : Nat) : Int) - 1) = ((w'.length : Nat) : Int) := by
      simp only [List.length_append, List.length_cons, List.length_nil] at hlt
      rw [wrapR (by omega)]
      omega
    obtain ⟨bw, Bw, haw, hNw, hbwn, hBwm, _, _, hgw, hidw, _⟩ := hwait.cell K.ext.wf (i := w'.length) (by rw [intsC_len]; simp [natsC])
    have hwa : (natsC (w' ++ [a]))[w'.length]? = some ((a : Nat) : Int) := by simp [natsC]
    rw [intsC_get, hwa] at hgw
    simp only [Option.map_some] at hgw
    obtain ⟨s', hcut, hwait', hat'⟩ := hwait.cut (n := w'.length + 1) (j := w'.length) (by rw [intsC_len]; simp [natsC]) (by omega) (by omega) .i64
    have hwait2 : OwnI (Hb.next + 3) H s' (natsC w') := by
      have : (intsC (natsC (w' ++ [a]))).take (w'.length * 1) = intsC (natsC w') := by
        rw [Nat.mul_one]
        simp only [intsC, natsC, List.map_append]
        rw [List.take_append_of_le_length (by simp), List.take_of_length_le (by simp)]
      rw [this] at hwait'
      exact hwait'
    have hal : ((0 : Int) ≤ ((a : Nat) : Int) ∧ ((a : Nat) : Int) < ((L.length : Nat) : Int)) = True := by simp; omega
    have halR : a < R.length := by rw [S.lenR]; exact halt
    have hRa : (R.map AV.bool)[a]? = some (.bool R[a]) := by rw [List.getElem?_map, List.getElem?_eq_getElem halR]; rfl
    simp only [List.length_append, List.length_cons, List.length_nil] at hlt
    cases hv : R[a]
    · rw [hv] at hRa
      have hRa' : R[a]? = some false := by rw [List.getElem?_eq_getElem halR, hv]
      have K2 := K.setR a
      obtain ⟨bi, oi, Bi, ei, hBi, hleB, hcutB⟩ := Row.blk hrow (i := a) (by simpa using halt)
      simp only [List.getElem_map] at hcutB
      have hbl : bi < Hb.next := hw _ _ hBi
      have hBH : H.m bi = some Bi := by rw [K.ext.low _ hbl]; exact hBi
      have n1 : ¬ bi = Hb.next := by omega
      have n2 : ¬ bi = H.next := by have := K.lt; omega
      have n3 : ¬ Hb.next + 2 = H.next := by have := K.lt; omega
      have n4 : ¬ Hb.next + 1 = H.next := by have := K.lt; omega
      have hleB' : (oi + 3 ≤ Bi.cells.length) = True := eq_true hleB
      have hin1 : insC L[a] = [.int .i64 L[a].op, .int .i64 L[a].n, .int .i64 L[a].m] := rfl
      have hB1 : Bi.cells[oi + 1]? = some (.int .i64 L[a].n) := by rw [cut_get hcutB (by omega)]; rfl
      have h101 := jumps_spec d (H.put Hb.next ⟨(R.map AV.bool).set a (.bool true), 4, true⟩) L[a]
      have hnn : ∀ p ∈ nextI L[a] a, 0 ≤ p := fun p hp => by
        unfold nextI at hp
        split at hp
        · simp at hp; subst hp; exact (P.jump _ (List.getElem_mem _) (.inl ‹_›)).1
        · split at hp
          · simp only [List.mem_cons, List.not_mem_nil, or_false] at hp
            rcases hp with rfl | rfl
            · omega
            · exact (P.jump _ (List.getElem_mem _) (.inr ‹_›)).1
          · split at hp
            · simp at hp
            · simp at hp; omega
      have hcnt := falses_set hRa'
      have halr : (a < (R.map AV.bool).length) = True := eq_true (by simpa using halR)
      have hown2 : ∀ B, OwnI (Hb.next + 3) (H.put Hb.next B) s' (natsC w') := fun B => hwait2.mono fun b hb => by
        intro c h
        simp only [put_m]
        have hbN : Hb.next + 3 ≤ b := by
          obtain ⟨_, _, h2⟩ := hwait2.at (b := b) ⟨hb, c, h⟩
          exact h2
        rw [if_neg (by omega)]
      rw [hin1] at h101 hcutB
      by_cases hj : isJ L[a]
      · rw [decide_eq_true hj] at h101
        have hrg := P.jump _ (List.getElem_mem halt) hj
        have hjn : ((0 : Int) ≤ L[a].n ∧ L[a].n < ((L.length : Nat) : Int)) = True := eq_true ⟨hrg.1, hrg.2.1⟩
        have hTl : L[a].n.toNat < Tg.length := by rw [S.lenT]; omega
        have htl : (L[a].n.toNat < (Tg.map AV.bool).length) = True := eq_true (by simpa using hTl)
        simp -implicitDefEqProofs only [go_sem, Nat.reduceAdd, Nat.reduceMul, Nat.reduceLT, Nat.reduceLeDiff, Nat.reduceEqDiff, Nat.reduceBEq, reduceCtorEq, Int.reduceLT, Int.reduceLE, Int.reduceEq, Int.reduceGT, Int.reduceGE, Int.reduceToNat, Int.reduceNeg, t0, t3, hwl', hpos, hsub1, hidw, hBwm, hgw, hcut, K.kb, hal, K.rb, hRa, halr, ei, n1, n2, n3, n4, hBH, hleB', hcutB, h101, hB1, hjn, K.tb, htl]
        have K3 := (K2.on ((Ext.self K2.ext.wf K2.lt).new (insC L[a]) 29)).setT L[a].n.toNat
        refine look_tail d hw hrow P halt hnn K3 ?_ (S.go (T' := Tg.set L[a].n.toNat true) (List.getElem?_eq_getElem halt) hnn (by simp [S.lenT]) fun t => ?_) ?_ ?_ ?_ (by omega) (by omega)
        · simp -implicitDefEqProofs only [go_sem, Nat.reduceEqDiff, Nat.reduceBEq, reduceCtorEq]
          refine (((hown2 _).new K2.ext.wf (insC L[a]) 29).mono fun b hb c h => ?_)
          simp only [put_m]
          have hbN : Hb.next + 3 ≤ b := by
            obtain ⟨_, _, h2⟩ := hwait2.at (b := b) ⟨hb, c, h⟩
            exact h2
          rw [if_neg (by omega)]
        · rw [bAt_set hTl]
          by_cases e : t = L[a].n.toNat
          · rw [if_pos e]
            simp only [true_iff]
            exact .inr ⟨hj, by omega⟩
          · rw [if_neg e]
            exact ⟨.inl, fun h => h.resolve_right fun h2 => e (by omega)⟩
        · simp -implicitDefEqProofs only [go_sem, Nat.reduceEqDiff, Nat.reduceBEq, reduceCtorEq, t0]
        · simp -implicitDefEqProofs only [go_sem, Nat.reduceEqDiff, Nat.reduceBEq, reduceCtorEq, t3]
        · simp -implicitDefEqProofs only [go_sem, Nat.reduceEqDiff, Nat.reduceBEq, reduceCtorEq]
      · rw [decide_eq_false hj] at h101
        simp -implicitDefEqProofs only [go_sem, Nat.reduceAdd, Nat.reduceMul, Nat.reduceLT, Nat.reduceLeDiff, Nat.reduceEqDiff, Nat.reduceBEq, reduceCtorEq, Int.reduceLT, Int.reduceLE, Int.reduceEq, Int.reduceGT, Int.reduceGE, Int.reduceToNat, Int.reduceNeg, t0, t3, hwl', hpos, hsub1, hidw, hBwm, hgw, hcut, K.kb, hal, K.rb, hRa, halr, ei, n1, n2, hBH, hleB', hcutB, h101]
        have K3 := K2.on ((Ext.self K2.ext.wf K2.lt).new (insC L[a]) 29)
        refine look_tail d hw hrow P halt hnn K3 ?_ (S.go (T' := Tg) (List.getElem?_eq_getElem halt) hnn S.lenT fun t => ⟨.inl, fun h => h.resolve_right fun h2 => hj h2.1⟩) ?_ ?_ ?_ (by omega) (by omega)
        · simp -implicitDefEqProofs only [go_sem, Nat.reduceEqDiff, Nat.reduceBEq, reduceCtorEq]
          exact (hown2 _).new K2.ext.wf _ _
        · simp -implicitDefEqProofs only [go_sem, Nat.reduceEqDiff, Nat.reduceBEq, reduceCtorEq, t0]
        · simp -implicitDefEqProofs only [go_sem, Nat.reduceEqDiff, Nat.reduceBEq, reduceCtorEq, t3]
        · simp -implicitDefEqProofs only [go_sem, Nat.reduceEqDiff, Nat.reduceBEq, reduceCtorEq]
    · rw [hv] at hRa
      simp -implicitDefEqProofs only [go_sem, Nat.reduceAdd, Nat.reduceMul, Nat.reduceLT, Nat.reduceLeDiff, Nat.reduceEqDiff, Nat.reduceBEq, reduceCtorEq, Int.reduceLT, Int.reduceLE, Int.reduceEq, Int.reduceGT, Int.reduceGE, Int.reduceToNat, Int.reduceNeg, t0, t3, hwl', hpos, hsub1, hidw, hBwm, hgw, hcut, K.kb, hal, K.rb, hRa, F75_J1]
      refine .mk (.inl ⟨rfl, ?_, ?_, R, Tg, w', K, ?_, S.old (by rw [bAt_eq halR, hv]), by omega, by omega⟩)
      · simp -implicitDefEqProofs only [go_sem, Nat.reduceEqDiff, Nat.reduceBEq, reduceCtorEq, t0]
      · simp -implicitDefEqProofs only [go_sem, Nat.reduceEqDiff, Nat.reduceBEq, reduceCtorEq, t3]
      · simp -implicitDefEqProofs only [go_sem, Nat.reduceEqDiff, Nat.reduceBEq, reduceCtorEq]
        exact hwait2

set_option maxHeartbeats 1000000 in
theorem look_spec (d : Nat) {H : AH} (hw : H.wf) {s : AV} {L : List Ins} (hrow : Row H s 3 (L.map insC)) (hc : CapOk s) (P : Plain L) (hin : ∀ a, Reach (bareC L) a → a < L.length) :
    Ret (RT (d + 2) 75 [s] H) fun r => Ext H.next H r.2 ∧ ∃ k R T, r.1 = .ptr (some (k, 0)) ∧ Sight r.2 k s L R T ∧ bAt R = reachL L ∧ bAt T = targL L := by
  rw [R75]
  unfold F75
  have hL := P.few
  have hal : aLen Tryd.prog 22 s = some (.int .i64 (L.length : Nat)) := by rw [hrow.alen ysl22.under, List.length_map]
  have hmk := mk139 L.length (by omega)
  obtain ⟨p, n, c, rfl, _⟩ := hc
  have hwf3 : ∀ B1 B2 B3, Ext H.next H ((((H.res 3).put H.next B1).put (H.next + 1) B2).put (H.next + 2) B3) := fun B1 B2 B3 => by
    have h0 : Ext H.next H (H.res 3) := Ext.res (Ext.refl hw) 3
    exact ((h0.put (Nat.le_refl _) (by simp) _).put (by omega) (by simp) _).put (by omega) (by simp) _
  have K : Lk H (.slice (some p) n c) L (List.replicate L.length false) (List.replicate L.length false) (((((H.res 3).put H.next ⟨List.replicate L.length (.bool false), 4, true⟩).put (H.next + 1) ⟨List.replicate L.length (.bool false), 4, true⟩).put (H.next + 2) ⟨[.slice (some p) n c, .slice (some (H.next, 0)) L.length (.kn L.length), .slice (some (H.next + 1, 0)) L.length (.kn L.length)], 148, true⟩).new [.int .i64 0] 3) := by
    refine ⟨(hwf3 _ _ _).new _ _, by simp, ?_, ?_, ?_⟩
    · simp
    · simp
    · simp
  simp -implicitDefEqProofs only [go_sem, Nat.reduceAdd, Nat.reduceMul, Nat.reduceLT, Nat.reduceLeDiff, Nat.reduceEqDiff, Nat.reduceBEq, reduceCtorEq, Int.reduceLT, Int.reduceLE, Int.reduceEq, Int.reduceGT, Int.reduceGE, Int.reduceToNat, Int.reduceNeg, hal, hmk]
  refine Ret.then (Q' := ELk H (.slice (some p) n c) L) (Ret.iter (ILk H (.slice (some p) n c) L) _ (fun f t hI => look_round d hw hrow P hin f t hI) (fun t ht => by obtain ⟨_, _, _, _, _, _, _, _, h, _⟩ := ht; exact absurd h (Nat.not_lt_zero _)) 300000 big _ (by unfold big; omega)
    ⟨?_, ?_, _, _, [0], K, ?_, Seek.start, ?_, Nat.le_refl _⟩) ?_
  · simp -implicitDefEqProofs only [go_sem, Nat.reduceEqDiff, Nat.reduceBEq, reduceCtorEq]
  · simp -implicitDefEqProofs only [go_sem, Nat.reduceEqDiff, Nat.reduceBEq, reduceCtorEq]
  · simp -implicitDefEqProofs only [go_sem, Nat.reduceEqDiff, Nat.reduceBEq, reduceCtorEq]
    exact Own.made (N := H.next + 3) (n := 1) (by simp) rfl
  · have : falses (List.replicate L.length false) ≤ L.length := by
      have := List.countP_le_length (p := fun b : Bool => !b) (l := List.replicate L.length false)
      simpa [falses] using this
    simp only [List.length_cons, List.length_nil]
    omega
  · rintro ⟨e, T, H1⟩ ⟨rfl, t3, R, Tg, K1, S1⟩
    simp only at t3 K1
    simp -implicitDefEqProofs only [go_sem, Nat.reduceAdd, Nat.reduceMul, Nat.reduceLT, Nat.reduceLeDiff, Nat.reduceEqDiff, Nat.reduceBEq, reduceCtorEq, Int.reduceLT, Int.reduceLE, Int.reduceEq, Int.reduceGT, Int.reduceGE, Int.reduceToNat, Int.reduceNeg, t3]
    exact .mk ⟨K1.ext, H.next + 2, R, Tg, rfl, K1.sight hw hrow ⟨_, _, _, rfl, ‹_›⟩ S1.lenR S1.lenT, S1.done.1, S1.done.2⟩
end Go.Proofs.YthiflgncldmkjaaDoor
set_option linter.unusedVariables false
set_option linter.unusedSimpArgs false
set_option maxRecDepth 100000
namespace Go.Ri

theorem Own.cut3 {N sz : Nat} {e : TypeId} {H : AH} {s : AV} {cs : List AV} (h : Own N sz e H s cs) {n j : Nat} (hn : cs.length = n * sz) (hpos : 0 < sz) (hn0 : 0 < n) (hj : j ≤ n) (k : IntKind) :
    ∃ b, At s b ∧ slSl s sz none (some (.int k (j : Nat))) (some (.int k (j : Nat))) = some (.slice (some (b, 0)) j (.kn j)) ∧ Own N sz e H (.slice (some (b, 0)) j (.kn j)) (cs.take (j * sz)) := by
  rcases h with ⟨rfl, rfl⟩ | ⟨b, m, c, B, rfl, hc, hcl, hb, hbe, hbr, hbl, htk, hN⟩
  · have h : n * sz = 0 := hn.symm
    have := Nat.mul_pos hn0 hpos
    omega
  · have hmn : m = n := Nat.eq_of_mul_eq_mul_right hpos (hcl.symm.trans hn)
    subst hmn
    have hjm : j * sz ≤ m * sz := Nat.mul_le_mul_right _ hj
    refine ⟨b, ⟨m, c, rfl⟩, ?_, .inr ⟨b, j, _, B, rfl, .inr ⟨j, rfl, Nat.le_refl _, by omega⟩, by rw [List.length_take, hcl]; omega, hb, hbe, hbr, by omega, ?_, hN⟩⟩
    · have h1 : bnds m c.known none (some (.int k (j : Nat))) (some (.int k (j : Nat))) = some (0, j, some j) := by
        unfold bnds
        simp only
        rw [bnd_nat k (by rcases hc with rfl | ⟨mc, rfl, hm, _⟩; simpa [Cap.known] using hj; simp [Cap.known]; omega)]
        simp only [Option.bind_some]
        rw [bnd_nat k (Nat.le_refl _)]
        rfl
      rw [slSl_ptr _ _ _ _ _ _ _ (by rcases hc with rfl | ⟨mc, rfl, _⟩; exact .inl rfl; exact .inr rfl), h1]
      rfl
    · rw [← htk, List.take_take]
      congr 1
      omega
theorem app_full {P : Program} {t xt e sz by_ : Nat} (T : SlT P t e sz by_) (hq : seqT P xt = true)
    {N : Nat} {H : AH} {b j : Nat} {x : AV} {cs ds : List AV} {n : Nat} (hs : Own N sz e H (.slice (some (b, 0)) j (.kn j)) cs) (hw : H.wf) (hN : N ≤ H.next) (hx : aLenOf x = some n) (hd : srcN sz n x H = some ds) (hdl : ds.length = n * sz)
    (hlim : (cs.length + ds.length) * by_ ≤ 140737488355328 * sz) :
    Ret (aAppend P t xt (.slice (some (b, 0)) j (.kn j)) x H) fun r => Own N sz e r.2 r.1 (cs ++ ds) ∧ Ext H.next H r.2 ∧ ((ds = [] ∧ r = (.slice (some (b, 0)) j (.kn j), H)) ∨ Own H.next sz e r.2 r.1 (cs ++ ds)) := by
  obtain ⟨i, hi, rfl, rfl⟩ := T.info
  obtain ⟨z, hz, hzl⟩ := T.zero
  have hzp := T.pos
  unfold aAppend
  simp only [T.under, hi, hz, Option.bind_some]
  rw [if_pos ⟨hq, by omega, hzl, rfl⟩]
  simp only [hx, hd, Option.bind_some]
  have bound : ∀ m : Nat, m * i.size = cs.length + ds.length → m * i.bytes ≤ 140737488355328 ∧ m ≤ 9223372036854775807 := by
    intro m hm
    rw [← hm, Nat.mul_right_comm] at hlim
    have h1 := Nat.le_of_mul_le_mul_right hlim hzp
    have h2 : m ≤ m * i.bytes := Nat.le_mul_of_pos_right m T.bpos
    omega
  cases n with
  | zero =>
    have : ds = [] := List.eq_nil_of_length_eq_zero (by simpa using hdl)
    subst this
    exact .mk ⟨by simpa using hs, .refl hw, .inl ⟨rfl, rfl⟩⟩
  | succ n =>
    rcases hs with ⟨h, _⟩ | ⟨b', m, c, B, h, hc, hcl, hb, hbe, hbr, hbl, htk, hN'⟩
    · cases h
    · cases h
      have hold : oldN i.size j (some (b, 0)) H = some cs := by
        cases j with
        | zero =>
          have : cs = [] := List.eq_nil_of_length_eq_zero (by omega)
          subst this
          rfl
        | succ j =>
          simp only [oldN, AH.ldN, hb, Option.bind_some]
          rw [if_pos (by omega)]
          simp only [List.drop_zero, htk]
      simp only [appTo]
      rw [if_neg (by omega)]
      simp only [hold, Option.bind_some, grow]
      have hneed : (j + (n + 1)) * i.size = cs.length + ds.length := by rw [Nat.add_mul, hcl, hdl]
      rw [if_pos (bound _ hneed)]
      have mk : ∀ M, M ≤ H.next → Own M i.size e (H.new (cs ++ ds) e) (.slice (some (H.next, 0)) (j + (n + 1)) (.op i.size)) (cs ++ ds) := fun M hM =>
        .inr ⟨H.next, _, _, ⟨cs ++ ds, e, true⟩, rfl, .inl rfl, by simp [hneed], by simp, rfl, rfl, by simp [hneed], List.take_of_length_le (by simp [hneed]), hM⟩
      exact .mk ⟨mk N hN, (Ext.refl hw).new _ _, .inr (mk _ (Nat.le_refl _))⟩
theorem Own.el {N k : Nat} {e : TypeId} {H : AH} {s : AV} {l : List (List AV)} (h : Own N k e H s l.flatten) (hk : 0 < k) (hl : ∀ x ∈ l, x.length = k) (hw : H.wf) {i : Nat} (hi : i < l.length) :
    ∃ b B, At s b ∧ N ≤ b ∧ b < H.next ∧ H.m b = some B ∧ B.rw_ = true ∧ i * k + k ≤ B.cells.length ∧ (B.cells.drop (i * k)).take k = l[i] ∧ (∀ kd, idxSl s (.int kd (i : Nat)) k = some (.ptr (some (b, i * k)))) ∧
      ∀ j v, j < k → Own N k e (H.put b ⟨B.cells.set (i * k + j) v, B.elem, B.rw_⟩) s (l.set i (l[i].set j v)).flatten := by
  have hfl := flat_len l hl
  rcases h with ⟨_, h0⟩ | ⟨b, n, c, B, rfl, hc, hcl, hb, hbe, hbr, hbl, htk, hN⟩
  · rw [h0] at hfl
    have := Nat.mul_pos (show 0 < l.length by omega) hk
    simp at hfl
    omega
  · rw [hfl] at hcl
    have hln : l.length = n := Nat.eq_of_mul_eq_mul_right hk hcl
    subst hln
    have hik : i * k + k ≤ l.length * k := by rw [← Nat.succ_mul]; exact Nat.mul_le_mul_right k hi
    refine ⟨b, B, ⟨_, _, rfl⟩, hN, hw _ _ hb, hb, hbr, by omega, ?_, fun kd => ?_, fun j v hj => ?_⟩
    · rw [← flat_at l hl i hi, ← htk, List.drop_take, List.take_take, Nat.min_eq_left (by omega)]
    · simp [idxSl]; omega
    · have hset : (l.set i (l[i].set j v)).flatten = l.flatten.set (i * k + j) v := by
        clear hc hb htk hbl hfl hik hcl
        induction l generalizing i with
        | nil => simp at hi
        | cons x l ih =>
          have hx := hl x (by simp)
          cases i with
          | zero =>
            simp only [List.set_cons_zero, List.flatten_cons, List.getElem_cons_zero, Nat.zero_mul, Nat.zero_add]
            rw [List.set_append_left _ _ (by omega)]
          | succ i =>
            have := ih (fun y hy => hl y (by simp [hy])) (i := i) (by simpa using hi)
            simp only [List.set_cons_succ, List.flatten_cons, List.getElem_cons_succ, this]
            rw [List.set_append_right _ _ (by rw [hx, Nat.succ_mul]; omega)]
            congr 2
            rw [hx, Nat.succ_mul]
            omega
      rw [hset]
      refine .inr ⟨b, l.length, c, ⟨B.cells.set (i * k + j) v, B.elem, B.rw_⟩, rfl, ?_, by simp [hfl], by simp, hbe, hbr, by simpa using hbl, ?_, hN⟩
      · rcases hc with h | ⟨m, h1, h2, h3⟩
        · exact .inl h
        · exact .inr ⟨m, h1, h2, by simpa using h3⟩
      · simp only
        rw [List.take_set, htk]
end Go.Ri
namespace Go.Proofs.YthiflgncldmkjaaDoor
open Go.Ri
def insF (L : List Ins) : List AV := (L.map insC).flatten
theorem insF_len (L : List Ins) : (insF L).length = L.length * 3 := by
  unfold insF
  rw [flat_len _ (insC_len L), List.length_map]
theorem insF_append (a b : List Ins) : insF (a ++ b) = insF a ++ insF b := by simp [insF]
theorem insF_take (L : List Ins) (n : Nat) (h : n ≤ L.length) : (insF L).take (n * 3) = insF (L.take n) := by
  have e : L = L.take n ++ L.drop n := (List.take_append_drop n L).symm
  conv => lhs; rw [e, insF_append]
  rw [List.take_append_of_le_length (by rw [insF_len]; simp; omega), List.take_of_length_le (by rw [insF_len]; simp; omega)]
theorem Own.insRow {N : Nat} {H : AH} {s : AV} {L : List Ins} (h : Own N 3 29 H s (insF L)) : Row H s 3 (L.map insC) := Own.row (by omega) h (insC_len L)
theorem Own.capOk {N : Nat} {H : AH} {s : AV} {L : List Ins} (h : Own N 3 29 H s (insF L)) (h0 : 0 < L.length) : CapOk s := by
  rcases h with ⟨_, h⟩ | ⟨b, n, c, B, rfl, hc, _⟩
  · have := insF_len L
    rw [h] at this
    simp at this
    omega
  · exact ⟨_, n, c, rfl, hc.imp id fun ⟨m, h1, h2, _⟩ => ⟨m, h1, h2⟩⟩
theorem leftP_ok {op a b x : Int} (ha : InI a) (hb : InI b) (h : leftP op a b = some x) : InI x := by
  have hw : ∀ n : Int, InI (IntKind.i64.wrap n) := fun n => by rw [wrap_i]; unfold InI; omega
  have ht : ∀ c : Bool, InI (truthI c) := fun c => by cases c <;> (unfold truthI InI; simp)
  unfold leftP at h
  by_cases h7 : op = 7
  · rw [if_pos h7] at h; cases h; exact hw _
  rw [if_neg h7] at h
  by_cases h8 : op = 8
  · rw [if_pos h8] at h; cases h; exact hw _
  rw [if_neg h8] at h
  by_cases h9 : op = 9
  · rw [if_pos h9] at h; cases h; exact hw _
  rw [if_neg h9] at h
  by_cases h12 : op = 12
  · rw [if_pos h12] at h; cases h; exact ht _
  rw [if_neg h12] at h
  by_cases h13 : op = 13
  · rw [if_pos h13] at h; cases h; exact ht _
  rw [if_neg h13] at h
  by_cases h14 : op = 14
  · rw [if_pos h14] at h; cases h; exact ht _
  rw [if_neg h14] at h
  by_cases hb0 : b = 0
  · rw [if_pos hb0] at h; cases h
  rw [if_neg hb0] at h
  by_cases h10 : op = 10
  · rw [if_pos h10] at h; cases h; exact hw _
  rw [if_neg h10] at h
  by_cases h11 : op = 11
  · rw [if_pos h11] at h
    cases h
    unfold InI at *
    have h1 : (a.tmod b).natAbs ≤ a.natAbs := by rw [Int.natAbs_tmod]; exact Nat.mod_le _ _
    by_cases h0 : 0 ≤ a
    · have := Int.tmod_nonneg b h0
      omega
    · have h2 := Int.tmod_nonneg b (show 0 ≤ -a by omega)
      rw [Int.neg_tmod] at h2
      omega
  rw [if_neg h11] at h
  cases h
theorem ok_I0 : I0.Ok := ⟨by unfold InI I0; simp, by unfold InI I0; simp, by unfold InI I0; simp⟩
theorem Plain.at {L : List Ins} (P : Plain L) (p : Nat) : (insAt L p).Ok := by
  unfold insAt
  cases h : L[p]? with
  | none => exact ok_I0
  | some i => exact P.ok i (List.mem_of_getElem? h)
theorem Plain.jAt {L : List Ins} (P : Plain L) (T : Nat → Bool) (p : Nat) : (Go.Proofs.YthiflgncldmkjaaDoor.jAt T L p).Ok := by
  unfold Go.Proofs.YthiflgncldmkjaaDoor.jAt
  split
  · exact ok_I0
  · exact P.at _
theorem push_ok {n : Int} (h : InI n) : (pushI n).Ok := ⟨by unfold InI pushI; simp, h, by unfold InI pushI; simp⟩
theorem put_ok {R T : Nat → Bool} {L : List Ins} (P : Plain L) (p : Nat) : ∀ i ∈ (ruleP R T L p).put, i.Ok := by
  have hw : ∀ n : Int, InI (IntKind.i64.wrap n) := fun n => by rw [wrap_i]; unfold InI; omega
  have ht : ∀ c : Bool, InI (truthI c) := fun c => by cases c <;> (unfold truthI InI; simp)
  have one : ∀ {x : Ins} {a n : Nat}, x.Ok → ∀ i ∈ (⟨a, n, [x]⟩ : Chg).put, i.Ok := fun h i hi => by
    simp at hi
    subst hi
    exact h
  have zero : ∀ {a n : Nat}, ∀ i ∈ (⟨a, n, []⟩ : Chg).put, i.Ok := fun i hi => by simp at hi
  let M : Chg → Prop := fun X => ∀ i ∈ X.put, i.Ok
  have hi := P.at p
  have hj := P.jAt T p
  have single : M (singleP R L p (insAt L p)) := by
    unfold singleP
    refine chg_ite (fun _ => zero) fun _ => chg_ite (fun _ => zero) fun _ => chg_ite (fun _ => one ⟨by unfold InI; simp, by unfold InI; simp, by unfold InI; simp⟩) fun _ => chg_ite (fun _ => one ⟨hi.op, (P.at _).n, by unfold InI; simp⟩) fun _ => zero
  have pair : M (pairP (insAt L p) (jAt T L p) (kAt T L p)) := by
    unfold pairP
    refine chg_ite (fun _ => one (push_ok (hw _))) fun _ => chg_ite (fun _ => one (push_ok (ht _))) fun _ => chg_ite (fun h => one (push_ok ?_)) fun _ => chg_ite (fun _ => zero) fun _ => chg_ite (fun _ => zero) fun _ => chg_ite (fun _ => zero) fun _ => chg_ite (fun _ => zero) fun _ =>
      chg_ite (fun _ => one ⟨by unfold InI; simp, hj.n, by unfold InI; simp⟩) fun _ => chg_ite (fun _ => zero) fun _ => chg_ite (fun _ => zero) fun _ => chg_ite (fun h => one ⟨by unfold InI; simp, hi.n, ?_⟩) fun _ => zero
    · cases hl : leftP (kAt T L p).op (insAt L p).n (jAt T L p).n with
      | none => rw [hl] at h; simp at h
      | some x => exact leftP_ok hi.n hj.n hl
    · obtain ⟨h1, h2, h3, h4⟩ := h
      have e1 := insAt_some h1 (by omega)
      have e2 := (jAt_some (T := T) (L := L) (p := p) (by rw [h2]; omega)).2
      have c1 := P.clear _ (List.mem_of_getElem? e1) h1
      have c2 := P.clear _ (List.mem_of_getElem? e2) h2
      unfold InI
      simp only
      omega
  unfold ruleP
  exact chg_ite (M := M) (fun _ => single) fun _ => pair
end Go.Proofs.YthiflgncldmkjaaDoor
set_option linter.unusedVariables false
set_option linter.unusedSimpArgs false
set_option maxRecDepth 100000
namespace Go.Proofs.YthiflgncldmkjaaDoor
open Go.Ri

theorem insF_set {L : List Ins} {i : Nat} {x : Ins} (hi : i < L.length) (hx : L[i] = x) (q : Int) : ((L.map insC).set i ((insC x).set 1 (.int .i64 q))).flatten = insF (L.set i ⟨x.op, q, x.m⟩) := by
  unfold insF
  rw [List.map_set]
  rfl
structure ID (N : Nat) (H : AH) (out : AV) (A : List Ins) (p n m : Nat) (i : Nat) (t : St) : Prop where
  t1 : t.1 1 = .int .i64 (p : Nat)
  t5 : t.1 5 = .ptr (some (H.next, 0))
  t7 : t.1 7 = out
  t8 : t.1 8 = .int .i64 ((n : Int) - (m : Int))
  t37 : t.1 37 = out
  t38 : t.1 38 = .int .i64 (A.length : Nat)
  t39 : t.1 39 = .int .i64 (i : Nat)
  ext : Ext N H t.2
  lt : H.next < t.2.next
  blk : ∃ r s, t.2.m H.next = some ⟨[r, .int .i64 (n : Nat), s], 108, true⟩
  own : Own N 3 29 t.2 out (insF ((A.take i).map (mvI p n m) ++ A.drop i))
set_option maxHeartbeats 4000000 in
theorem done_loop (d : Nat) {N : Nat} {H : AH} (hw : H.wf) (hN : N ≤ H.next) {out : AV} {A : List Ins} {p n m : Nat} (hA : A.length ≤ 70000) (hp : p + n ≤ 70000) (hm : m ≤ n) (hn : 1 ≤ n) (hok : ∀ i ∈ A, i.Ok) (hat : ∀ b, At out b → b ≠ H.next) {T : Tm} {H1 : AH} (h0 : ID N H out A p n m 0 (T, H1)) :
    Ret (Ri.iter big (F97_L2 (RT (d + 1)) (Ri.iter big)) (T, H1)) fun r => r.1 = .exit 0 ∧ ID N H out A p n m A.length r.2 := by
  refine Ret.upTo (n := A.length) (ID N H out A p n m) (by unfold big; omega) h0 ?_ ?_
  · rintro i ⟨T1, H2⟩ hi ⟨t1, t5, t7, t8, t37, t38, t39, hx, hlt, ⟨br, bs, hb⟩, hown⟩
    simp only at t1 t5 t7 t8 t37 t38 t39 hx hlt hb hown
    have hcmp : decide (((i : Nat) : Int) < ((A.length : Nat) : Int)) = true := decide_eq_true (by omega)
    have hl0 : ((A.take i).map (mvI p n m) ++ A.drop i).length = A.length := by simp; omega
    have hget : ((A.take i).map (mvI p n m) ++ A.drop i)[i]'(by omega) = A[i] := by
      rw [List.getElem_append_right (by simp; omega)]
      simp [Nat.min_eq_left (Nat.le_of_lt hi)]
    have hstep : ∀ x : Ins, x = mvI p n m A[i] → ((A.take i).map (mvI p n m) ++ A.drop i).set i x = (A.take (i + 1)).map (mvI p n m) ++ A.drop (i + 1) := by
      rintro x rfl
      rw [List.set_append_right _ _ (by simp; omega)]
      have h1 : i - ((A.take i).map (mvI p n m)).length = 0 := by simp; omega
      rw [h1, List.drop_eq_getElem_cons hi, List.set_cons_zero, List.take_succ_eq_append_getElem hi, List.map_append, List.append_assoc]
      rfl
    have hsame : mvI p n m A[i] = A[i] → (A.take i).map (mvI p n m) ++ A.drop i = (A.take (i + 1)).map (mvI p n m) ++ A.drop (i + 1) := by
      intro h
      rw [List.drop_eq_getElem_cons hi, List.take_succ_eq_append_getElem hi, List.map_append, List.append_assoc]
      simp only [List.map_cons, List.map_nil, h]
      rfl
    obtain ⟨bo, Bo, hao, hNo, hbo, hBo, hrw, hle, hcut, hid, hset⟩ := hown.el (by omega) (insC_len _) hx.wf (i := i) (by rw [List.length_map]; omega)
    simp only [List.getElem_map, hget] at hcut hset
    have hbn : bo ≠ H.next := hat bo hao
    have hok1 := hok A[i] (List.getElem_mem _)
    have h101 := jumps_spec d (H2.new (insC A[i]) 29) A[i]
    have hi2 := fun q : Int => hset 1 (.int .i64 q) (by omega)
    have hin : insC A[i] = [.int .i64 A[i].op, .int .i64 A[i].n, .int .i64 A[i].m] := rfl
    have n1 : ¬ bo = H2.next := by omega
    have n2 : ¬ bo = H2.next + 1 := by omega
    have n3 : ¬ H.next = H2.next := by omega
    have n4 : ¬ H.next = H2.next + 1 := by omega
    have hle' : (i * 3 + 3 ≤ Bo.cells.length) = True := eq_true hle
    have hl1 : (i * 3 + 1 < Bo.cells.length) = True := eq_true (by omega)
    have hB1 : Bo.cells[i * 3 + 1]? = some (.int .i64 A[i].n) := by rw [cut_get hcut (by omega)]; rfl
    have hx2 : Ext N H ((H2.new (insC A[i]) 29).new (insC A[i]) 29) := (hx.new _ _).new _ _
    have hown2 : Own N 3 29 ((H2.new (insC A[i]) 29).new (insC A[i]) 29) out (insF ((A.take i).map (mvI p n m) ++ A.drop i)) := (hown.new hx.wf _ _).new (hx.new _ _).wf _ _
    have hwi := wrapS (i := i) (by omega)
    have hpn : IntKind.i64.wrap (((p : Nat) : Int) + ((n : Nat) : Int)) = ((p + n : Nat) : Int) := by rw [wrap_id (by unfold InI; omega)]; omega
    rw [hin] at hcut h101 hx2 hown2
    have hblk2 : (((H2.new [.int .i64 A[i].op, .int .i64 A[i].n, .int .i64 A[i].m] 29).new [.int .i64 A[i].op, .int .i64 A[i].n, .int .i64 A[i].m] 29)).m H.next = some ⟨[br, .int .i64 (n : Nat), bs], 108, true⟩ := by simp [n3, n4, hb]
    -- a target is moved: the same written into the heap with the two copies
    have hwr : ∀ q : Int, ⟨A[i].op, q, A[i].m⟩ = mvI p n m A[i] → Own N 3 29 ((((H2.new [.int .i64 A[i].op, .int .i64 A[i].n, .int .i64 A[i].m] 29).new [.int .i64 A[i].op, .int .i64 A[i].n, .int .i64 A[i].m] 29)).put bo ⟨Bo.cells.set (i * 3 + 1) (.int .i64 q), Bo.elem, true⟩) out (insF ((A.take (i + 1)).map (mvI p n m) ++ A.drop (i + 1))) := by
      intro q hq
      have h1 := hi2 q
      rw [insF_set (by omega) hget, hrw] at h1
      rw [hstep _ hq] at h1
      refine h1.mono fun b hb' c e => ?_
      have := hao.one ⟨hb', c, e⟩
      subst this
      simp
    have hput : ∀ B, Ext N H ((((H2.new [.int .i64 A[i].op, .int .i64 A[i].n, .int .i64 A[i].m] 29).new [.int .i64 A[i].op, .int .i64 A[i].n, .int .i64 A[i].m] 29)).put bo B) := fun B => hx2.put hNo (by simp only [new_next]; omega) B
    have hbp : ∀ B, ((((H2.new [.int .i64 A[i].op, .int .i64 A[i].n, .int .i64 A[i].m] 29).new [.int .i64 A[i].op, .int .i64 A[i].n, .int .i64 A[i].m] 29)).put bo B).m H.next = some ⟨[br, .int .i64 (n : Nat), bs], 108, true⟩ := fun B => by
      rw [put_m, if_neg (fun e => hbn e.symm)]
      exact hblk2
    unfold F97_L2
    by_cases hj : isJ A[i]
    · rw [decide_eq_true hj] at h101
      by_cases hge : A[i].n ≥ ((p + n : Nat) : Int)
      · have hq : IntKind.i64.wrap (A[i].n - (((n : Nat) : Int) - ((m : Nat) : Int))) = A[i].n - n + m := by
          have := hok1.n
          unfold InI at this
          rw [wrap_id (by unfold InI; omega)]
          omega
        simp -implicitDefEqProofs only [go_sem, Nat.reduceAdd, Nat.reduceMul, Nat.reduceLT, Nat.reduceLeDiff, Nat.reduceEqDiff, Nat.reduceBEq, reduceCtorEq, Int.reduceLT, Int.reduceLE, Int.reduceEq, Int.reduceGT, Int.reduceGE, Int.reduceToNat, Int.reduceNeg, t1, t5, t7, t8, t37, t38, t39, hcmp, hid, hBo, hle', hcut, new_put, h101, n1, n2, n3, n4, hb, hpn, decide_eq_true hge, hB1, hq, hrw, hl1, F97_J0, F97_J1, hwi]
        refine .mk (.inl ⟨rfl, ?_, ?_, ?_, ?_, ?_, ?_, ?_, hput _, by simp only [put_next, new_next]; omega, ⟨br, bs, hbp _⟩, hwr _ ?_⟩)
        · simp -implicitDefEqProofs only [go_sem, Nat.reduceEqDiff, Nat.reduceBEq, reduceCtorEq, t1]
        · simp -implicitDefEqProofs only [go_sem, Nat.reduceEqDiff, Nat.reduceBEq, reduceCtorEq, t5]
        · simp -implicitDefEqProofs only [go_sem, Nat.reduceEqDiff, Nat.reduceBEq, reduceCtorEq, t7]
        · simp -implicitDefEqProofs only [go_sem, Nat.reduceEqDiff, Nat.reduceBEq, reduceCtorEq, t8]
        · simp -implicitDefEqProofs only [go_sem, Nat.reduceEqDiff, Nat.reduceBEq, reduceCtorEq, t37]
        · simp -implicitDefEqProofs only [go_sem, Nat.reduceEqDiff, Nat.reduceBEq, reduceCtorEq, t38]
        · simp -implicitDefEqProofs only [go_sem, Nat.reduceEqDiff, Nat.reduceBEq, reduceCtorEq]
        · unfold mvI mvP
          rw [if_pos hj, if_neg (by omega), if_neg (by omega)]
      · by_cases hgt : A[i].n > ((p : Nat) : Int)
        · simp -implicitDefEqProofs only [go_sem, Nat.reduceAdd, Nat.reduceMul, Nat.reduceLT, Nat.reduceLeDiff, Nat.reduceEqDiff, Nat.reduceBEq, reduceCtorEq, Int.reduceLT, Int.reduceLE, Int.reduceEq, Int.reduceGT, Int.reduceGE, Int.reduceToNat, Int.reduceNeg, t1, t5, t7, t8, t37, t38, t39, hcmp, hid, hBo, hle', hcut, new_put, h101, n1, n2, n3, n4, hb, hpn, decide_eq_false hge, decide_eq_true hgt, hB1, hrw, hl1, F97_J0, F97_J1, hwi]
          refine .mk (.inl ⟨rfl, ?_, ?_, ?_, ?_, ?_, ?_, ?_, hput _, by simp only [put_next, new_next]; omega, ⟨br, bs, hbp _⟩, hwr _ ?_⟩)
          · simp -implicitDefEqProofs only [go_sem, Nat.reduceEqDiff, Nat.reduceBEq, reduceCtorEq, t1]
          · simp -implicitDefEqProofs only [go_sem, Nat.reduceEqDiff, Nat.reduceBEq, reduceCtorEq, t5]
          · simp -implicitDefEqProofs only [go_sem, Nat.reduceEqDiff, Nat.reduceBEq, reduceCtorEq, t7]
          · simp -implicitDefEqProofs only [go_sem, Nat.reduceEqDiff, Nat.reduceBEq, reduceCtorEq, t8]
          · simp -implicitDefEqProofs only [go_sem, Nat.reduceEqDiff, Nat.reduceBEq, reduceCtorEq, t37]
          · simp -implicitDefEqProofs only [go_sem, Nat.reduceEqDiff, Nat.reduceBEq, reduceCtorEq, t38]
          · simp -implicitDefEqProofs only [go_sem, Nat.reduceEqDiff, Nat.reduceBEq, reduceCtorEq]
          · unfold mvI mvP
            rw [if_pos hj, if_neg (by omega), if_pos (by omega)]
        · simp -implicitDefEqProofs only [go_sem, Nat.reduceAdd, Nat.reduceMul, Nat.reduceLT, Nat.reduceLeDiff, Nat.reduceEqDiff, Nat.reduceBEq, reduceCtorEq, Int.reduceLT, Int.reduceLE, Int.reduceEq, Int.reduceGT, Int.reduceGE, Int.reduceToNat, Int.reduceNeg, t1, t5, t7, t8, t37, t38, t39, hcmp, hid, hBo, hle', hcut, new_put, h101, n1, n2, n3, n4, hb, hpn, decide_eq_false hge, decide_eq_false hgt, F97_J0, F97_J1, hwi]
          refine .mk (.inl ⟨rfl, ?_, ?_, ?_, ?_, ?_, ?_, ?_, hx2, by simp only [new_next]; omega, ⟨br, bs, hblk2⟩, ?_⟩)
          · simp -implicitDefEqProofs only [go_sem, Nat.reduceEqDiff, Nat.reduceBEq, reduceCtorEq, t1]
          · simp -implicitDefEqProofs only [go_sem, Nat.reduceEqDiff, Nat.reduceBEq, reduceCtorEq, t5]
          · simp -implicitDefEqProofs only [go_sem, Nat.reduceEqDiff, Nat.reduceBEq, reduceCtorEq, t7]
          · simp -implicitDefEqProofs only [go_sem, Nat.reduceEqDiff, Nat.reduceBEq, reduceCtorEq, t8]
          · simp -implicitDefEqProofs only [go_sem, Nat.reduceEqDiff, Nat.reduceBEq, reduceCtorEq, t37]
          · simp -implicitDefEqProofs only [go_sem, Nat.reduceEqDiff, Nat.reduceBEq, reduceCtorEq, t38]
          · simp -implicitDefEqProofs only [go_sem, Nat.reduceEqDiff, Nat.reduceBEq, reduceCtorEq]
          · rw [← hsame (by unfold mvI mvP; rw [if_pos hj, if_pos (by omega)])]
            exact hown2
    · rw [decide_eq_false hj] at h101
      simp -implicitDefEqProofs only [go_sem, Nat.reduceAdd, Nat.reduceMul, Nat.reduceLT, Nat.reduceLeDiff, Nat.reduceEqDiff, Nat.reduceBEq, reduceCtorEq, Int.reduceLT, Int.reduceLE, Int.reduceEq, Int.reduceGT, Int.reduceGE, Int.reduceToNat, Int.reduceNeg, t1, t5, t7, t8, t37, t38, t39, hcmp, hid, hBo, hle', hcut, new_put, h101, F97_J1, hwi]
      refine .mk (.inl ⟨rfl, ?_, ?_, ?_, ?_, ?_, ?_, ?_, hx2, by simp only [new_next]; omega, ⟨br, bs, hblk2⟩, ?_⟩)
      · simp -implicitDefEqProofs only [go_sem, Nat.reduceEqDiff, Nat.reduceBEq, reduceCtorEq, t1]
      · simp -implicitDefEqProofs only [go_sem, Nat.reduceEqDiff, Nat.reduceBEq, reduceCtorEq, t5]
      · simp -implicitDefEqProofs only [go_sem, Nat.reduceEqDiff, Nat.reduceBEq, reduceCtorEq, t7]
      · simp -implicitDefEqProofs only [go_sem, Nat.reduceEqDiff, Nat.reduceBEq, reduceCtorEq, t8]
      · simp -implicitDefEqProofs only [go_sem, Nat.reduceEqDiff, Nat.reduceBEq, reduceCtorEq, t37]
      · simp -implicitDefEqProofs only [go_sem, Nat.reduceEqDiff, Nat.reduceBEq, reduceCtorEq, t38]
      · simp -implicitDefEqProofs only [go_sem, Nat.reduceEqDiff, Nat.reduceBEq, reduceCtorEq]
      · rw [← hsame (by unfold mvI; rw [if_neg hj])]
        exact hown2
  · rintro ⟨T1, H2⟩ ⟨t1, t5, t7, t8, t37, t38, t39, hx, hlt, hb, hown⟩
    simp only at t1 t5 t7 t8 t37 t38 t39 hx hlt hb hown
    have hcmp : decide (((A.length : Nat) : Int) < ((A.length : Nat) : Int)) = false := decide_eq_false (by omega)
    unfold F97_L2
    simp -implicitDefEqProofs only [go_sem, Nat.reduceAdd, Nat.reduceMul, Nat.reduceLT, Nat.reduceLeDiff, Nat.reduceEqDiff, Nat.reduceBEq, reduceCtorEq, Int.reduceLT, Int.reduceLE, Int.reduceEq, Int.reduceGT, Int.reduceGE, Int.reduceToNat, Int.reduceNeg, t38, t39, hcmp]
    refine .mk ⟨by simp, rfl, ?_, ?_, ?_, ?_, ?_, ?_, ?_, hx, hlt, hb, hown⟩
    · simp -implicitDefEqProofs only [go_sem, Nat.reduceEqDiff, Nat.reduceBEq, reduceCtorEq, t1]
    · simp -implicitDefEqProofs only [go_sem, Nat.reduceEqDiff, Nat.reduceBEq, reduceCtorEq, t5]
    · simp -implicitDefEqProofs only [go_sem, Nat.reduceEqDiff, Nat.reduceBEq, reduceCtorEq, t7]
    · simp -implicitDefEqProofs only [go_sem, Nat.reduceEqDiff, Nat.reduceBEq, reduceCtorEq, t8]
    · simp -implicitDefEqProofs only [go_sem, Nat.reduceEqDiff, Nat.reduceBEq, reduceCtorEq, t37]
    · simp -implicitDefEqProofs only [go_sem, Nat.reduceEqDiff, Nat.reduceBEq, reduceCtorEq, t38]
    · simp -implicitDefEqProofs only [go_sem, Nat.reduceEqDiff, Nat.reduceBEq, reduceCtorEq, t39]

theorem insF_drop (L : List Ins) (n : Nat) : ((L.map insC).drop n).flatten = insF (L.drop n) := by
  unfold insF
  rw [List.map_drop]
theorem Row.from_cut {H : AH} {s : AV} {k : Nat} {l : List (List AV)} (h : Row H s k l) (hc : ∃ p n c, s = .slice (some p) n c ∧ (c = .op k ∨ ∃ m, c = .kn m ∧ n ≤ m)) {a : Nat} (ha : a ≤ l.length) :
    ∃ v, slSl s k (some (.int .i64 (a : Nat))) none none = some v ∧ Row H v k (l.drop a) := by
  obtain ⟨p, m, c, rfl, hcap⟩ := hc
  have hlen : ∀ x ∈ l.drop a, x.length = k := fun x hx => h.len x (List.mem_of_mem_drop hx)
  have hll : (l.drop a).length = l.length - a := by simp
  rcases h.is with ⟨e, _⟩ | ⟨q, c', e, hr⟩
  · cases e
  · cases e
    have hb : bnds l.length c.known (some (.int .i64 (a : Nat))) none none = some (a, l.length, c.known) := by
      unfold bnds
      simp only
      rw [bnd_nat .i64 ha]
      rfl
    rw [slSl_ptr _ _ _ _ _ _ _ (by rcases hcap with rfl | ⟨m, rfl, _⟩; exact .inl rfl; exact .inr rfl), hb]
    obtain ⟨b, o⟩ := p
    simp only [Option.bind_some, Option.some.injEq]
    refine ⟨_, rfl, ?_⟩
    rcases hr with rfl | ⟨b', o', B, e, hB, hle, hat⟩
    · have : a = 0 := by simpa using ha
      subst this
      simp only [cutAt, if_pos rfl]
      exact ⟨by simp, .inr ⟨_, _, rfl, .inl rfl⟩⟩
    · cases e
      have hak : a * k ≤ l.length * k := Nat.mul_le_mul_right _ ha
      unfold cutAt
      by_cases h0 : a = 0
      · subst h0
        rw [if_pos rfl]
        refine ⟨hlen, .inr ⟨some (b, o), capOf c.known k, by rw [List.drop_zero], .inr ⟨b, o, B, rfl, hB, by simpa using hle, fun i hi => ?_⟩⟩⟩
        have := hat i (by simpa using hi)
        simpa using this
      · rw [if_neg h0]
        by_cases hlt : a < l.length
        · rw [if_pos hlt]
          refine ⟨hlen, .inr ⟨_, _, by rw [hll], .inr ⟨b, o + a * k, B, rfl, hB, ?_, fun i hi => ?_⟩⟩⟩
          · rw [hll, Nat.sub_mul]
            omega
          · rw [hll] at hi
            have := hat (a + i) (by omega)
            rw [Nat.add_mul, ← Nat.add_assoc] at this
            rw [this]
            simp
        · rw [if_neg hlt]
          exact ⟨hlen, .inl ⟨rfl, List.drop_of_length_le (by omega)⟩⟩
set_option maxHeartbeats 2000000 in
theorem done_spec (d : Nat) {H : AH} (hw : H.wf) {k : Nat} {s : AV} {L : List Ins} {R T : List Bool} (S : Sight H k s L R T) (P : Plain L) {N : Nat} (hN : N ≤ H.next) (hown : Own N 3 29 H s (insF L)) {a : Nat} {M : Nat} {v : AV} {c : Chg} (hc : ChgAt M H v c)
    (hn : 1 ≤ c.n) (hp : a + c.n ≤ L.length) (hm : c.put.length ≤ c.n) (hput : ∀ i ∈ c.put, i.Ok) :
    Ret (RT (d + 2) 97 [.ptr (some (k, 0)), .int .i64 (a : Nat), v] H) fun r => Own N 3 29 r.2 r.1 (insF (doneP L a c.n c.put)) ∧ Ext N H r.2 := by
  rw [R97]
  unfold F97
  have hL := P.few
  obtain ⟨s2, rfl, hrow2, _⟩ := hc
  obtain ⟨rr, tt, hk, _, _⟩ := S.blk
  have hx1 : Ext H.next H (H.new [.int .i64 (c.rule : Nat), .int .i64 (c.n : Nat), s2] 108) := (Ext.refl hw).new _ _
  have hkn : ¬ k = H.next := by have := hw _ _ hk; omega
  have S1 := S.mono (hx1.sub hw)
  have hown1 : Own N 3 29 (H.new [.int .i64 (c.rule : Nat), .int .i64 (c.n : Nat), s2] 108) s (insF L) := hown.new hw _ _
  obtain ⟨b, hab, hcut, hownc⟩ := hown1.cut3 (n := L.length) (j := a) (insF_len L) (by omega) (by omega) (by omega) .i64
  rw [insF_take L a (by omega)] at hownc
  obtain ⟨hbB, hbH, hbN⟩ := hown.at hab
  have hblt : b < H.next := hw _ _ hbH
  have hrow1 := hrow2.mono (hx1.sub hw)
  obtain ⟨hpl, hps⟩ := hrow1.src
  rw [List.length_map] at hpl hps
  obtain ⟨vt, htl, htr⟩ := Row.from_cut S1.row S1.cap (a := a + c.n) (by rw [List.length_map]; exact hp)
  have hbd : ∀ x : Nat, x ≤ 70000 → (x * 3) * 24 ≤ 140737488355328 * 3 := fun x hx => by omega
  have hpl1 : c.put.length ≤ 65536 := by omega
  obtain ⟨⟨v8, H8⟩, hap8, hown8, hx8, hcase⟩ := app_full (x := s2) (ds := insF c.put) ysl22 ysl22.seq hownc hx1.wf (Nat.le_trans hN hx1.next) hpl hps (insF_len _) (by rw [insF_len, insF_len, ← Nat.add_mul]; exact hbd _ (by simp; omega))
  simp only at hown8 hx8 hcase
  simp only [new_next] at hx8
  have hk8 : H8.m k = some ⟨[s, rr, tt], 148, true⟩ := by
    rw [hx8.low k (by have := hw _ _ hk; omega)]
    simp [hkn, hk]
  have hb8 : H8.m H.next = some ⟨[.int .i64 (c.rule : Nat), .int .i64 (c.n : Nat), s2], 108, true⟩ := by
    rw [hx8.low _ (Nat.lt_succ_self _)]
    simp
  have htr8 := htr.mono (hx8.sub hx1.wf)
  obtain ⟨htl8, hts8⟩ := htr8.src
  rw [insF_drop] at hts8
  rw [List.length_drop, List.length_map] at htl8 hts8
  have hlim : ∀ x y : Nat, x ≤ 140000 → y ≤ 140000 → (x * 3 + y * 3) * 24 ≤ 140737488355328 * 3 := fun x y hx hy => by omega
  have hdl : (insF (L.drop (a + c.n))).length = (L.length - (a + c.n)) * 3 := by rw [insF_len, List.length_drop]
  -- the second time
  have second : Ret (aAppend Tryd.prog 22 22 v8 vt H8) fun r => Own N 3 29 r.2 r.1 (insF (L.take a ++ c.put ++ L.drop (a + c.n))) ∧ Ext (H.next + 1) H8 r.2 ∧ ∀ x, At r.1 x → x = b ∨ H.next < x := by
    have hcs : insF (L.take a) ++ insF c.put ++ insF (L.drop (a + c.n)) = insF (L.take a ++ c.put ++ L.drop (a + c.n)) := by rw [insF_append, insF_append]
    have lim : ((insF (L.take a) ++ insF c.put).length + (insF (L.drop (a + c.n))).length) * 24 ≤ 140737488355328 * 3 := by
      rw [List.length_append, insF_len, insF_len, insF_len, ← Nat.add_mul]
      exact hlim _ _ (by simp; omega) (by simp; omega)
    rcases hcase with ⟨h0, e⟩ | hown8'
    · cases e
      refine (app_full ysl22 ysl22.seq hown8 hx8.wf (Nat.le_trans hN (by have := hx8.next; omega)) htl8 hts8 hdl lim).mono ?_
      rintro ⟨v9, H9⟩ ⟨h1, h2, h3⟩
      simp only at h1 h2 h3
      rw [hcs] at h1 h3
      refine ⟨h1, h2.less hx8.next, fun x hx => ?_⟩
      rcases h3 with ⟨_, e⟩ | h3
      · cases e
        obtain ⟨_, _, e⟩ := hx
        cases e
        exact .inl rfl
      · obtain ⟨_, _, hh⟩ := h3.at hx
        have := hx8.next
        exact .inr (by omega)
    · refine (app_own ysl22 ysl22.seq hown8' (Ext.self hx8.wf hx8.next) htl8 hts8 hdl lim).mono ?_
      rintro ⟨v9, H9⟩ ⟨h1, h2, _⟩
      simp only at h1 h2
      rw [hcs] at h1
      refine ⟨h1.low (Nat.le_trans hN (Nat.le_succ _)), h2, fun x hx => ?_⟩
      obtain ⟨_, _, hh⟩ := h1.at hx
      exact .inr hh
  obtain ⟨⟨v9, H9⟩, hap9, hown9, hx9, hat9⟩ := second
  simp only at hown9 hx9 hat9
  have hb9 : H9.m H.next = some ⟨[.int .i64 (c.rule : Nat), .int .i64 (c.n : Nat), s2], 108, true⟩ := by
    rw [hx9.low _ (Nat.lt_succ_self _)]
    exact hb8
  have hwa : IntKind.i64.wrap (((a : Nat) : Int) + ((c.n : Nat) : Int)) = ((a + c.n : Nat) : Int) := by rw [wrap_id (by unfold InI; omega)]; omega
  have hws : IntKind.i64.wrap (((c.n : Nat) : Int) - ((c.put.length : Nat) : Int)) = ((c.n : Nat) : Int) - ((c.put.length : Nat) : Int) := wrap_id (by unfold InI; omega)
  have hpa : aLen Tryd.prog 22 s2 = some (.int .i64 (c.put.length : Nat)) := by rw [hrow2.alen ysl22.under, List.length_map]
  have hoa : aLen Tryd.prog 22 v9 = some (.int .i64 ((L.take a ++ c.put ++ L.drop (a + c.n)).length : Nat)) := by rw [(Own.insRow hown9).alen ysl22.under, List.length_map]
  have hkk : ((H.new [AV.int .i64 (c.rule : Nat), .int .i64 (c.n : Nat), s2] 108).m k) = some ⟨[s, rr, tt], 148, true⟩ := by simp [hkn, hk]
  have hAl : (L.take a ++ c.put ++ L.drop (a + c.n)).length ≤ 70000 := by simp; omega
  have hex9 : Ext N H H9 := ((hx1.trans hx8 (Nat.le_succ _)).trans hx9 (Nat.le_succ _)).less hN
  simp -implicitDefEqProofs only [go_sem, Nat.reduceAdd, Nat.reduceMul, Nat.reduceLT, Nat.reduceLeDiff, Nat.reduceEqDiff, Nat.reduceBEq, reduceCtorEq, Int.reduceLT, Int.reduceLE, Int.reduceEq, Int.reduceGT, Int.reduceGE, Int.reduceToNat, Int.reduceNeg, hk, hkn, hcut, hap8, hk8, hb8, hwa, htl, hap9, hb9, hpa, hws, hoa]
  refine Ret.then (done_loop d hw hN (out := v9) (A := L.take a ++ c.put ++ L.drop (a + c.n)) (p := a) (n := c.n) (m := c.put.length) hAl (by omega) hm hn (fun i hi => ?_) (fun x hx => ?_) ⟨?_, ?_, ?_, ?_, ?_, ?_, ?_, hex9, ?_, ⟨_, _, hb9⟩, ?_⟩) ?_
  · simp only [List.mem_append] at hi
    rcases hi with (hi | hi) | hi
    · exact P.ok i (List.mem_of_mem_take hi)
    · exact hput i hi
    · exact P.ok i (List.mem_of_mem_drop hi)
  · rcases hat9 x hx with rfl | h <;> omega
  · simp -implicitDefEqProofs only [go_sem, Nat.reduceEqDiff, Nat.reduceBEq, reduceCtorEq]
  · simp -implicitDefEqProofs only [go_sem, Nat.reduceEqDiff, Nat.reduceBEq, reduceCtorEq]
  · simp -implicitDefEqProofs only [go_sem, Nat.reduceEqDiff, Nat.reduceBEq, reduceCtorEq]
  · simp -implicitDefEqProofs only [go_sem, Nat.reduceEqDiff, Nat.reduceBEq, reduceCtorEq]
  · simp -implicitDefEqProofs only [go_sem, Nat.reduceEqDiff, Nat.reduceBEq, reduceCtorEq]
  · simp -implicitDefEqProofs only [go_sem, Nat.reduceEqDiff, Nat.reduceBEq, reduceCtorEq]
  · simp -implicitDefEqProofs only [go_sem, Nat.reduceEqDiff, Nat.reduceBEq, reduceCtorEq]
    rfl
  · exact hx9.next
  · simpa using hown9
  · rintro ⟨e, T2, H2⟩ ⟨rfl, _, _, t7, _, _, _, _, hx2, _, _, hown2⟩
    simp only at t7 hx2 hown2
    simp -implicitDefEqProofs only [go_sem, Nat.reduceAdd, Nat.reduceMul, Nat.reduceLT, Nat.reduceLeDiff, Nat.reduceEqDiff, Nat.reduceBEq, reduceCtorEq, Int.reduceLT, Int.reduceLE, Int.reduceEq, Int.reduceGT, Int.reduceGE, Int.reduceToNat, Int.reduceNeg, t7]
    refine .mk ⟨?_, hx2⟩
    rw [List.take_of_length_le (Nat.le_refl _), List.drop_of_length_le (Nat.le_refl _), List.append_nil] at hown2
    exact hown2
end Go.Proofs.YthiflgncldmkjaaDoor
set_option linter.unusedVariables false
set_option linter.unusedSimpArgs false
set_option maxRecDepth 100000
namespace Go.Proofs.YthiflgncldmkjaaDoor
open Go.Ri

theorem Snd.reach {l : List Code} {c : Code} (s : Snd l c) : ∀ a, Reach (bareC c.ins) a → a < c.ins.length := by
  obtain ⟨o, h, g⟩ := s
  intro a ha
  obtain ⟨x, hx, _⟩ := g.at_reach (Reach.ins (c := bareC c.ins) (c' := c) rfl ha)
  have := (List.getElem?_eq_some_iff.1 hx).1
  rw [g.len] at this
  exact this
structure IO1 (Hc : AH) (k : Nat) (s : AV) (L : List Ins) (i : Nat) (t : St) : Prop where
  t0 : t.1 0 = s
  t4 : t.1 4 = .ptr (some (k, 0))
  t5 : t.1 5 = .ptr (some (Hc.next, 0))
  t11 : t.1 11 = .int .i64 (L.length : Nat)
  t12 : t.1 12 = .int .i64 (i : Nat)
  ext : Ext Hc.next Hc t.2
  lt : Hc.next < t.2.next
  blk : ∃ x y, t.2.m Hc.next = some ⟨[.int .i64 0, x, y], 108, true⟩
  none : ∀ j, j < i → (fitP L j).rule = 0
def EO1 (Hc : AH) (k : Nat) (s : AV) (L : List Ins) (r : Ex × St) : Prop :=
  r.1 = .exit 0 ∧ r.2.1 0 = s ∧ r.2.1 4 = .ptr (some (k, 0)) ∧ r.2.1 5 = .ptr (some (Hc.next, 0)) ∧ Ext Hc.next Hc r.2.2 ∧ Hc.next < r.2.2.next ∧
    ((firstP L L.length 0 = none ∧ ∃ x y, r.2.2.m Hc.next = some ⟨[.int .i64 0, x, y], 108, true⟩) ∨
     ∃ i, i < L.length ∧ firstP L L.length 0 = some i ∧ r.2.1 6 = .int .i64 (i : Nat) ∧ ∃ x y M, r.2.2.m Hc.next = some ⟨[.int .i64 ((fitP L i).rule : Nat), x, y], 108, true⟩ ∧ ChgAt M r.2.2 (.agg [.int .i64 ((fitP L i).rule : Nat), x, y]) (fitP L i))
theorem search_loop (d : Nat) {Hc : AH} (hw : Hc.wf) {k : Nat} {s : AV} {L : List Ins} {R Tg : List Bool} (S : Sight Hc k s L R Tg) (hR : bAt R = reachL L) (hT : bAt Tg = targL L) (P : Plain L) {T : Tm} {H1 : AH} (h0 : IO1 Hc k s L 0 (T, H1)) :
    Ret (Ri.iter big (F73_L0 (RT (d + 4)) (Ri.iter big)) (T, H1)) (EO1 Hc k s L) := by
  have hL := P.few
  refine Ret.upTo (n := L.length) (IO1 Hc k s L) (by unfold big; omega) h0 ?_ ?_
  · rintro i ⟨T1, H2⟩ hi ⟨t0, t4, t5, t11, t12, hx, hlt, ⟨bx, bz, hb⟩, hnone⟩
    simp only at t0 t4 t5 t11 t12 hx hlt hb
    have hcmp : decide (((i : Nat) : Int) < ((L.length : Nat) : Int)) = true := decide_eq_true (by omega)
    obtain ⟨⟨v, H3⟩, h76, hx3, hc⟩ := fits_spec d hx.wf (S.mono (hx.sub hw)) P hi
    simp only at hx3 hc
    have hfit : ruleP (bAt R) (bAt Tg) L i = fitP L i := by unfold fitP; rw [hR, hT]
    rw [hfit] at hc
    obtain ⟨sv, rfl, hrow, hlow⟩ := id hc
    have hb3 : H3.m Hc.next = some ⟨[.int .i64 0, bx, bz], 108, true⟩ := by rw [hx3.low _ hlt]; exact hb
    have hlt3 : Hc.next < H3.next := Nat.lt_of_lt_of_le hlt hx3.next
    have hx4 : Ext Hc.next Hc (H3.put Hc.next ⟨[.int .i64 ((fitP L i).rule : Nat), .int .i64 ((fitP L i).n : Nat), sv], 108, true⟩) := (hx.trans hx3 (Nat.le_of_lt hlt)).put (Nat.le_refl _) hlt3 _
    have hrp := rule_pos (c := fitP L i)
    unfold F73_L0
    by_cases hr : (fitP L i).rule ≠ 0
    · rw [decide_eq_true hr] at hrp
      simp -implicitDefEqProofs only [go_sem, Nat.reduceAdd, Nat.reduceMul, Nat.reduceLT, Nat.reduceLeDiff, Nat.reduceEqDiff, Nat.reduceBEq, reduceCtorEq, Int.reduceLT, Int.reduceLE, Int.reduceEq, Int.reduceGT, Int.reduceGE, Int.reduceToNat, Int.reduceNeg, t0, t4, t5, t11, t12, hcmp, h76, hb3, hrp]
      refine .mk (.inr ⟨by simp, rfl, ?_, ?_, ?_, hx4, hlt3, .inr ⟨i, hi, firstP_at hr L.length 0 (Nat.zero_le _) (by omega) (fun r _ h => hnone r h), ?_, .int .i64 ((fitP L i).n : Nat), sv, H2.next, ?_, ?_⟩⟩)
      · simp -implicitDefEqProofs only [go_sem, Nat.reduceEqDiff, Nat.reduceBEq, reduceCtorEq, t0]
      · simp -implicitDefEqProofs only [go_sem, Nat.reduceEqDiff, Nat.reduceBEq, reduceCtorEq, t4]
      · simp -implicitDefEqProofs only [go_sem, Nat.reduceEqDiff, Nat.reduceBEq, reduceCtorEq, t5]
      · simp -implicitDefEqProofs only [go_sem, Nat.reduceEqDiff, Nat.reduceBEq, reduceCtorEq]
      · simp
      · exact hc.keep fun b B hb hB => by simp only [put_m]; rw [if_neg (by omega)]; exact hB
    · rw [decide_eq_false hr] at hrp
      have hr0 : (fitP L i).rule = 0 := Classical.byContradiction hr
      simp -implicitDefEqProofs only [go_sem, Nat.reduceAdd, Nat.reduceMul, Nat.reduceLT, Nat.reduceLeDiff, Nat.reduceEqDiff, Nat.reduceBEq, reduceCtorEq, Int.reduceLT, Int.reduceLE, Int.reduceEq, Int.reduceGT, Int.reduceGE, Int.reduceToNat, Int.reduceNeg, t0, t4, t5, t11, t12, hcmp, h76, hb3, hrp, wrapS (i := i) (by omega)]
      refine .mk (.inl ⟨rfl, ?_, ?_, ?_, ?_, ?_, hx4, hlt3, ⟨.int .i64 ((fitP L i).n : Nat), sv, ?_⟩, fun j hj => ?_⟩)
      · simp -implicitDefEqProofs only [go_sem, Nat.reduceEqDiff, Nat.reduceBEq, reduceCtorEq, t0]
      · simp -implicitDefEqProofs only [go_sem, Nat.reduceEqDiff, Nat.reduceBEq, reduceCtorEq, t4]
      · simp -implicitDefEqProofs only [go_sem, Nat.reduceEqDiff, Nat.reduceBEq, reduceCtorEq, t5]
      · simp -implicitDefEqProofs only [go_sem, Nat.reduceEqDiff, Nat.reduceBEq, reduceCtorEq, t11]
      · simp -implicitDefEqProofs only [go_sem, Nat.reduceEqDiff, Nat.reduceBEq, reduceCtorEq]
      · simp [hr0]
      · by_cases e : j = i
        · rw [e]; exact hr0
        · exact hnone j (by omega)
  · rintro ⟨T1, H2⟩ ⟨t0, t4, t5, t11, t12, hx, hlt, hb, hnone⟩
    simp only at t0 t4 t5 t11 t12 hx hlt hb
    have hcmp : decide (((L.length : Nat) : Int) < ((L.length : Nat) : Int)) = false := decide_eq_false (by omega)
    unfold F73_L0
    simp -implicitDefEqProofs only [go_sem, Nat.reduceAdd, Nat.reduceMul, Nat.reduceLT, Nat.reduceLeDiff, Nat.reduceEqDiff, Nat.reduceBEq, reduceCtorEq, Int.reduceLT, Int.reduceLE, Int.reduceEq, Int.reduceGT, Int.reduceGE, Int.reduceToNat, Int.reduceNeg, t11, t12, hcmp]
    refine .mk ⟨by simp, rfl, ?_, ?_, ?_, hx, hlt, .inl ⟨firstP_no _ _ fun r _ h => hnone r (by omega), hb⟩⟩
    · simp -implicitDefEqProofs only [go_sem, Nat.reduceEqDiff, Nat.reduceBEq, reduceCtorEq, t0]
    · simp -implicitDefEqProofs only [go_sem, Nat.reduceEqDiff, Nat.reduceBEq, reduceCtorEq, t4]
    · simp -implicitDefEqProofs only [go_sem, Nat.reduceEqDiff, Nat.reduceBEq, reduceCtorEq, t5]
theorem once_spec (d : Nat) {H : AH} (hw : H.wf) {N : Nat} (hN : N ≤ H.next) {s : AV} {l : List Code} {c : Code} (hs : Snd l c) (hok : ∀ i ∈ c.ins, i.Ok) (hown : Own N 3 29 H s (insF c.ins)) :
    Ret (RT (d + 5) 73 [s] H) fun r => Ext N H r.2 ∧ ((∃ L' v, onceP c.ins = some L' ∧ r.1 = .tuple [v, .bool true] ∧ Own N 3 29 r.2 v (insF L') ∧ ∀ i ∈ L', i.Ok) ∨ (onceP c.ins = none ∧ r.1 = .tuple [s, .bool false] ∧ Own N 3 29 r.2 s (insF c.ins))) := by
  rw [R73]
  unfold F73
  have P := hs.1.plain hok
  have hL := P.few
  have h0 := hs.1.some_
  have hrow : Row H s 3 (c.ins.map insC) := Own.insRow hown
  have hcap : CapOk s := Own.capOk hown h0
  obtain ⟨⟨v, Hc⟩, h75, hx, k, R, Tg, rfl, S, hR, hT⟩ := look_spec (d + 2) hw hrow hcap P hs.reach
  simp only at hx S
  have hal : aLen Tryd.prog 22 s = some (.int .i64 (c.ins.length : Nat)) := S.alen
  have hownc : Own N 3 29 Hc s (insF c.ins) := hown.keep hw hx.low
  have hxn : Ext Hc.next Hc (Hc.new [.int .i64 0, .int .i64 0, .slice none 0 (.kn 0)] 108) := (Ext.refl hx.wf).new _ _
  simp -implicitDefEqProofs only [go_sem, Nat.reduceAdd, Nat.reduceMul, Nat.reduceLT, Nat.reduceLeDiff, Nat.reduceEqDiff, Nat.reduceBEq, reduceCtorEq, Int.reduceLT, Int.reduceLE, Int.reduceEq, Int.reduceGT, Int.reduceGE, Int.reduceToNat, Int.reduceNeg, h75, hal]
  refine Ret.then (search_loop d hx.wf S hR hT P ⟨?_, ?_, ?_, ?_, ?_, hxn, by simp, ⟨.int .i64 0, .slice none 0 (.kn 0), ?_⟩, fun j hj => absurd hj (Nat.not_lt_zero _)⟩) ?_
  · simp -implicitDefEqProofs only [go_sem, Nat.reduceEqDiff, Nat.reduceBEq, reduceCtorEq]
  · simp -implicitDefEqProofs only [go_sem, Nat.reduceEqDiff, Nat.reduceBEq, reduceCtorEq]
  · simp -implicitDefEqProofs only [go_sem, Nat.reduceEqDiff, Nat.reduceBEq, reduceCtorEq]
  · simp -implicitDefEqProofs only [go_sem, Nat.reduceEqDiff, Nat.reduceBEq, reduceCtorEq]
  · simp -implicitDefEqProofs only [go_sem, Nat.reduceEqDiff, Nat.reduceBEq, reduceCtorEq]
    rfl
  · simp
  rintro ⟨e, T, H2⟩ ⟨rfl, t0, t4, t5, hx2, hlt, ⟨hno, x, y, hb⟩ | ⟨i, hi, hsome, t6, x, y, M, hb, hc⟩⟩
  · simp only at t0 t4 t5 hx2 hb
    simp -implicitDefEqProofs only [go_sem, Nat.reduceAdd, Nat.reduceMul, Nat.reduceLT, Nat.reduceLeDiff, Nat.reduceEqDiff, Nat.reduceBEq, reduceCtorEq, Int.reduceLT, Int.reduceLE, Int.reduceEq, Int.reduceGT, Int.reduceGE, Int.reduceToNat, Int.reduceNeg, t0, t5, hb]
    refine .mk ⟨(hx.trans hx2 hx.next).less hN, .inr ⟨by simp [onceP, hno], rfl, hownc.keep hx.wf hx2.low⟩⟩
  · simp only at t0 t4 t5 t6 hx2 hb hc
    obtain ⟨_, _, hr, _⟩ := firstP_some hsome
    obtain ⟨o, h, g⟩ := hs
    have St := fit_step g o hi hr
    have hr1 : decide ((((fitP c.ins i).rule : Nat) : Int) = 0) = false := decide_eq_false (by omega)
    have hpok := put_ok (R := reachL c.ins) (T := targL c.ins) P i
    obtain ⟨⟨v, H3⟩, h97, hown3, hx3⟩ := done_spec (d + 2) hx2.wf (S.mono (hx2.sub hx.wf)) P (Nat.le_trans hN (Nat.le_trans hx.next hx2.next)) (hownc.keep hx.wf hx2.low) hc St.pos St.bound St.small hpok
    simp only at hown3 hx3
    simp -implicitDefEqProofs only [go_sem, Nat.reduceAdd, Nat.reduceMul, Nat.reduceLT, Nat.reduceLeDiff, Nat.reduceEqDiff, Nat.reduceBEq, reduceCtorEq, Int.reduceLT, Int.reduceLE, Int.reduceEq, Int.reduceGT, Int.reduceGE, Int.reduceToNat, Int.reduceNeg, t0, t4, t5, t6, hb, hr1, h97]
    refine .mk ⟨((hx.trans hx2 hx.next).less hN).trans hx3 (Nat.le_refl _), .inl ⟨_, v, by simp [onceP, hsome], rfl, hown3, fun j hj => ?_⟩⟩
    -- what is made is as it must be
    unfold doneP at hj
    rw [List.mem_map] at hj
    obtain ⟨q, hq, rfl⟩ := hj
    have hqok : q.Ok := by
      simp only [List.mem_append] at hq
      rcases hq with (hq | hq) | hq
      · exact hok q (List.mem_of_mem_take hq)
      · exact hpok q hq
      · exact hok q (List.mem_of_mem_drop hq)
    have hb1 := St.bound
    have hb2 := St.small
    unfold mvI
    split
    · refine ⟨hqok.op, ?_, hqok.m⟩
      have := hqok.n
      unfold InI mvP at *
      simp only
      split
      · omega
      · split <;> omega
    · exact hqok
end Go.Proofs.YthiflgncldmkjaaDoor
set_option linter.unusedVariables false
set_option linter.unusedSimpArgs false
set_option maxRecDepth 100000
namespace Go.Proofs.YthiflgncldmkjaaDoor
open Go.Ri

def OwnCode (N : Nat) (H : AH) (x : List AV) (c : Code) : Prop := ∃ s, x = [s, .int .i64 c.cells, .int .i64 c.params, .bool c.answers] ∧ Own N 3 29 H s (insF c.ins) ∧ (∀ i ∈ c.ins, i.Ok) ∧ InI c.cells ∧ InI c.params
def OwnCodes (N : Nat) (H : AH) (v : AV) (l : List Code) : Prop := ∃ rows : List (List AV), Own N 4 24 H v rows.flatten ∧ (∀ x ∈ rows, x.length = 4) ∧ rows.length = l.length ∧ ∀ j (h1 : j < rows.length) (h2 : j < l.length), OwnCode N H rows[j] l[j]
theorem OwnCode.keep {N : Nat} {H H' : AH} {x : List AV} {c : Code} (h : OwnCode N H x c) (hs : ∀ b B, H.m b = some B → B.elem = 29 → H'.m b = some B) : OwnCode N H' x c := by
  obtain ⟨s, h1, h2, h3⟩ := h
  refine ⟨s, h1, ?_, h3⟩
  rcases h2 with h2 | ⟨b, n, c, B, rfl, hc, hcl, hb, hbe, r⟩
  · exact .inl h2
  · exact .inr ⟨b, n, c, B, rfl, hc, hcl, hs b B hb hbe, hbe, r⟩
theorem OwnCodes.keep {N : Nat} {H H' : AH} {v : AV} {l : List Code} (h : OwnCodes N H v l) (hw : H.wf) (hs : ∀ b, b < H.next → H'.m b = H.m b) : OwnCodes N H' v l := by
  obtain ⟨rows, h1, h2, h3, h4⟩ := h
  exact ⟨rows, h1.keep hw hs, h2, h3, fun j a b => (h4 j a b).keep fun b B hB _ => by rw [hs b (hw b B hB)]; exact hB⟩
theorem OwnCodes.row {N : Nat} {H : AH} {v : AV} {l : List Code} (h : OwnCodes N H v l) (hl : l.length ≤ 9223372036854775807) (hi : ∀ c ∈ l, c.ins.length ≤ 9223372036854775807) : CodesRow H v l := by
  obtain ⟨rows, h1, h2, h3, h4⟩ := h
  refine ⟨rows, Own.row (by omega) h1 h2, ⟨h3, hl⟩, fun j a b => ?_⟩
  obtain ⟨s, e, ho, hok, hc, hp⟩ := h4 j a b
  exact ⟨s, e, ⟨Own.insRow ho, hok⟩, hc, hp, hi _ (List.getElem_mem _)⟩
theorem OwnCodes.nil (N : Nat) (H : AH) : OwnCodes N H (.slice none 0 (.kn 0)) [] := ⟨[], Own.nil _ _ _ _, by simp, rfl, fun j h => absurd h (Nat.not_lt_zero _)⟩
theorem OwnCodes.more {N : Nat} {H0 H : AH} {v : AV} {l : List Code} {x : List AV} {c : Code} (h : OwnCodes N H v l) (he : Ext N H0 H) (hx : OwnCode N H x c) (hl : l.length ≤ 1000) :
    Ret (aAppend Tryd.prog 36 36 v (.slice (some (H.next, 0)) 1 (.kn 1)) (H.new x 24)) fun r => OwnCodes N r.2 r.1 (l ++ [c]) ∧ Ext N H0 r.2 := by
  obtain ⟨rows, h1, h2, h3, h4⟩ := h
  have hx4 : x.length = 4 := by obtain ⟨s, e, _⟩ := hx; rw [e]; rfl
  have hfl := flat_len rows h2
  refine (app_el (ds := x) ysl36 h1 he hx4 (by rw [hfl, h3]; omega)).mono ?_
  rintro ⟨v', H'⟩ ⟨k1, k2, k3, k4, k5⟩
  simp only at k1 k2 k4
  have hstay : ∀ b B, H.m b = some B → B.elem = 29 → H'.m b = some B := fun b B hB hE => by
    rw [k4 b (he.wf b B hB) fun ha => ?_]
    · exact hB
    · obtain ⟨n, cc, rfl⟩ := ha
      rcases h1 with ⟨e, _⟩ | ⟨b', n', c', B', e, _, _, hb, hbe, _⟩
      · cases e
      · cases e
        rw [hb] at hB
        cases hB
        rw [hbe] at hE
        cases hE
  refine ⟨⟨rows ++ [x], by rw [List.flatten_append]; simpa using k1, fun y hy => ?_, by simp [h3], fun j a b => ?_⟩, k2⟩
  · simp only [List.mem_append, List.mem_cons, List.not_mem_nil, or_false] at hy
    rcases hy with hy | rfl
    · exact h2 y hy
    · exact hx4
  · by_cases hj : j < rows.length
    · rw [List.getElem_append_left hj, List.getElem_append_left (by omega)]
      exact (h4 j hj (by omega)).keep hstay
    · have hj' : j = rows.length := by simp at a; omega
      subst hj'
      rw [List.getElem_append_right (Nat.le_refl _), List.getElem_append_right (by omega)]
      simp only [Nat.sub_self, h3, List.getElem_cons_zero]
      exact hx.keep hstay
def MadeAll (l As : List Code) : Prop := As.length = l.length ∧ ∀ j (h1 : j < l.length) (h2 : j < As.length), ∃ A, Makes l[j].ins A ∧ As[j] = { l[j] with ins := A }

structure IM (T0 : Tm) (N : Nat) (Hb : AH) (l : List Code) (c : Code) (f : Nat) (t : St) : Prop where
  t6 : t.1 6 = T0 6
  t8 : t.1 8 = T0 8
  t15 : t.1 15 = T0 15
  t16 : t.1 16 = T0 16
  t17 : t.1 17 = T0 17
  ext : Ext N Hb t.2
  rest : ∃ A : List Ins, Snd l { c with ins := A } ∧ (∀ i ∈ A, i.Ok) ∧ Own N 3 29 t.2 (t.1 9) (insF A) ∧ ((t.1 10 = .bool true ∧ (∀ B, Makes A B → Makes c.ins B) ∧ wsum A.length A + 1 < f) ∨ (t.1 10 = .bool false ∧ Makes c.ins A ∧ 0 < f))
def EM (T0 : Tm) (N : Nat) (Hb : AH) (l : List Code) (c : Code) (r : Ex × St) : Prop :=
  r.1 = .exit 2 ∧ r.2.1 6 = T0 6 ∧ r.2.1 8 = T0 8 ∧ r.2.1 15 = T0 15 ∧ r.2.1 16 = T0 16 ∧ r.2.1 17 = T0 17 ∧ Ext N Hb r.2.2 ∧ ∃ A : List Ins, Makes c.ins A ∧ (∀ i ∈ A, i.Ok) ∧ Own N 3 29 r.2.2 (r.2.1 9) (insF A)
theorem make_round (d : Nat) {T0 : Tm} {N : Nat} {Hb : AH} {l : List Code} {c : Code} (f : Nat) (t : St) (hI : IM T0 N Hb l c (f + 1) t) :
    Ret (F33_L0 (RT (d + 5)) (Ri.iter big) t) fun r => (r.1 = .normal ∧ IM T0 N Hb l c f r.2) ∨ (r.1 ≠ .normal ∧ EM T0 N Hb l c r) := by
  obtain ⟨T, H⟩ := t
  obtain ⟨t6, t8, t15, t16, t17, hx, A, hs, hok, hown, ⟨t10, hmk, hlt⟩ | ⟨t10, hmk, hlt⟩⟩ := hI
  · simp only at t6 t8 t15 t16 t17 hx hown t10
    obtain ⟨⟨v, H1⟩, h73, hx1, hr⟩ := once_spec d hx.wf hx.next hs hok hown
    simp only at hx1 hr
    unfold F33_L0
    rcases hr with ⟨L', v', ho, rfl, hown', hok'⟩ | ⟨ho, rfl, hown'⟩
    · simp -implicitDefEqProofs only [go_sem, Nat.reduceAdd, Nat.reduceMul, Nat.reduceLT, Nat.reduceLeDiff, Nat.reduceEqDiff, Nat.reduceBEq, reduceCtorEq, Int.reduceLT, Int.reduceLE, Int.reduceEq, Int.reduceGT, Int.reduceGE, Int.reduceToNat, Int.reduceNeg, t10, h73]
      obtain ⟨s1, hd, _⟩ := once_snd hs ho
      refine .mk (.inl ⟨rfl, ?_, ?_, ?_, ?_, ?_, hx.trans hx1 (Nat.le_refl _), L', s1, hok', ?_, .inl ⟨?_, fun B hB => hmk B (.more ho hB), ?_⟩⟩)
      · simp -implicitDefEqProofs only [go_sem, Nat.reduceEqDiff, Nat.reduceBEq, reduceCtorEq, t6]
      · simp -implicitDefEqProofs only [go_sem, Nat.reduceEqDiff, Nat.reduceBEq, reduceCtorEq, t8]
      · simp -implicitDefEqProofs only [go_sem, Nat.reduceEqDiff, Nat.reduceBEq, reduceCtorEq, t15]
      · simp -implicitDefEqProofs only [go_sem, Nat.reduceEqDiff, Nat.reduceBEq, reduceCtorEq, t16]
      · simp -implicitDefEqProofs only [go_sem, Nat.reduceEqDiff, Nat.reduceBEq, reduceCtorEq, t17]
      · simp -implicitDefEqProofs only [go_sem, Nat.reduceEqDiff, Nat.reduceBEq, reduceCtorEq]
        exact hown'
      · simp -implicitDefEqProofs only [go_sem, Nat.reduceEqDiff, Nat.reduceBEq, reduceCtorEq]
      · simp only at hd
        omega
    · simp -implicitDefEqProofs only [go_sem, Nat.reduceAdd, Nat.reduceMul, Nat.reduceLT, Nat.reduceLeDiff, Nat.reduceEqDiff, Nat.reduceBEq, reduceCtorEq, Int.reduceLT, Int.reduceLE, Int.reduceEq, Int.reduceGT, Int.reduceGE, Int.reduceToNat, Int.reduceNeg, t10, h73]
      refine .mk (.inl ⟨rfl, ?_, ?_, ?_, ?_, ?_, hx.trans hx1 (Nat.le_refl _), A, hs, hok, ?_, .inr ⟨?_, hmk A (.stop ho), by omega⟩⟩)
      · simp -implicitDefEqProofs only [go_sem, Nat.reduceEqDiff, Nat.reduceBEq, reduceCtorEq, t6]
      · simp -implicitDefEqProofs only [go_sem, Nat.reduceEqDiff, Nat.reduceBEq, reduceCtorEq, t8]
      · simp -implicitDefEqProofs only [go_sem, Nat.reduceEqDiff, Nat.reduceBEq, reduceCtorEq, t15]
      · simp -implicitDefEqProofs only [go_sem, Nat.reduceEqDiff, Nat.reduceBEq, reduceCtorEq, t16]
      · simp -implicitDefEqProofs only [go_sem, Nat.reduceEqDiff, Nat.reduceBEq, reduceCtorEq, t17]
      · simp -implicitDefEqProofs only [go_sem, Nat.reduceEqDiff, Nat.reduceBEq, reduceCtorEq]
        exact hown'
      · simp -implicitDefEqProofs only [go_sem, Nat.reduceEqDiff, Nat.reduceBEq, reduceCtorEq]
  · simp only at t6 t8 t15 t16 t17 hx hown t10
    unfold F33_L0
    simp -implicitDefEqProofs only [go_sem, Nat.reduceAdd, Nat.reduceMul, Nat.reduceLT, Nat.reduceLeDiff, Nat.reduceEqDiff, Nat.reduceBEq, reduceCtorEq, Int.reduceLT, Int.reduceLE, Int.reduceEq, Int.reduceGT, Int.reduceGE, Int.reduceToNat, Int.reduceNeg, t10]
    refine .mk (.inr ⟨by simp, rfl, ?_, ?_, ?_, ?_, ?_, hx, A, hmk, hok, ?_⟩)
    · simp -implicitDefEqProofs only [go_sem, Nat.reduceEqDiff, Nat.reduceBEq, reduceCtorEq, t6]
    · simp -implicitDefEqProofs only [go_sem, Nat.reduceEqDiff, Nat.reduceBEq, reduceCtorEq, t8]
    · simp -implicitDefEqProofs only [go_sem, Nat.reduceEqDiff, Nat.reduceBEq, reduceCtorEq, t15]
    · simp -implicitDefEqProofs only [go_sem, Nat.reduceEqDiff, Nat.reduceBEq, reduceCtorEq, t16]
    · simp -implicitDefEqProofs only [go_sem, Nat.reduceEqDiff, Nat.reduceBEq, reduceCtorEq, t17]
    · simp -implicitDefEqProofs only [go_sem, Nat.reduceEqDiff, Nat.reduceBEq, reduceCtorEq]
      exact hown
theorem wsum_small {L : List Ins} (h : ∀ i ∈ L, isJ i → 0 ≤ i.n) : ∀ n : Nat, wsum n L ≤ L.length * (n + 2) := by
  intro n
  induction L with
  | nil => simp [wsum]
  | cons i L ih =>
    have h1 := ih fun j hj => h j (by simp [hj])
    have h2 : wt n i ≤ n + 2 := by
      unfold wt
      split
      · rename_i hj
        have := h i (by simp) hj
        omega
      · omega
    simp only [wsum, List.map_cons, List.sum_cons, List.length_cons, Nat.succ_mul] at h1 ⊢
    omega
theorem make_inner (d : Nat) {T : Tm} {H Hb : AH} {N : Nat} {l : List Code} {c : Code} (hs : Snd l c) (hok : ∀ i ∈ c.ins, i.Ok) (hx : Ext N Hb H) (hown : Own N 3 29 H (T 9) (insF c.ins)) (t10 : T 10 = .bool true) :
    Ret (Ri.iter big (F33_L0 (RT (d + 5)) (Ri.iter big)) (T, H)) (EM T N Hb l c) := by
  have P := hs.1.plain hok
  have hw := wsum_small (L := c.ins) (fun i hi hj => (P.jump i hi hj).1) c.ins.length
  have hm : c.ins.length * (c.ins.length + 2) ≤ 65536 * 65538 := Nat.mul_le_mul P.few (by have := P.few; omega)
  refine Ret.iter (IM T N Hb l c) _ (fun f t hI => make_round d f t hI) (fun t ht => ?_) (wsum c.ins.length c.ins + 2) big _ (by unfold big; omega) ⟨rfl, rfl, rfl, rfl, rfl, hx, c.ins, hs, hok, hown, .inl ⟨t10, fun B hB => hB, by omega⟩⟩
  obtain ⟨_, _, _, _, _, _, _, _, _, _, ⟨_, _, h⟩ | ⟨_, _, h⟩⟩ := ht <;> exact absurd h (Nat.not_lt_zero _)
end Go.Proofs.YthiflgncldmkjaaDoor
set_option linter.unusedVariables false
set_option linter.unusedSimpArgs false
set_option maxRecDepth 100000
namespace Go.Proofs.YthiflgncldmkjaaDoor
open Go.Ri

theorem SoundP.snd {l : List Code} {main : Int} (h : SoundP l main) {k : Nat} (hk : k < l.length) : Snd l l[k] := by
  obtain ⟨hs, c, _, hc, ho, hg⟩ := h.2.2.2.2.2.2 k hk
  rw [Int.toNat_natCast, List.getElem?_eq_getElem hk] at hc
  cases hc
  exact ⟨ho, hs, hg⟩
theorem CodesRow.inok {H : AH} {ls : AV} {l : List Code} (h : CodesRow H ls l) {k : Nat} (hk : k < l.length) : ∀ i ∈ l[k].ins, i.Ok := by
  obtain ⟨rows, hr, ⟨hl, _⟩, hc⟩ := h
  obtain ⟨s, _, hi, _⟩ := hc k (by omega) hk
  exact hi.2
structure IMk (H : AH) (ls : AV) (l : List Code) (i : Nat) (t : St) : Prop where
  t15 : t.1 15 = ls
  t16 : t.1 16 = .int .i64 (l.length : Nat)
  t17 : t.1 17 = .int .i64 (i : Nat)
  ext : Ext H.next H t.2
  out : ∃ As, MadeAll (l.take i) As ∧ OwnCodes H.next t.2 (t.1 6) As
set_option maxHeartbeats 2000000 in
theorem make_loop (d : Nat) {H : AH} (hw : H.wf) {ls : AV} {l : List Code} (hl : CodesRow H ls l) (h40 : l.length ≤ 40) (hs : ∀ k (hk : k < l.length), Snd l l[k]) {T : Tm} {H1 : AH} (h0 : IMk H ls l 0 (T, H1)) :
    Ret (Ri.iter big (F33_L1 (RT (d + 5)) (Ri.iter big)) (T, H1)) fun r => r.1 = .exit 0 ∧ IMk H ls l l.length r.2 := by
  refine Ret.upTo (n := l.length) (IMk H ls l) (by unfold big; omega) h0 ?_ ?_
  · rintro i ⟨T1, H2⟩ hi ⟨t15, t16, t17, hx, As, hm, hown⟩
    simp only at t15 t16 t17 hx hown
    have hcmp : decide (((i : Nat) : Int) < ((l.length : Nat) : Int)) = true := decide_eq_true (by omega)
    obtain ⟨b, o, c, q1, q2, ⟨s, q3, q4, _⟩, _, _, _, q5, q6, q7⟩ := codes_at (hl.mono (hx.sub hw)) (n := ((i : Nat) : Int)) (by omega) (by omega)
    rw [Int.toNat_natCast, List.getElem?_eq_getElem hi] at q1
    obtain rfl : l[i] = c := Option.some.inj q1
    obtain ⟨pp, hpp⟩ : ∃ p, p = (b, o) := ⟨_, rfl⟩
    rw [← hpp] at q2 q3
    have hsi := hs i hi
    have hoki := hl.inok hi
    have hx2 : Ext H.next H (H2.new [s, .int .i64 l[i].cells, .int .i64 l[i].params, .bool l[i].answers] 24) := hx.new _ _
    have hrow : Row (H2.new [s, .int .i64 l[i].cells, .int .i64 l[i].params, .bool l[i].answers] 24) s 3 (l[i].ins.map insC) := q4.1.mono (((Ext.refl hx.wf).new _ _).sub hx.wf)
    obtain ⟨hsl, hss⟩ := hrow.src
    rw [List.length_map] at hsl hss
    have hlen := hsi.1.few
    obtain ⟨⟨v3, H3⟩, hap, ho3, hx3, _⟩ := app_own (x := s) (ds := insF l[i].ins) ysl22 ysl22.seq (Own.nil _ _ _ _) (Ext.refl hx2.wf) hsl hss (insF_len _) (by rw [insF_len]; simp; omega)
    simp only [List.nil_append] at ho3 hx3
    have hb3 : H3.m H2.next = some ⟨[s, .int .i64 l[i].cells, .int .i64 l[i].params, .bool l[i].answers], 24, true⟩ := by
      rw [hx3.low _ (by simp)]
      simp
    unfold F33_L1
    simp -implicitDefEqProofs only [go_sem, Nat.reduceAdd, Nat.reduceMul, Nat.reduceLT, Nat.reduceLeDiff, Nat.reduceEqDiff, Nat.reduceBEq, reduceCtorEq, Int.reduceLT, Int.reduceLE, Int.reduceEq, Int.reduceGT, Int.reduceGE, Int.reduceToNat, Int.reduceNeg, t15, t16, t17, hcmp, q2, q3, new_put, hap]
    refine Ret.then (make_inner d (N := (H2.new [s, .int .i64 l[i].cells, .int .i64 l[i].params, .bool l[i].answers] 24).next) (Hb := H3) (l := l) (c := l[i]) hsi hoki (Ext.self hx3.wf hx3.next) ?_ ?_) ?_
    · simp -implicitDefEqProofs only [go_sem, Nat.reduceEqDiff, Nat.reduceBEq, reduceCtorEq]
      exact ho3
    · simp -implicitDefEqProofs only [go_sem, Nat.reduceEqDiff, Nat.reduceBEq, reduceCtorEq]
    rintro ⟨e, T4, H4⟩ ⟨rfl, u6, u8, u15, u16, u17, hx4, A, hmk, hokA, hownA⟩
    simp only [updL_cons', updL_nil'] at u6 u8 u15 u16 u17
    simp only at u6 u8 u15 u16 u17 hx4 hownA
    have u6 : T4 6 = T1 6 := u6
    have u8 : T4 8 = .ptr (some (H2.next, 0)) := u8
    have u15 : T4 15 = T1 15 := u15
    have u16 : T4 16 = T1 16 := u16
    have u17 : T4 17 = T1 17 := u17
    have hb4 : H4.m H2.next = some ⟨[s, .int .i64 l[i].cells, .int .i64 l[i].params, .bool l[i].answers], 24, true⟩ := by rw [hx4.low _ (by simp)]; exact hb3
    have hx34 : Ext (H2.next + 1) (H2.new [s, .int .i64 l[i].cells, .int .i64 l[i].params, .bool l[i].answers] 24) H4 := hx3.trans hx4 (Nat.le_refl _)
    have hlt4 : H2.next < H4.next := hx34.next
    have hxa : Ext H.next H H4 := hx2.trans hx34 (by have := hx.next; omega)
    obtain ⟨pv, nv, cv, hv4⟩ := hownA.shape
    have hx5 : Ext H.next H (H4.put H2.next ⟨[T4 9, .int .i64 l[i].cells, .int .i64 l[i].params, .bool l[i].answers], 24, true⟩) := hxa.put hx.next hlt4 _
    have hAown : Own (H2.next + 1) 3 29 (H4.put H2.next ⟨[T4 9, .int .i64 l[i].cells, .int .i64 l[i].params, .bool l[i].answers], 24, true⟩) (T4 9) (insF A) := hownA.mono fun b hb c e => by
      obtain ⟨_, _, h⟩ := hownA.at (b := b) ⟨hb, c, e⟩
      simp only [new_next] at h
      simp only [put_m]
      rw [if_neg (by omega)]
    have hownB : OwnCodes H.next (H4.put H2.next ⟨[T4 9, .int .i64 l[i].cells, .int .i64 l[i].params, .bool l[i].answers], 24, true⟩) (T1 6) As := hown.keep hx.wf fun b hb => by
      simp only [put_m]
      rw [if_neg (by omega), hx34.low b (by omega)]
      simp only [new_m]
      rw [if_neg (by omega)]
    have hent : OwnCode H.next (H4.put H2.next ⟨[T4 9, .int .i64 l[i].cells, .int .i64 l[i].params, .bool l[i].answers], 24, true⟩) [T4 9, .int .i64 l[i].cells, .int .i64 l[i].params, .bool l[i].answers] { l[i] with ins := A } :=
      ⟨T4 9, rfl, hAown.low (by have := hx.next; omega), hokA, q5, q6⟩
    have hAl : As.length = i := by rw [hm.1]; simp; omega
    rw [hv4] at hx5 hownB hent
    rw [hv4] at hAown
    have u6' : T4 6 = T1 6 := u6
    simp -implicitDefEqProofs only [go_sem, Nat.reduceAdd, Nat.reduceMul, Nat.reduceLT, Nat.reduceLeDiff, Nat.reduceEqDiff, Nat.reduceBEq, reduceCtorEq, Int.reduceLT, Int.reduceLE, Int.reduceEq, Int.reduceGT, Int.reduceGE, Int.reduceToNat, Int.reduceNeg, u8, hv4, hb4, u6]
    refine ret_bind ((OwnCodes.more hownB hx5 hent (by omega)).mono ?_)
    rintro ⟨v6, H6⟩ ⟨k1, k2⟩
    simp only at k1 k2
    simp -implicitDefEqProofs only [go_sem, Nat.reduceAdd, Nat.reduceMul, Nat.reduceLT, Nat.reduceLeDiff, Nat.reduceEqDiff, Nat.reduceBEq, reduceCtorEq, Int.reduceLT, Int.reduceLE, Int.reduceEq, Int.reduceGT, Int.reduceGE, Int.reduceToNat, Int.reduceNeg, u17, t17, wrapS (i := i) (by omega)]
    refine .mk (.inl ⟨rfl, ?_, ?_, ?_, k2, As ++ [{ l[i] with ins := A }], ⟨?_, fun j h1 h2 => ?_⟩, ?_⟩)
    · simp -implicitDefEqProofs only [go_sem, Nat.reduceAdd, Nat.reduceMul, Nat.reduceLT, Nat.reduceLeDiff, Nat.reduceEqDiff, Nat.reduceBEq, reduceCtorEq, Int.reduceLT, Int.reduceLE, Int.reduceEq, Int.reduceGT, Int.reduceGE, Int.reduceToNat, Int.reduceNeg, u15, t15]
    · simp -implicitDefEqProofs only [go_sem, Nat.reduceAdd, Nat.reduceMul, Nat.reduceLT, Nat.reduceLeDiff, Nat.reduceEqDiff, Nat.reduceBEq, reduceCtorEq, Int.reduceLT, Int.reduceLE, Int.reduceEq, Int.reduceGT, Int.reduceGE, Int.reduceToNat, Int.reduceNeg, u16, t16]
    · simp -implicitDefEqProofs only [go_sem, Nat.reduceEqDiff, Nat.reduceBEq, reduceCtorEq]
    · simp [hAl]
      omega
    · rw [List.getElem_take]
      by_cases hj : j < As.length
      · obtain ⟨B, hB1, hB2⟩ := hm.2 j (by simp; omega) hj
        rw [List.getElem_take] at hB1 hB2
        exact ⟨B, hB1, by rw [List.getElem_append_left hj]; exact hB2⟩
      · have hji : j = i := by simp at h2; omega
        subst hji
        exact ⟨A, hmk, by rw [List.getElem_append_right (by omega)]; simp [hAl]⟩
    · simp -implicitDefEqProofs only [go_sem, Nat.reduceEqDiff, Nat.reduceBEq, reduceCtorEq]
      exact k1
  · rintro ⟨T1, H2⟩ ⟨t15, t16, t17, hx, hout⟩
    simp only at t15 t16 t17 hx hout
    have hcmp : decide (((l.length : Nat) : Int) < ((l.length : Nat) : Int)) = false := decide_eq_false (by omega)
    unfold F33_L1
    simp -implicitDefEqProofs only [go_sem, Nat.reduceAdd, Nat.reduceMul, Nat.reduceLT, Nat.reduceLeDiff, Nat.reduceEqDiff, Nat.reduceBEq, reduceCtorEq, Int.reduceLT, Int.reduceLE, Int.reduceEq, Int.reduceGT, Int.reduceGE, Int.reduceToNat, Int.reduceNeg, t16, t17, hcmp]
    refine .mk ⟨by simp, rfl, ?_, ?_, ?_, hx, ?_⟩
    · simp -implicitDefEqProofs only [go_sem, Nat.reduceEqDiff, Nat.reduceBEq, reduceCtorEq, t15]
    · simp -implicitDefEqProofs only [go_sem, Nat.reduceEqDiff, Nat.reduceBEq, reduceCtorEq, t16]
    · simp -implicitDefEqProofs only [go_sem, Nat.reduceEqDiff, Nat.reduceBEq, reduceCtorEq, t17]
    · simp -implicitDefEqProofs only [go_sem, Nat.reduceEqDiff, Nat.reduceBEq, reduceCtorEq]
      exact hout
theorem make_spec (d : Nat) {H : AH} (hw : H.wf) (hT : Tabs H) {ls : AV} {l : List Code} (hl : CodesRow H ls l) {main : Int} (hm : InI main) :
    Ret (RT (d + 6) 33 [ls, .int .i64 main] H) fun r => Ext H.next H r.2 ∧ ((¬ SoundP l main ∧ r.1 = .tuple [.slice none 0 (.kn 0), .int .i64 60]) ∨ (SoundP l main ∧ ∃ As v, r.1 = .tuple [v, .int .i64 0] ∧ MadeAll l As ∧ OwnCodes H.next r.2 v As)) := by
  rw [R33]
  unfold F33
  obtain ⟨⟨v, H1⟩, h27, hx, b, hb, hiff⟩ := Sound_spec d hw hT hl hm
  simp only at hx hb
  subst hb
  have hal := hl.alen
  cases b
  · simp -implicitDefEqProofs only [go_sem, Nat.reduceEqDiff, Nat.reduceBEq, reduceCtorEq, h27]
    exact .mk ⟨hx, .inl ⟨fun h => Bool.noConfusion (hiff.2 h), rfl⟩⟩
  · have hsp := hiff.1 rfl
    simp -implicitDefEqProofs only [go_sem, Nat.reduceAdd, Nat.reduceMul, Nat.reduceLT, Nat.reduceLeDiff, Nat.reduceEqDiff, Nat.reduceBEq, reduceCtorEq, Int.reduceLT, Int.reduceLE, Int.reduceEq, Int.reduceGT, Int.reduceGE, Int.reduceToNat, Int.reduceNeg, h27, hal]
    refine Ret.then (make_loop d hw hl (by have := hsp.2.1; omega) (fun k hk => hsp.snd hk) ⟨?_, ?_, ?_, hx, [], ⟨by simp, fun j h1 h2 => absurd h2 (Nat.not_lt_zero _)⟩, ?_⟩) ?_
    · simp -implicitDefEqProofs only [go_sem, Nat.reduceEqDiff, Nat.reduceBEq, reduceCtorEq]
    · simp -implicitDefEqProofs only [go_sem, Nat.reduceEqDiff, Nat.reduceBEq, reduceCtorEq]
    · simp -implicitDefEqProofs only [go_sem, Nat.reduceEqDiff, Nat.reduceBEq, reduceCtorEq]
      rfl
    · simp -implicitDefEqProofs only [go_sem, Nat.reduceEqDiff, Nat.reduceBEq, reduceCtorEq]
      exact OwnCodes.nil _ _
    · rintro ⟨e, T, H2⟩ ⟨rfl, _, _, _, hx2, As, hmA, hownA⟩
      simp only at hx2 hownA
      rw [List.take_of_length_le (Nat.le_refl _)] at hmA
      simp -implicitDefEqProofs only [go_sem, Nat.reduceAdd, Nat.reduceMul, Nat.reduceLT, Nat.reduceLeDiff, Nat.reduceEqDiff, Nat.reduceBEq, reduceCtorEq, Int.reduceLT, Int.reduceLE, Int.reduceEq, Int.reduceGT, Int.reduceGE, Int.reduceToNat, Int.reduceNeg]
      exact .mk ⟨hx2, .inr ⟨hsp, As, _, rfl, hmA, hownA⟩⟩
end Go.Proofs.YthiflgncldmkjaaDoor
set_option linter.unusedVariables false
set_option linter.unusedSimpArgs false
set_option maxRecDepth 100000
namespace Go.Proofs.YthiflgncldmkjaaDoor
open Go.Ri
theorem run32 (e0 e1 : TypeId) : saysTrue (aCall Tryd.prog (drawB Tryd.prog) 60 32 [] ⟨mTabs e0 e1, 2⟩) = true := by kernel_rfl
theorem ok32 : Ok1 Tryd.prog 32 gTrue := ok_true run32 ⟨_, Tryd.func32, by kernel_rfl, by kernel_rfl⟩
theorem run39 (e0 e1 : TypeId) : saysTrue (aCall Tryd.prog (drawB Tryd.prog) 60 39 [] ⟨mTabs e0 e1, 2⟩) = true := by kernel_rfl
theorem ok39 : Ok1 Tryd.prog 39 gTrue := ok_true run39 ⟨_, Tryd.func39, by kernel_rfl, by kernel_rfl⟩
end Go.Proofs.YthiflgncldmkjaaDoor
set_option linter.unusedVariables false
set_option linter.unusedSimpArgs false
set_option maxRecDepth 100000
namespace Go.Proofs.YthiflgncldmkjaaDoor
open Go.Ri

noncomputable def RL (d : Nat) : CallF := addT (addT (RT d) 32 gTrue) 39 gTrue
theorem RL_ok (d : Nat) : CallOk Tryd.prog (RL d) := addT_ok (addT_ok (RT_ok d) ok32) ok39
theorem RL_at {d : Nat} {f : Nat} (h : f ≠ 32 ∧ f ≠ 39) (vs : List AV) (H : AH) : RL d f vs H = RT d f vs H := by
  unfold RL
  rw [addT_ne _ _ _ _ h.2, addT_ne _ _ _ _ h.1]
theorem RL_32 (d : Nat) {H : AH} (hT : Tabs H) : RL d 32 [] H = some (.bool true, H) := by
  unfold RL
  rw [addT_ne _ _ _ _ (by decide), addT_at]
  exact chk_pos (⟨rfl, hT⟩ : [] = ([] : List AV) ∧ Tabs H) _
noncomputable def LawR (d : Nat) : CallF := fun f vs H => aFun Tryd.prog (drawA Tryd.prog) (RL d) (iter big) f vs H
theorem LawR_ok (d : Nat) : CallOk Tryd.prog (LawR d) := fun f vs H v H' h => aFun_sound (draw := drawA Tryd.prog) (n := big) (RL_ok d) (fun nt => drawA_ok (RL_ok d)) f vs H v H' h

theorem great10_spec (d : Nat) {H : AH} {ls : AV} {l : List Code} (hl : CodesRow H ls l) : Ret (RT (d + 2) 31 [ls] H) fun r => (∃ b, r.1 = .bool b) ∧ r.2 = H := by
  rw [R31]
  unfold F31
  have hfew := hl.few
  have hal := hl.alen
  by_cases p1 : ((l.length : Nat) : Int) > 50
  · simp -implicitDefEqProofs only [go_sem, Nat.reduceAdd, Nat.reduceMul, Nat.reduceLT, Nat.reduceLeDiff, Nat.reduceEqDiff, Nat.reduceBEq, reduceCtorEq, Int.reduceLT, Int.reduceLE, Int.reduceEq, Int.reduceGT, Int.reduceGE, Int.reduceToNat, Int.reduceNeg, hal, decide_eq_true p1]
    exact .mk ⟨⟨_, rfl⟩, rfl⟩
  obtain ⟨⟨v1, H1⟩, h1, ⟨n1, hn1⟩, hH1⟩ := Size_spec d hl 400
  simp only at hn1 hH1
  subst hn1 hH1
  by_cases p2 : n1 > 400
  · simp -implicitDefEqProofs only [go_sem, Nat.reduceAdd, Nat.reduceMul, Nat.reduceLT, Nat.reduceLeDiff, Nat.reduceEqDiff, Nat.reduceBEq, reduceCtorEq, Int.reduceLT, Int.reduceLE, Int.reduceEq, Int.reduceGT, Int.reduceGE, Int.reduceToNat, Int.reduceNeg, hal, decide_eq_false p1, h1, decide_eq_true p2]
    exact .mk ⟨⟨_, rfl⟩, rfl⟩
  simp -implicitDefEqProofs only [go_sem, Nat.reduceAdd, Nat.reduceMul, Nat.reduceLT, Nat.reduceLeDiff, Nat.reduceEqDiff, Nat.reduceBEq, reduceCtorEq, Int.reduceLT, Int.reduceLE, Int.reduceEq, Int.reduceGT, Int.reduceGE, Int.reduceToNat, Int.reduceNeg, hal, decide_eq_false p1, h1, decide_eq_false p2]
  refine Ret.then (Q' := fun r => r.2.2 = H1 ∧ (r.1 = .exit 0 ∨ (r.1 = .ret ∧ r.2.1 2 = .bool true))) (Ret.upTo (n := l.length) (fun i t => t.1 0 = ls ∧ t.1 3 = .int .i64 (i : Nat) ∧ t.2 = H1) (by unfold big; omega) ⟨?_, ?_, rfl⟩ ?_ ?_) ?_
  · simp -implicitDefEqProofs only [go_sem, Nat.reduceEqDiff, Nat.reduceBEq, reduceCtorEq]
  · simp -implicitDefEqProofs only [go_sem, Nat.reduceEqDiff, Nat.reduceBEq, reduceCtorEq]
    rfl
  · rintro i ⟨T1, H2⟩ hi ⟨t0, t3, hH⟩
    simp only at t0 t3 hH
    subst hH
    have hcmp : decide (((i : Nat) : Int) < ((l.length : Nat) : Int)) = true := decide_eq_true (by omega)
    obtain ⟨b, o, c, q1, q2, _, q4, _⟩ := codes_at hl (n := ((i : Nat) : Int)) (by omega) (by omega)
    unfold F31_L0
    by_cases p3 : c.cells > 300
    · by_cases p4 : c.cells ≤ 65536
      · simp -implicitDefEqProofs only [go_sem, Nat.reduceAdd, Nat.reduceMul, Nat.reduceLT, Nat.reduceLeDiff, Nat.reduceEqDiff, Nat.reduceBEq, reduceCtorEq, Int.reduceLT, Int.reduceLE, Int.reduceEq, Int.reduceGT, Int.reduceGE, Int.reduceToNat, Int.reduceNeg, t0, t3, hal, hcmp, q2, q4, decide_eq_true p3, decide_eq_true p4]
        refine .mk (.inr ⟨by simp, rfl, .inr ⟨rfl, ?_⟩⟩)
        simp -implicitDefEqProofs only [go_sem, Nat.reduceAdd, Nat.reduceMul, Nat.reduceLT, Nat.reduceLeDiff, Nat.reduceEqDiff, Nat.reduceBEq, reduceCtorEq, Int.reduceLT, Int.reduceLE, Int.reduceEq, Int.reduceGT, Int.reduceGE, Int.reduceToNat, Int.reduceNeg]
      · simp -implicitDefEqProofs only [go_sem, Nat.reduceAdd, Nat.reduceMul, Nat.reduceLT, Nat.reduceLeDiff, Nat.reduceEqDiff, Nat.reduceBEq, reduceCtorEq, Int.reduceLT, Int.reduceLE, Int.reduceEq, Int.reduceGT, Int.reduceGE, Int.reduceToNat, Int.reduceNeg, t0, t3, hal, hcmp, q2, q4, decide_eq_true p3, decide_eq_false p4, wrapS (i := i) (by omega)]
        refine .mk (.inl ⟨rfl, ?_, ?_, rfl⟩)
        · simp -implicitDefEqProofs only [go_sem, Nat.reduceEqDiff, Nat.reduceBEq, reduceCtorEq, t0]
        · simp -implicitDefEqProofs only [go_sem, Nat.reduceEqDiff, Nat.reduceBEq, reduceCtorEq]
    · simp -implicitDefEqProofs only [go_sem, Nat.reduceAdd, Nat.reduceMul, Nat.reduceLT, Nat.reduceLeDiff, Nat.reduceEqDiff, Nat.reduceBEq, reduceCtorEq, Int.reduceLT, Int.reduceLE, Int.reduceEq, Int.reduceGT, Int.reduceGE, Int.reduceToNat, Int.reduceNeg, t0, t3, hal, hcmp, q2, q4, decide_eq_false p3, wrapS (i := i) (by omega)]
      refine .mk (.inl ⟨rfl, ?_, ?_, rfl⟩)
      · simp -implicitDefEqProofs only [go_sem, Nat.reduceEqDiff, Nat.reduceBEq, reduceCtorEq, t0]
      · simp -implicitDefEqProofs only [go_sem, Nat.reduceEqDiff, Nat.reduceBEq, reduceCtorEq]
  · rintro ⟨T1, H2⟩ ⟨t0, t3, hH⟩
    simp only at t0 t3 hH
    have hcmp : decide (((l.length : Nat) : Int) < ((l.length : Nat) : Int)) = false := decide_eq_false (by omega)
    unfold F31_L0
    simp -implicitDefEqProofs only [go_sem, Nat.reduceAdd, Nat.reduceMul, Nat.reduceLT, Nat.reduceLeDiff, Nat.reduceEqDiff, Nat.reduceBEq, reduceCtorEq, Int.reduceLT, Int.reduceLE, Int.reduceEq, Int.reduceGT, Int.reduceGE, Int.reduceToNat, Int.reduceNeg, t0, t3, hal, hcmp]
    exact .mk ⟨by simp, hH, .inl rfl⟩
  · rintro ⟨e, T1, H2⟩ ⟨hH, rfl | ⟨rfl, t2⟩⟩
    · simp only at hH
      simp -implicitDefEqProofs only [go_sem, Nat.reduceAdd, Nat.reduceMul, Nat.reduceLT, Nat.reduceLeDiff, Nat.reduceEqDiff, Nat.reduceBEq, reduceCtorEq, Int.reduceLT, Int.reduceLE, Int.reduceEq, Int.reduceGT, Int.reduceGE, Int.reduceToNat, Int.reduceNeg]
      exact .mk ⟨⟨_, rfl⟩, hH⟩
    · simp only at hH t2
      simp -implicitDefEqProofs only [go_sem, Nat.reduceAdd, Nat.reduceMul, Nat.reduceLT, Nat.reduceLeDiff, Nat.reduceEqDiff, Nat.reduceBEq, reduceCtorEq, Int.reduceLT, Int.reduceLE, Int.reduceEq, Int.reduceGT, Int.reduceGE, Int.reduceToNat, Int.reduceNeg, t2]
      exact .mk ⟨⟨_, rfl⟩, hH⟩

end Go.Proofs.YthiflgncldmkjaaDoor
set_option linter.unusedVariables false
set_option linter.unusedSimpArgs false
set_option maxRecDepth 100000
namespace Go.Proofs.YthiflgncldmkjaaDoor
open Go.Ri Go.ChangeShapes Go.WideShapes Go.ChangeAt Go.RowKit
section
variable {Hh : Type} {enc : TypeId × Value → Hh} {W : World} {base : Nat} {sp : Nat → Bool} {held : Bool}
theorem contract_law {f : FuncId} {fn : Func} {spec : ChangeSpec} (hres : fn.resultTypes = #[4])
    (hspec : ∀ ds : List (DataW Hh), ds.length = fn.params.size → spec.fn Hh ds = { results := [.lit (.bool true)], args := ds }) (hvars : spec.vars = [])
    (hread : ∀ t ∈ fn.params.toList, Tryd.prog.readableRec t = true ∧ t < Tryd.prog.types.size)
    {W : World} {args : Array Value} {ds gs : List (DataW Hh)} {before : List MemPlace}
    (hW : DataW.Whole enc Tryd.prog fn.params.toList spec.vars false W args.toList ds gs before) (hL : laidMetH Tryd.prog laidTabs W)
    (hrun : ∀ ρ H, Sim Tryd.prog ρ H W → H.ro → Tabs H → DataW.TrodAll enc Tryd.prog W 0 (fun _ => true) true fn.params.toList args.toList ds before →
      ∃ ρ' H' vs d, Lays Tryd.prog W ρ H ρ' H' ∧ relL ρ' vs args.toList ∧ Ret (LawR d f vs H') fun r => r.1 = .bool true) :
    Calls Tryd.prog f args W fun e W' => ∃ v, e = .returned v ∧ spec.post enc Tryd.prog fn false true false false W args v W' := by
  have hW' := hW
  obtain ⟨p, q, hA, hV, rfl, hfz, hnd⟩ := hW
  rw [hvars] at hV
  obtain ⟨rfl, rfl⟩ := trodVars_none hV
  simp only [List.append_nil] at hW' hrun
  obtain ⟨ρ, H, hS, hro, hT⟩ := start hL
  obtain ⟨ρ', H', vs, d, hLay, hrel, ⟨r, hr1, hr2⟩⟩ := hrun ρ H hS hro hT hA
  obtain ⟨v1, H1⟩ := r
  simp only at hr2
  subst hr2
  have hC := (LawR_ok d f vs H' (.bool true) H1 hr1).2 ρ' W args.toList hLay.sim hrel
  rw [Array.toArray_toList] at hC
  refine hC.mono ?_
  rintro e W' ⟨ρ2, v', rfl, hv, hout⟩
  simp only [rel] at hv
  subst hv
  have hb := below_of_ro hLay.ro hout
  have hlen : ds.length = fn.params.size := by
    have h : ∀ {ts : List TypeId} {vs : List Value} {ds : List (DataW Hh)} {ps : List MemPlace}, DataW.TrodAll enc Tryd.prog W 0 (fun _ => true) true ts vs ds ps → ds.length = ts.length := by
      intro ts
      induction ts with
      | nil => intro vs ds ps h; obtain ⟨_, rfl, _⟩ := trodAll_nil h; rfl
      | cons t ts ih =>
        intro vs ds ps h
        obtain ⟨v, vs', d, ds', p, q, rfl, rfl, rfl, h0, hr⟩ := trodAll_cons h
        simp [ih hr]
    simpa using h hA
  have hfn := hspec ds hlen
  have hlt : ∀ x ∈ p, x.block < W.heap.size := fun x hx => hW'.lt x hx
  refine ⟨_, rfl, post_of_below (pa := p) (pv := []) (by simpa using hW') (fun _ _ _ => ?_) (fun sp hsp => ?_) (fun _ _ => ?_) (by simp) hb (ok_one hres rfl (okWide_bool_mk under4 _))⟩
  · rw [List.append_nil, hfn, hres]
    exact trodAll_cons_mk (shut_bool under4 _) trodAll_mk0
  · rw [List.append_nil, hfn]
    exact trodAll_stays hb hread hA hlt (fun x hx => hsp x (by simpa using hx))
  · rw [List.append_nil, hfn, hvars]
    rfl

end

theorem bind_lazy {A B : Type} {x y : Option A} {f : A → Option B} (h : x = y) : x.bind f = y.bind f := by rw [h]
theorem jn_lazy {R : Type} {x y : Option (St ⊕ R)} {f : Tm → AH → Option R} (h : x = y) : jn x f = jn y f := by rw [h]

theorem MadeAll.alike {l As : List Code} (h : MadeAll l As) : Alike l As := by
  refine ⟨h.1.symm, fun k => ?_⟩
  by_cases hk : k < l.length
  · obtain ⟨A, _, hA⟩ := h.2 k hk (by rw [h.1]; exact hk)
    rw [List.getElem?_eq_getElem hk, List.getElem?_eq_getElem (by rw [h.1]; exact hk), hA]
    rfl
  · rw [List.getElem?_eq_none (by omega), List.getElem?_eq_none (by rw [h.1]; omega)]
theorem MadeAll.at {l As : List Code} (h : MadeAll l As) {main : Int} (hs : SoundP l main) {k : Nat} (hk : k < As.length) :
    ∃ hl : k < l.length, As[k].cells = l[k].cells ∧ As[k].params = l[k].params ∧ As[k].answers = l[k].answers ∧ As[k].ins.length ≤ l[k].ins.length ∧ Snd As As[k] ∧ onceP As[k].ins = none := by
  have hl : k < l.length := by rw [← h.1]; exact hk
  obtain ⟨A, hm, hA⟩ := h.2 k hl hk
  obtain ⟨s, hlen⟩ := hm.snd (c := l[k]) rfl (hs.snd hl)
  refine ⟨hl, by rw [hA], by rw [hA], by rw [hA], by rw [hA]; exact hlen, ?_, by rw [hA]; exact hm.last⟩
  rw [hA]
  exact h.alike.snd s
theorem MadeAll.sound {l As : List Code} (h : MadeAll l As) {main : Int} (hs : SoundP l main) : SoundP As main := by
  have al := h.alike
  refine ⟨by rw [h.1]; exact hs.1, by rw [h.1]; exact hs.2.1, hs.2.2.1, by rw [h.1]; exact hs.2.2.2.1, by rw [← al.params]; exact hs.2.2.2.2.1, by rw [← al.answers]; exact hs.2.2.2.2.2.1, fun k hk => ?_⟩
  obtain ⟨_, _, _, _, _, ⟨o, hh, g⟩, _⟩ := h.at hs hk
  exact ⟨hh, As[k], by omega, by rw [Int.toNat_natCast]; exact List.getElem?_eq_getElem hk, o, g⟩
theorem MadeAll.reach {l As : List Code} (h : MadeAll l As) {main : Int} (hs : SoundP l main) {k : Nat} (hk : k < As.length) {hh : List Int} (g : Hts As k hh) : ∀ x ∈ hh, 0 ≤ x := by
  obtain ⟨c, _, hc, _, hg⟩ := g
  rw [Int.toNat_natCast, List.getElem?_eq_getElem hk] at hc
  obtain rfl : As[k] = c := Option.some.inj hc
  obtain ⟨_, _, _, _, _, _, hno⟩ := h.at hs hk
  intro x hx
  obtain ⟨a, ha⟩ := List.mem_iff_getElem?.1 hx
  have hlt := (List.getElem?_eq_some_iff.1 ha).1
  rw [hg.len] at hlt
  simp only [onceP, Option.map_eq_none_iff] at hno
  have h0 := fit_zero (firstP_none hno a (Nat.zero_le _) (by omega))
  obtain ⟨y, hy, h0y⟩ := hg.at_reach ((reachL_iff rfl).1 h0)
  rw [ha] at hy
  cases hy
  exact h0y
theorem OwnCodes.codes {N : Nat} {H : AH} {v : AV} {l As : List Code} (h : OwnCodes N H v As) (hm : MadeAll l As) {main : Int} (hs : SoundP l main) : CodesRow H v As := by
  refine h.row (by rw [hm.1]; have := hs.2.1; omega) fun c hc => ?_
  obtain ⟨k, hk⟩ := List.mem_iff_getElem?.1 hc
  have hlt := (List.getElem?_eq_some_iff.1 hk).1
  rw [List.getElem?_eq_getElem hlt] at hk
  cases hk
  obtain ⟨_, _, _, _, _, s, _⟩ := hm.at hs hlt
  have := s.1.few
  omega
end Go.Proofs.YthiflgncldmkjaaDoor
set_option linter.unusedVariables false
set_option linter.unusedSimpArgs false
set_option maxRecDepth 100000
namespace Go.Proofs.YthiflgncldmkjaaDoor
open Go.Ri
attribute [local congr] bind_lazy jn_lazy

theorem bool_neq (a b : Bool) : aBin Tryd.prog .neq 4 (.bool a) (.bool b) = some (.bool (!(a == b))) := by kernel_rfl
theorem beq_same (a : Bool) : (!(a == a)) = false := by simp
theorem codes_ins {H : AH} {ls : AV} {l : List Code} (h : CodesRow H ls l) {k : Nat} (hk : k < l.length) :
    ∃ b o s, (∀ kd, idxSl ls (.int kd (k : Nat)) 4 = some (.ptr (some (b, o)))) ∧ ldOne (.ptr (some (b, o))) H = some s ∧ aLen Tryd.prog 22 s = some (.int .i64 (l[k].ins.length : Nat)) ∧ InsRow H s l[k].ins ∧ ldAgg (.ptr (some (b, o))) 4 H = some (.agg [s, .int .i64 l[k].cells, .int .i64 l[k].params, .bool l[k].answers]) ∧
      ldOne (.ptr (some (b, o + 1))) H = some (.int .i64 l[k].cells) ∧ ldOne (.ptr (some (b, o + 2))) H = some (.int .i64 l[k].params) ∧ ldOne (.ptr (some (b, o + 3))) H = some (.bool l[k].answers) ∧ InI l[k].cells ∧ InI l[k].params := by
  obtain ⟨b, o, c, q1, q2, ⟨s, q3, q4, q5⟩, q6, q7, q8, q9, q10, _⟩ := codes_at h (n := ((k : Nat) : Int)) (by omega) (by omega)
  rw [Int.toNat_natCast, List.getElem?_eq_getElem hk] at q1
  obtain rfl : l[k] = c := Option.some.inj q1
  exact ⟨b, o, s, q2, q5, q4.alen, q4, q3, q6, q7, q8, q9, q10⟩
end Go.Proofs.YthiflgncldmkjaaDoor
set_option linter.unusedVariables false
set_option linter.unusedSimpArgs false
set_option maxRecDepth 100000
namespace Go.Proofs.YthiflgncldmkjaaDoor
open Go.Ri
attribute [local congr] bind_lazy jn_lazy

theorem ins_neq_same (i : Ins) : aBin Tryd.prog .neq 29 (.agg (insC i)) (.agg (insC i)) = some (.bool false) := by
  have h := ins_neq i.op i.n i.m i.op i.n i.m
  have e : (!(i.op == i.op && (i.n == i.n && (i.m == i.m && true)))) = false := by simp
  rw [e] at h
  exact h
theorem same_spec (d : Nat) {H : AH} {va vb : AV} {l : List Code} (ha : CodesRow H va l) (hb : CodesRow H vb l) (hlim : ∀ c ∈ l, c.ins.length ≤ 4611686018427387904) :
    Ret (RT (d + 1) 35 [va, vb] H) fun r => r.1 = .bool true ∧ r.2 = H := by
  rw [R35]
  unfold F35
  have hfew := ha.few
  have h1 := ha.alen
  have h2 := hb.alen
  simp -implicitDefEqProofs only [go_sem, Nat.reduceAdd, Nat.reduceMul, Nat.reduceLT, Nat.reduceLeDiff, Nat.reduceEqDiff, Nat.reduceBEq, reduceCtorEq, Int.reduceLT, Int.reduceLE, Int.reduceEq, Int.reduceGT, Int.reduceGE, Int.reduceToNat, Int.reduceNeg, h1, h2, eq_self]
  refine Ret.then (Q' := fun r => r.1 = .exit 0 ∧ r.2.2 = H) (Ret.upTo (n := l.length) (fun i t => t.1 0 = va ∧ t.1 1 = vb ∧ t.1 5 = .int .i64 (i : Nat) ∧ t.2 = H) (by unfold big; omega) ⟨?_, ?_, ?_, rfl⟩ ?_ ?_) ?_
  · simp -implicitDefEqProofs only [go_sem, Nat.reduceEqDiff, Nat.reduceBEq, reduceCtorEq]
  · simp -implicitDefEqProofs only [go_sem, Nat.reduceEqDiff, Nat.reduceBEq, reduceCtorEq]
  · simp -implicitDefEqProofs only [go_sem, Nat.reduceEqDiff, Nat.reduceBEq, reduceCtorEq]
    rfl
  · rintro i ⟨T1, H1⟩ hi ⟨t0, t1, t5, hH⟩
    simp only at t0 t1 t5 hH
    subst hH
    have hcmp : decide (((i : Nat) : Int) < ((l.length : Nat) : Int)) = true := decide_eq_true (by omega)
    obtain ⟨b1, o1, s1, f1, f2, f3, fi, _, f4, f5, f6, _⟩ := codes_ins ha hi
    obtain ⟨b2, o2, s2, g1, g2, g3, gi, _, g4, g5, g6, _⟩ := codes_ins hb hi
    have hli := hlim l[i] (List.getElem_mem _)
    unfold F35_L1
    simp -implicitDefEqProofs only [go_sem, Nat.reduceAdd, Nat.reduceMul, Nat.reduceLT, Nat.reduceLeDiff, Nat.reduceEqDiff, Nat.reduceBEq, reduceCtorEq, Int.reduceLT, Int.reduceLE, Int.reduceEq, Int.reduceGT, Int.reduceGE, Int.reduceToNat, Int.reduceNeg, t0, t1, t5, h1, hcmp, f1, f2, f3, f4, f5, f6, g1, g2, g3, g4, g5, g6, eq_self, bool_neq, beq_same]
    refine Ret.then (Q' := fun r => r.1 = .exit 2 ∧ r.2.1 0 = va ∧ r.2.1 1 = vb ∧ r.2.1 5 = .int .i64 (i : Nat) ∧ r.2.2 = H1) (Ret.upTo (n := l[i].ins.length) (fun j t => t.1 0 = va ∧ t.1 1 = vb ∧ t.1 5 = .int .i64 (i : Nat) ∧ t.1 6 = .int .i64 (j : Nat) ∧ t.2 = H1) (by unfold big; omega) ⟨?_, ?_, ?_, ?_, rfl⟩ ?_ ?_) ?_
    · simp -implicitDefEqProofs only [go_sem, Nat.reduceEqDiff, Nat.reduceBEq, reduceCtorEq, t0]
    · simp -implicitDefEqProofs only [go_sem, Nat.reduceEqDiff, Nat.reduceBEq, reduceCtorEq, t1]
    · simp -implicitDefEqProofs only [go_sem, Nat.reduceEqDiff, Nat.reduceBEq, reduceCtorEq, t5]
    · simp -implicitDefEqProofs only [go_sem, Nat.reduceEqDiff, Nat.reduceBEq, reduceCtorEq]
      rfl
    · rintro j ⟨T2, H2⟩ hj ⟨u0, u1, u5, u6, hH⟩
      simp only at u0 u1 u5 u6 hH
      subst hH
      have hcj : decide (((j : Nat) : Int) < ((l[i].ins.length : Nat) : Int)) = true := decide_eq_true (by omega)
      obtain ⟨p1, q1, k1, k2, _⟩ := fi.1.at (i := j) (by simpa using hj)
      obtain ⟨p2, q2, m1, m2, _⟩ := gi.1.at (i := j) (by simpa using hj)
      simp only [List.getElem_map] at k2 m2
      unfold F35_L0
      simp -implicitDefEqProofs only [go_sem, Nat.reduceAdd, Nat.reduceMul, Nat.reduceLT, Nat.reduceLeDiff, Nat.reduceEqDiff, Nat.reduceBEq, reduceCtorEq, Int.reduceLT, Int.reduceLE, Int.reduceEq, Int.reduceGT, Int.reduceGE, Int.reduceToNat, Int.reduceNeg, u0, u1, u5, u6, f1, f2, f3, hcj, g1, g2, k1, k2, m1, m2, ins_neq_same, wrapS (i := j) (by omega)]
      refine .mk (.inl ⟨rfl, ?_, ?_, ?_, ?_, rfl⟩)
      · simp -implicitDefEqProofs only [go_sem, Nat.reduceEqDiff, Nat.reduceBEq, reduceCtorEq, u0]
      · simp -implicitDefEqProofs only [go_sem, Nat.reduceEqDiff, Nat.reduceBEq, reduceCtorEq, u1]
      · simp -implicitDefEqProofs only [go_sem, Nat.reduceEqDiff, Nat.reduceBEq, reduceCtorEq, u5]
      · simp -implicitDefEqProofs only [go_sem, Nat.reduceEqDiff, Nat.reduceBEq, reduceCtorEq]
    · rintro ⟨T2, H2⟩ ⟨u0, u1, u5, u6, hH⟩
      simp only at u0 u1 u5 u6 hH
      subst hH
      have hcj : decide (((l[i].ins.length : Nat) : Int) < ((l[i].ins.length : Nat) : Int)) = false := decide_eq_false (by omega)
      unfold F35_L0
      simp -implicitDefEqProofs only [go_sem, Nat.reduceAdd, Nat.reduceMul, Nat.reduceLT, Nat.reduceLeDiff, Nat.reduceEqDiff, Nat.reduceBEq, reduceCtorEq, Int.reduceLT, Int.reduceLE, Int.reduceEq, Int.reduceGT, Int.reduceGE, Int.reduceToNat, Int.reduceNeg, u0, u5, u6, f1, f2, f3, hcj]
      refine .mk ⟨by simp, rfl, ?_, ?_, ?_, rfl⟩
      · simp -implicitDefEqProofs only [go_sem, Nat.reduceEqDiff, Nat.reduceBEq, reduceCtorEq, u0]
      · simp -implicitDefEqProofs only [go_sem, Nat.reduceEqDiff, Nat.reduceBEq, reduceCtorEq, u1]
      · simp -implicitDefEqProofs only [go_sem, Nat.reduceEqDiff, Nat.reduceBEq, reduceCtorEq, u5]
    · rintro ⟨e, T2, H2⟩ ⟨rfl, u0, u1, u5, hH⟩
      simp only at u0 u1 u5 hH
      subst hH
      simp -implicitDefEqProofs only [go_sem, Nat.reduceAdd, Nat.reduceMul, Nat.reduceLT, Nat.reduceLeDiff, Nat.reduceEqDiff, Nat.reduceBEq, reduceCtorEq, Int.reduceLT, Int.reduceLE, Int.reduceEq, Int.reduceGT, Int.reduceGE, Int.reduceToNat, Int.reduceNeg, u5, wrapS (i := i) (by omega)]
      refine .mk (.inl ⟨rfl, ?_, ?_, ?_, rfl⟩)
      · simp -implicitDefEqProofs only [go_sem, Nat.reduceEqDiff, Nat.reduceBEq, reduceCtorEq, u0]
      · simp -implicitDefEqProofs only [go_sem, Nat.reduceEqDiff, Nat.reduceBEq, reduceCtorEq, u1]
      · simp -implicitDefEqProofs only [go_sem, Nat.reduceEqDiff, Nat.reduceBEq, reduceCtorEq]
  · rintro ⟨T1, H1⟩ ⟨t0, t1, t5, hH⟩
    simp only at t0 t1 t5 hH
    subst hH
    have hcmp : decide (((l.length : Nat) : Int) < ((l.length : Nat) : Int)) = false := decide_eq_false (by omega)
    unfold F35_L1
    simp -implicitDefEqProofs only [go_sem, Nat.reduceAdd, Nat.reduceMul, Nat.reduceLT, Nat.reduceLeDiff, Nat.reduceEqDiff, Nat.reduceBEq, reduceCtorEq, Int.reduceLT, Int.reduceLE, Int.reduceEq, Int.reduceGT, Int.reduceGE, Int.reduceToNat, Int.reduceNeg, t0, t5, h1, hcmp]
    exact .mk ⟨by simp, rfl, rfl⟩
  · rintro ⟨e, T1, H1⟩ ⟨rfl, hH⟩
    simp only at hH
    simp -implicitDefEqProofs only [go_sem, Nat.reduceAdd, Nat.reduceMul, Nat.reduceLT, Nat.reduceLeDiff, Nat.reduceEqDiff, Nat.reduceBEq, reduceCtorEq, Int.reduceLT, Int.reduceLE, Int.reduceEq, Int.reduceGT, Int.reduceGE, Int.reduceToNat, Int.reduceNeg]
    exact .mk ⟨rfl, hH⟩
end Go.Proofs.YthiflgncldmkjaaDoor
set_option linter.unusedVariables false
set_option linter.unusedSimpArgs false
set_option maxRecDepth 100000
namespace Go.Proofs.YthiflgncldmkjaaDoor
open Go.Ri
attribute [local congr] bind_lazy jn_lazy

end Go.Proofs.YthiflgncldmkjaaDoor
set_option linter.unusedVariables false
set_option linter.unusedSimpArgs false
set_option maxRecDepth 100000
namespace Go.Proofs.YthiflgncldmkjaaDoor
open Go.Ri
attribute [local congr] bind_lazy jn_lazy

structure Vw (H : AH) (s hs tg : AV) (L : List Ins) (h : List Int) (T : List Bool) : Prop where
  row : Row H s 3 (L.map insC)
  hrow : Row H hs 1 (h.map fun x => [.int .i64 x])
  trow : BoolRow H tg T
  lenH : h.length = L.length
  lenT : T.length = L.length
theorem Vw.mono {H H' : AH} {s hs tg : AV} {L : List Ins} {h : List Int} {T : List Bool} (v : Vw H s hs tg L h T) (hsub : H.sub H') : Vw H' s hs tg L h T :=
  ⟨v.row.mono hsub, v.hrow.mono hsub, Row.mono v.trow hsub, v.lenH, v.lenT⟩
end Go.Proofs.YthiflgncldmkjaaDoor
set_option linter.unusedVariables false
set_option linter.unusedSimpArgs false
set_option maxRecDepth 100000
namespace Go.Proofs.YthiflgncldmkjaaDoor
open Go.Ri
attribute [local congr] bind_lazy jn_lazy

def RuleT (N : Nat) (H : AH) (v : AV) (c : Chg) : Prop := ∃ s, v = .tuple [.int .i64 (c.rule : Nat), .int .i64 (c.n : Nat), s] ∧ Row H s 3 (c.put.map insC) ∧ ∀ b o n d, s = .slice (some (b, o)) n d → N ≤ b
theorem RuleT.none (N : Nat) (H : AH) (a b : Nat) : RuleT N H (.tuple [.int .i64 (a : Nat), .int .i64 (b : Nat), .slice none 0 (.kn 0)]) ⟨a, b, []⟩ := ⟨_, rfl, Row.nil _ _, fun _ _ _ _ h => by cases h⟩
theorem RuleT.made {N : Nat} {H : AH} {cs : List AV} {e : TypeId} {i : Ins} (a n : Nat) (hN : N ≤ H.next) (hc : cs = insC i) {v : AV} (hv : v = .tuple [.int .i64 (a : Nat), .int .i64 (n : Nat), .slice (some (H.next, 0)) 1 (.kn 1)]) : RuleT N (H.new cs e) v ⟨a, n, [i]⟩ := by
  subst hv
  refine ⟨_, rfl, row_one (b := H.next) (B := ⟨cs, e, true⟩) ?_ hc, fun b o n d e => by cases e; exact hN⟩
  simp only [new_m, if_true]
theorem RuleT.low {N M : Nat} {H : AH} {v : AV} {c : Chg} (h : RuleT N H v c) (hM : M ≤ N) : RuleT M H v c := by
  obtain ⟨s, h1, h2, h3⟩ := h
  exact ⟨s, h1, h2, fun b o n d e => Nat.le_trans hM (h3 b o n d e)⟩
structure Two (i j : Ins) : Prop where
  si : i.op = 6 → 0 ≤ i.n ∧ i.n ≤ 65536 ∧ 0 ≤ i.m ∧ i.m ≤ 64
  sj : j.op = 6 → 0 ≤ j.n ∧ j.n ≤ 65536 ∧ 0 ≤ j.m ∧ j.m ≤ 64
theorem RuleT.mono {N : Nat} {H H' : AH} {v : AV} {c : Chg} (h : RuleT N H v c) (hs : H.sub H') : RuleT N H' v c := by
  obtain ⟨s, h1, h2, h3⟩ := h
  exact ⟨s, h1, h2.mono hs, h3⟩
end Go.Proofs.YthiflgncldmkjaaDoor
set_option linter.unusedVariables false
set_option linter.unusedSimpArgs false
set_option maxRecDepth 100000
namespace Go.Proofs.YthiflgncldmkjaaDoor
open Go.Ri
attribute [local congr] bind_lazy jn_lazy

def hAt (h : List Int) (a : Nat) : Bool := decide (0 ≤ (h[a]?).getD (-1))
end Go.Proofs.YthiflgncldmkjaaDoor
set_option linter.unusedVariables false
set_option linter.unusedSimpArgs false
set_option maxRecDepth 100000
namespace Go.Proofs.YthiflgncldmkjaaDoor
open Go.Ri
attribute [local congr] bind_lazy jn_lazy

theorem Plain.two {L : List Ins} (P : Plain L) {p : Nat} (hp : p < L.length) (T : Nat → Bool) : Two L[p] (Go.Proofs.YthiflgncldmkjaaDoor.jAt T L p) := by
  refine ⟨P.clear _ (List.getElem_mem _), fun h => ?_⟩
  exact P.clear _ (List.mem_of_getElem? (jAt_some (T := T) (L := L) (p := p) (by rw [h]; omega)).2) h
end Go.Proofs.YthiflgncldmkjaaDoor
set_option linter.unusedVariables false
set_option linter.unusedSimpArgs false
set_option maxRecDepth 100000
namespace Go.Proofs.YthiflgncldmkjaaDoor
open Go.Ri
attribute [local congr] bind_lazy jn_lazy

theorem hAt_reach {l : List Code} {c : Code} {h : List Int} (g : Good l c h) : hAt h = reachL c.ins := by
  have eq : ∀ {x y : Bool}, (x = true ↔ y = true) → x = y := fun {x y} h => by cases x <;> cases y <;> simp_all
  funext a
  refine eq ?_
  rw [reachL_iff (c := c) rfl]
  unfold hAt
  rw [decide_eq_true_iff]
  constructor
  · intro h0
    cases hx : h[a]? with
    | none => rw [hx] at h0; simp at h0
    | some x =>
      rw [hx] at h0
      simp only [Option.getD_some] at h0
      rcases g.reach a x hx with h1 | h1
      · omega
      · exact h1.2
  · intro hr
    obtain ⟨x, hx, h0⟩ := g.at_reach hr
    rw [hx]
    exact h0
def Tgt (L : List Ins) (h : List Int) (i : Nat) (T : List Bool) : Prop := ∀ t : Nat, bAt T t = true ↔ ∃ a, a < i ∧ hAt h a = true ∧ isJ (insAt L a) ∧ (insAt L a).n = (t : Nat)
theorem Tgt.all {l : List Code} {c : Code} {h : List Int} (g : Good l c h) {T : List Bool} (ht : Tgt c.ins h c.ins.length T) : bAt T = targL c.ins := by
  have eq : ∀ {x y : Bool}, (x = true ↔ y = true) → x = y := fun {x y} h => by cases x <;> cases y <;> simp_all
  funext t
  refine eq ?_
  rw [ht t, targL_iff]
  constructor
  · rintro ⟨a, ha, hr, hj, hn⟩
    rw [hAt_reach g, reachL_iff (c := c) rfl] at hr
    rw [insAt_eq ha] at hj hn
    exact ⟨a, c.ins[a], Reach.ins (c := c) (c' := bareC c.ins) rfl hr, List.getElem?_eq_getElem ha, hj, hn⟩
  · rintro ⟨a, i, hr, hi, hj, hn⟩
    have ha := (List.getElem?_eq_some_iff.1 hi).1
    rw [List.getElem?_eq_getElem ha] at hi
    cases hi
    refine ⟨a, ha, ?_, by rw [insAt_eq ha]; exact hj, by rw [insAt_eq ha]; exact hn⟩
    rw [hAt_reach g]
    exact (reachL_iff (c := c) rfl).2 (Reach.ins (c := bareC c.ins) (c' := c) rfl hr)
end Go.Proofs.YthiflgncldmkjaaDoor
set_option linter.unusedVariables false
set_option linter.unusedSimpArgs false
set_option maxRecDepth 100000
namespace Go.Proofs.YthiflgncldmkjaaDoor
open Go.Ri
attribute [local congr] bind_lazy jn_lazy

end Go.Proofs.YthiflgncldmkjaaDoor
set_option linter.unusedVariables false
set_option linter.unusedSimpArgs false
set_option maxRecDepth 100000
namespace Go.Proofs.YthiflgncldmkjaaDoor
open Go.Ri
attribute [local congr] bind_lazy jn_lazy

end Go.Proofs.YthiflgncldmkjaaDoor
set_option linter.unusedVariables false
set_option linter.unusedSimpArgs false
set_option maxRecDepth 100000
namespace Go.Proofs.YthiflgncldmkjaaDoor
open Go.Ri
attribute [local congr] bind_lazy jn_lazy

end Go.Proofs.YthiflgncldmkjaaDoor
set_option linter.unusedVariables false
set_option linter.unusedSimpArgs false
set_option maxRecDepth 100000
namespace Go.Ri
def CapN (s : AV) : Prop := s = .empty ∨ ∃ p n c, s = .slice p n (.kn c) ∧ n ≤ c
theorem lay_slice2 {P : Program} {w : World} {k : Nat} (hk : 0 < k) {ρ : Ro} {H : AH} (h : Sim P ρ H w) (hro : H.ro) {Good : AH → List AV → Prop} (hmono : ∀ H H' x, Good H x → H.sub H' → Good H' x)
    {v : Value} {a : Addr} {len cap : Nat} (hv : v = .slice (some a) len cap) (hc : len ≤ cap)
    (hel : ∀ i, i < len → ∃ ci, w.cells? 0 (a.add (i * k)) k = some ci ∧ ∀ ρ H, Sim P ρ H w → H.ro → ∃ ρ' H' x, Lays P w ρ H ρ' H' ∧ relL ρ' x ci ∧ x.length = k ∧ x.all AV.isOne = true ∧ Good H' x) :
    ∃ ρ' H' s l, Lays P w ρ H ρ' H' ∧ rel ρ' s v ∧ Row H' s k l ∧ l.length = len ∧ (∀ x ∈ l, Good H' x) ∧ CapN s := by
  cases len with
  | zero => exact ⟨ρ, H, .empty, [], .refl h hro, ⟨a, cap, hv⟩, ⟨by simp, .inl ⟨rfl, rfl⟩⟩, rfl, by simp, .inl rfl⟩
  | succ n =>
    -- the elements
    have key : ∀ m, m ≤ n + 1 → ∃ (ρ' : Ro) (H' : AH) (l : List (List AV)) (vs : List Value), Lays P w ρ H ρ' H' ∧ l.length = m ∧ (∀ x ∈ l, x.length = k ∧ x.all AV.isOne = true ∧ Good H' x) ∧ relL ρ' l.flatten vs ∧ vs.length = m * k ∧ ∀ i v, vs[i]? = some v → w.cell? (a.add i) = some v := by
      intro m
      induction m with
      | zero => exact fun _ => ⟨ρ, H, [], [], .refl h hro, rfl, by simp, relL_nil _, by simp, by simp⟩
      | succ m ih =>
        intro hm
        obtain ⟨ρ1, H1, l, vs, hL, hl, hx, hr, hvl, hcell⟩ := ih (by omega)
        obtain ⟨ci, hci, hgo⟩ := hel m (by omega)
        obtain ⟨ρ2, H2, x, hL2, hr2, hxk, hx1, hg⟩ := hgo ρ1 H1 hL.sim hL.ro
        obtain ⟨hcl, hcc⟩ := cells_some hci
        refine ⟨ρ2, H2, l ++ [x], vs ++ ci, hL.trans hL2, by simp [hl], ?_, ?_, ?_, ?_⟩
        · intro y hy
          simp only [List.mem_append, List.mem_cons, List.not_mem_nil, or_false] at hy
          rcases hy with hy | rfl
          · obtain ⟨a1, a2, a3⟩ := hx y hy
            exact ⟨a1, a2, hmono _ _ _ a3 hL2.sub⟩
          · exact ⟨hxk, hx1, hg⟩
        · rw [List.flatten_append, List.flatten_cons, List.flatten_nil, List.append_nil]
          exact relL_append (relL_mono hL2.le _ hr) hr2
        · rw [List.length_append, hvl, hcl, Nat.succ_mul]
        · intro i u hi
          rw [List.getElem?_append] at hi
          split at hi
          · exact hcell i u hi
          · rename_i hge
            rw [hvl] at hi hge
            have hlt := (List.getElem?_eq_some_iff.1 hi).1
            obtain ⟨u', h1, h2⟩ := hcc (i - m * k) (by omega)
            rw [hi] at h1
            cases h1
            rw [add_add] at h2
            rw [show m * k + (i - m * k) = i by omega] at h2
            exact h2
    obtain ⟨ρ1, H1, l, vs, hL, hl, hx, hr, hvl, hcell⟩ := key (n + 1) (Nat.le_refl _)
    have hpos : 0 < (n + 1) * k := Nat.mul_pos (by omega) hk
    obtain ⟨u0, hu0⟩ : ∃ u, vs[0]? = some u := ⟨_, List.getElem?_eq_getElem (by omega)⟩
    obtain ⟨c, e, fr, hblk, hc0, hspot⟩ := cell_add (hcell 0 u0 hu0)
    have hcs : ∀ i v, vs[i]? = some v → c[a.off + i]? = some v := by
      intro i v hi
      obtain ⟨c', e', fr', hb', hc', _⟩ := cell_add (hcell i v hi)
      rw [hblk] at hb'
      cases hb'
      exact hc'
    have hend : a.off + vs.length ≤ c.size := by
      obtain ⟨u, hu⟩ : ∃ u, vs[vs.length - 1]? = some u := ⟨_, List.getElem?_eq_getElem (by omega)⟩
      have := (Array.getElem?_eq_some_iff.1 (hcs _ _ hu)).1
      omega
    have h1 : l.flatten.all AV.isOne = true := by
      rw [List.all_eq_true]
      intro y hy
      obtain ⟨x, hxl, hyx⟩ := List.mem_flatten.1 hy
      exact List.all_eq_true.1 (hx x hxl).2.1 y hyx
    obtain ⟨hs, hle, hro2, hsub⟩ := win_sound hL.sim hL.ro hblk hr h1 hcs hend
    have hlen : ∀ x ∈ l, x.length = k := fun x hxl => (hx x hxl).1
    have hfl := flat_len l hlen
    refine ⟨_, _, .slice (some (H1.next, 0)) (n + 1) (.kn cap), l, hL.trans ⟨hs, hle, hro2, hsub⟩, ?_, ?_, hl, fun x hxl => hmono _ _ _ (hx x hxl).2.2 hsub, .inr ⟨_, _, _, rfl, hc⟩⟩
    · refine ⟨some a, cap, ?_, rfl, hc, hv⟩
      have hsp := hspot rfl
      simp only [cAddr, winRo, if_true, Option.map_some, Nat.add_zero]
      cases a
      simp only at hsp
      subst hsp
      rfl
    · refine ⟨hlen, .inr ⟨some (H1.next, 0), .kn cap, by rw [hl], .inr ⟨H1.next, 0, ⟨l.flatten, e, false⟩, rfl, by simp [AH.win, setM_same], by simp only; omega, fun i hi => ?_⟩⟩⟩
      rw [Nat.zero_add]
      exact flat_at l hlen i hi
end Go.Ri

namespace Go.Proofs.YthiflgncldmkjaaDoor
open Go.Ri Go.ChangeShapes Go.WideShapes Go.ChangeAt Go.RowKit

def CodeAt2 (H : AH) (x : List AV) (c : Code) : Prop := CodeAt H x c ∧ ∀ s, x[0]? = some s → CapN s
def CapCodes (H : AH) (s : AV) : Prop := ∃ rows : List (List AV), Row H s 4 rows ∧ ∀ x ∈ rows, ∀ s, x[0]? = some s → CapN s
theorem CapCodes.nil (H : AH) : CapCodes H (.slice none 0 (.kn 0)) := ⟨[], .nil _ _, by simp⟩
section
variable {Hh : Type} {enc : TypeId × Value → Hh} {W : World} {base : Nat} {sp : Nat → Bool} {held : Bool}
theorem lay_ins2 {fuel : Nat} {v : Value} {x : DataW Hh × List MemPlace} {sp : Nat → Bool} (h : DataW.trod enc Tryd.prog W 0 sp held fuel 22 [v] = some x) {ρ : Ro} {H : AH} (hS : Sim Tryd.prog ρ H W) (hro : H.ro) :
    ∃ ρ' H' s l, Lays Tryd.prog W ρ H ρ' H' ∧ rel ρ' s v ∧ s.isOne = true ∧ InsRow H' s l ∧ l.length ≤ 9223372036854775807 ∧ l.length = lens x.1 ∧ CapN s := by
  rcases trod_sl ysl22.under h with ⟨hv, hx0⟩ | ⟨a, len, cap, m, hv, hx0, hc, hcm, hel⟩
  · cases hv
    exact ⟨ρ, H, .slice none 0 (.kn 0), [], .refl hS hro, ⟨none, 0, rfl, rfl, Nat.le_refl _, rfl⟩, rfl, ⟨.nil _ _, by simp⟩, by simp, hx0.symm, .inr ⟨_, _, _, rfl, Nat.le_refl _⟩⟩
  · cases hv
    rw [c29] at hel
    obtain ⟨ρ', H', s, l, hL, hr, hrow, hl, hg, hcap⟩ := lay_slice2 (k := 3) (by omega) hS hro (Good := fun _ x => ∃ i : Ins, i.Ok ∧ x = insC i) (fun _ _ _ h _ => h) rfl hc fun i hi => by
      obtain ⟨ci, y, h1, h2⟩ := hel i hi
      obtain ⟨ins, hok, rfl⟩ := trod_ins h2
      refine ⟨_, h1, fun ρ1 H1 hS1 hro1 => ⟨ρ1, H1, insC ins, .refl hS1 hro1, ?_, rfl, rfl, ins, hok, rfl⟩⟩
      exact relL_cons rfl (relL_cons rfl (relL_one rfl))
    have hone : s.isOne = true := by
      rcases hrow.is with ⟨rfl, _⟩ | ⟨a, c, rfl, _⟩ <;> rfl
    have hex : ∃ ll : List Ins, l = ll.map insC ∧ ∀ i ∈ ll, i.Ok := by
      clear hrow hL hr hl
      induction l with
      | nil => exact ⟨[], rfl, by simp⟩
      | cons y l ih =>
        obtain ⟨ll, rfl, hok⟩ := ih fun x hx => hg x (by simp [hx])
        obtain ⟨i, hi, rfl⟩ := hg y (by simp)
        exact ⟨i :: ll, rfl, by simpa using ⟨hi, hok⟩⟩
    obtain ⟨ll, rfl, hok⟩ := hex
    exact ⟨ρ', H', s, ll, hL, hr, hone, ⟨hrow, hok⟩, by rw [List.length_map] at hl; have : maxLen = 9223372036854775807 := (by decide); omega, by rw [List.length_map] at hl; omega, hcap⟩
end
end Go.Proofs.YthiflgncldmkjaaDoor
set_option linter.unusedVariables false
set_option linter.unusedSimpArgs false
set_option maxRecDepth 100000
namespace Go.Proofs.YthiflgncldmkjaaDoor
open Go.Ri Go.ChangeShapes Go.WideShapes Go.ChangeAt Go.RowKit

theorem bytes29 : Tryd.prog.bytesOf 29 = 24 := by kernel_rfl
section
variable {Hh : Type} {enc : TypeId × Value → Hh} {W : World} {base : Nat} {sp : Nat → Bool} {held : Bool}
theorem weightsAll_mem {P : Program} {e : TypeId} {p : Nat → Bool} : ∀ {l : List (DataW Hh)}, (DataW.weightsAll P e l).all p = true → ∀ d ∈ l, (DataW.weights P e d).all p = true
  | [], _, d, hd => by cases hd
  | x :: l, h, d, hd => by
    simp only [DataW.weightsAll, List.all_append, Bool.and_eq_true] at h
    rcases List.mem_cons.1 hd with rfl | hd
    · exact h.1
    · exact weightsAll_mem h.2 d hd
theorem code_first {fuel : Nat} {cs : List Value} {x : DataW Hh × List MemPlace} (h : DataW.trod enc Tryd.prog W base sp held fuel 24 cs = some x) (hw : (DataW.weights Tryd.prog 24 x.1).all (· ≤ reachBytes) = true) :
    ∃ y m, DataW.trod enc Tryd.prog W base sp held m 22 ((cs.drop 0).take (Tryd.prog.cellsOf 22)) = some y ∧ (DataW.weights Tryd.prog 22 y.1).all (· ≤ reachBytes) = true := by
  have hs := struct24
  cases hu : Tryd.prog.underlying 24 with
  | none => rw [hu] at hs; cases hs
  | some d =>
    rw [hu] at hs
    simp only [Option.map_some, Option.some.injEq] at hs
    cases d with
    | struct fs =>
      simp only at hs
      obtain ⟨xs, m, _, rfl, hlen, hxs, hf⟩ := DataW.trod_struct hu h
      have hfl : fs.toList.length = 4 := by have := congrArg List.length hs; simpa using this
      have hf0 : ∃ f, fs[0]? = some f ∧ f.type = 22 ∧ f.offset = 0 := by
        cases hq : fs.toList with
        | nil => rw [hq] at hfl; cases hfl
        | cons f r =>
          rw [hq] at hs
          simp only [List.map_cons, List.cons.injEq, Prod.mk.injEq] at hs
          exact ⟨f, by rw [← Array.getElem?_toList, hq]; rfl, hs.1.1, hs.1.2⟩
      obtain ⟨f, hfm, ht, ho⟩ := hf0
      have h0 := hf 0 f hfm
      rw [ht, ho] at h0
      have hty : fs.toList.map (·.type) = [22, 3, 3, 4] := by
        have := congrArg (List.map Prod.fst) hs
        simpa [List.map_map, Function.comp_def] using this
      cases xs with
      | nil => simp at hxs; simp [← hxs] at hfl
      | cons y r =>
        refine ⟨y, m, h0, ?_⟩
        simp only [DataW.weights, hu, hty, List.map_cons, DataW.weightsEach, List.all_append, Bool.and_eq_true] at hw
        exact hw.1
    | _ => simp only at hs; cases hs
theorem codes_each {fuel : Nat} {cs : List Value} {x : DataW Hh × List MemPlace} (h : DataW.trod enc Tryd.prog W base sp held fuel 36 cs = some x) (hw : (DataW.weights Tryd.prog 36 x.1).all (· ≤ reachBytes) = true) :
    (cs = [.slice none 0 0] ∧ lens x.1 = 0) ∨ ∃ a len cap m, cs = [.slice (some a) len cap] ∧ lens x.1 = len ∧ len ≤ cap ∧ cap ≤ maxLen ∧ ∀ i, i < len → ∃ ci y, W.cells? base (a.add (i * Tryd.prog.cellsOf 24)) (Tryd.prog.cellsOf 24) = some ci ∧ DataW.trod enc Tryd.prog W base sp held m 24 ci = some y ∧ (DataW.weights Tryd.prog 24 y.1).all (· ≤ reachBytes) = true := by
  rcases DataW.trod_slice ysl36.under h with ⟨hv, rfl⟩ | ⟨a, len, cap, elems, rest, m, rfl, hv, rfl, _, hc, hcm, hlen, hel, _⟩
  · exact .inl ⟨hv, rfl⟩
  · refine .inr ⟨a, len, cap, m, hv, by simp [lens, hlen], hc, hcm, fun i hi => ?_⟩
    have he := hel i hi
    rw [List.getElem?_eq_getElem (by omega), Option.bind_eq_some_iff] at he
    obtain ⟨ci, h1, h2⟩ := he
    refine ⟨ci, _, h1, h2, ?_⟩
    simp only [DataW.weights, under36, List.all_cons, List.all_append, Bool.and_eq_true] at hw
    exact weightsAll_mem hw.2.1 _ (List.mem_map_of_mem (List.getElem_mem _))
theorem lay_code3 {fuel : Nat} {cs : List Value} {x : DataW Hh × List MemPlace} (h : DataW.trod enc Tryd.prog W 0 sp held fuel 24 cs = some x) {ρ : Ro} {H : AH} (hS : Sim Tryd.prog ρ H W) (hro : H.ro) (hwt : (DataW.weights Tryd.prog 24 x.1).all (· ≤ reachBytes) = true) :
    ∃ ρ' H' y c, Lays Tryd.prog W ρ H ρ' H' ∧ relL ρ' y cs ∧ y.length = 4 ∧ y.all AV.isOne = true ∧ CodeAt2 H' y c ∧ c.ins.length * 24 ≤ 140737488351232 := by
  obtain ⟨hl, m, hf⟩ := trod_fields struct24 (by simp) h
  obtain ⟨y0, m0, h0, hw0⟩ := code_first h hwt
  obtain ⟨y1, h1⟩ := hf 3 1 (by simp)
  obtain ⟨y2, h2⟩ := hf 3 2 (by simp)
  obtain ⟨y3, h3⟩ := hf 4 3 (by simp)
  obtain ⟨b, eb, _, wb⟩ := DataW.trod_int under3 h1
  obtain ⟨c, ec, _, wc⟩ := DataW.trod_int under3 h2
  obtain ⟨d, ed, _⟩ := DataW.trod_bool under4 h3
  rw [cells3] at eb ec
  rw [c4] at ed
  have eb := one_of_take eb
  have ec := one_of_take ec
  have ed := one_of_take ed
  rw [c24] at hl
  match cs, hl with
  | [p, q, r, t], _ =>
    simp only [List.getElem?_cons_succ, List.getElem?_cons_zero, Option.some.injEq] at eb ec ed
    subst eb ec ed
    rw [c22] at h0
    obtain ⟨ρ', H', s, l, hL, hr, h1, hrow, hll, hlens, hcap⟩ := lay_ins2 (v := p) (by simpa using h0) hS hro
    refine ⟨ρ', H', [s, .int .i64 b, .int .i64 c, .bool d], ⟨l, b, c, d⟩, hL, relL_cons hr (relL_cons rfl (relL_cons rfl (relL_one rfl))), rfl, by simp only [List.all_cons, List.all_nil, h1, Bool.and_true, Bool.true_and]; rfl, ⟨⟨s, rfl, hrow, inI_of_wf wb, inI_of_wf wc, hll⟩, fun s' h => by cases h; exact hcap⟩, ?_⟩
    simp only [hlens]
    exact weight_slice ysl22.under bytes29 hw0

theorem lay_codes3 {fuel : Nat} {v : Value} {x : DataW Hh × List MemPlace} (h : DataW.trod enc Tryd.prog W 0 sp held fuel 36 [v] = some x) {ρ : Ro} {H : AH} (hS : Sim Tryd.prog ρ H W) (hro : H.ro) (hwt : (DataW.weights Tryd.prog 36 x.1).all (· ≤ reachBytes) = true) :
    ∃ ρ' H' s l, Lays Tryd.prog W ρ H ρ' H' ∧ rel ρ' s v ∧ s.isOne = true ∧ CodesRow H' s l ∧ CapCodes H' s ∧ l.length = lens x.1 ∧ ∀ c ∈ l, c.ins.length * 24 ≤ 140737488351232 := by
  rcases codes_each h hwt with ⟨hv, hx0⟩ | ⟨a, len, cap, m, hv, hx0, hc, hcm, hel⟩
  · cases hv
    exact ⟨ρ, H, .slice none 0 (.kn 0), [], .refl hS hro, ⟨none, 0, rfl, rfl, Nat.le_refl _, rfl⟩, rfl, ⟨[], .nil _ _, ⟨rfl, by simp⟩, fun i h => by simp at h⟩, .nil _, hx0.symm, by simp⟩
  · cases hv
    rw [c24] at hel
    obtain ⟨ρ', H', s, l, hL, hr, hrow, hl, hg, _⟩ := lay_slice2 (k := 4) (by omega) hS hro (Good := fun H x => ∃ c : Code, CodeAt2 H x c ∧ c.ins.length * 24 ≤ 140737488351232) (fun _ _ _ ⟨c, hc⟩ hs => ⟨c, ⟨hc.1.1.mono hs, hc.1.2⟩, hc.2⟩) rfl hc fun i hi => by
      obtain ⟨ci, y, h1, h2, h3⟩ := hel i hi
      refine ⟨_, h1, fun ρ1 H1 hS1 hro1 => ?_⟩
      obtain ⟨ρ2, H2, y, c, q1, q2, q3, q4, q5⟩ := lay_code3 h2 hS1 hro1 h3
      exact ⟨ρ2, H2, y, q1, q2, q3, q4, c, q5⟩
    have hone : s.isOne = true := by
      rcases hrow.is with ⟨rfl, _⟩ | ⟨a, c, rfl, _⟩ <;> rfl
    have hex : ∃ ll : List Code, l.length = ll.length ∧ ∀ i (h : i < l.length) (h' : i < ll.length), CodeAt H' l[i] ll[i] ∧ ll[i].ins.length * 24 ≤ 140737488351232 := by
      clear hrow hL hr hl
      induction l with
      | nil => exact ⟨[], rfl, fun i h => by simp at h⟩
      | cons y l ih =>
        obtain ⟨ll, h1, h2⟩ := ih fun x hx => hg x (by simp [hx])
        obtain ⟨c, hc⟩ := hg y (by simp)
        refine ⟨c :: ll, by simp [h1], fun i h h' => ?_⟩
        cases i with
        | zero => exact ⟨hc.1.1, hc.2⟩
        | succ i => exact h2 i (by simpa using h) (by simpa using h')
    obtain ⟨ll, h1, h2⟩ := hex
    refine ⟨ρ', H', s, ll, hL, hr, hone, ⟨l, hrow, ⟨h1, by have : maxLen = 9223372036854775807 := (by decide); omega⟩, fun i a b => (h2 i a b).1⟩, ⟨l, hrow, fun x hx => (hg x hx).elim fun _ hc => hc.1.2⟩, by omega, fun c hc => ?_⟩
    obtain ⟨j, hj⟩ := List.mem_iff_getElem?.1 hc
    have hlt := (List.getElem?_eq_some_iff.1 hj).1
    rw [List.getElem?_eq_getElem hlt] at hj
    cases hj
    exact (h2 j (by omega) hlt).2
end
end Go.Proofs.YthiflgncldmkjaaDoor
set_option linter.unusedVariables false
set_option linter.unusedSimpArgs false
set_option maxRecDepth 100000
namespace Go.Proofs.YthiflgncldmkjaaDoor
open Go.Ri
attribute [local congr] bind_lazy jn_lazy

theorem great10_few (d : Nat) {H : AH} {ls : AV} {l : List Code} (hl : CodesRow H ls l) : Ret (RT (d + 2) 31 [ls] H) fun r => (∃ b : Bool, r.1 = .bool b ∧ (b = false → l.length ≤ 50)) ∧ r.2 = H := by
  by_cases p1 : ((l.length : Nat) : Int) > 50
  · rw [R31]
    unfold F31
    have hal := hl.alen
    simp -implicitDefEqProofs only [go_sem, Nat.reduceAdd, Nat.reduceMul, Nat.reduceLT, Nat.reduceLeDiff, Nat.reduceEqDiff, Nat.reduceBEq, reduceCtorEq, Int.reduceLT, Int.reduceLE, Int.reduceEq, Int.reduceGT, Int.reduceGE, Int.reduceToNat, Int.reduceNeg, hal, decide_eq_true p1]
    exact .mk ⟨⟨true, rfl, fun h => Bool.noConfusion h⟩, rfl⟩
  · refine (great10_spec d hl).mono ?_
    rintro ⟨v, H1⟩ ⟨⟨b, hb⟩, hH⟩
    exact ⟨⟨b, hb, fun _ => by omega⟩, hH⟩
structure IC4 (H : AH) (ls : AV) (m : AV) (l : List Code) (i : Nat) (t : St) : Prop where
  t0 : t.1 0 = ls
  t1 : t.1 1 = m
  t6 : t.1 6 = .int .i64 (i : Nat)
  ext : Ext H.next H t.2
  own : OwnCodes H.next t.2 (t.1 5) (l.take i)
theorem copies_loop (call : CallF) {H : AH} (hw : H.wf) {ls m : AV} {l : List Code} (hl : CodesRow H ls l) (h50 : l.length ≤ 50) (hwt : ∀ c ∈ l, c.ins.length * 24 ≤ 140737488351232) {T : Tm} {H1 : AH} (h0 : IC4 H ls m l 0 (T, H1)) :
    Ret (Ri.iter big (F13_L4 call (Ri.iter big)) (T, H1)) fun r => r.1 = .exit 0 ∧ IC4 H ls m l l.length r.2 := by
  have hal := hl.alen
  refine Ret.upTo (n := l.length) (IC4 H ls m l) (by unfold big; omega) h0 ?_ ?_
  · rintro i ⟨T1, H2⟩ hi ⟨t0, t1, t6, hx, hown⟩
    simp only at t0 t1 t6 hx hown
    have hcmp : decide (((i : Nat) : Int) < ((l.length : Nat) : Int)) = true := decide_eq_true (by omega)
    obtain ⟨b, o, s, f1, f2, _, fi, f5, _, _, _, fc, fp⟩ := codes_ins (hl.mono (hx.sub hw)) hi
    obtain ⟨pp, hpp⟩ : ∃ p, p = (b, o) := ⟨_, rfl⟩
    rw [← hpp] at f1 f5
    have hx2 : Ext H.next H (H2.new [s, .int .i64 l[i].cells, .int .i64 l[i].params, .bool l[i].answers] 24) := hx.new _ _
    have hrow : Row (H2.new [s, .int .i64 l[i].cells, .int .i64 l[i].params, .bool l[i].answers] 24) s 3 (l[i].ins.map insC) := fi.1.mono (((Ext.refl hx.wf).new _ _).sub hx.wf)
    obtain ⟨hsl, hss⟩ := hrow.src
    rw [List.length_map] at hsl hss
    have hlen := hwt l[i] (List.getElem_mem _)
    obtain ⟨⟨v3, H3⟩, hap, ho3, hx3, _⟩ := app_own (x := s) (ds := insF l[i].ins) ysl22 ysl22.seq (Own.nil _ _ _ _) (Ext.refl hx2.wf) hsl hss (insF_len _) (by rw [insF_len]; simp; omega)
    simp only [List.nil_append] at ho3 hx3
    have hb3 : H3.m H2.next = some ⟨[s, .int .i64 l[i].cells, .int .i64 l[i].params, .bool l[i].answers], 24, true⟩ := by
      rw [hx3.low _ (by simp)]
      simp
    obtain ⟨pv, nv, cv, hv⟩ := ho3.shape
    subst hv
    have hlt : H2.next < H3.next := hx3.next
    have hxa : Ext H.next H H3 := hx2.trans hx3 (by simp only [new_next]; have := hx.next; omega)
    have hx5 : Ext H.next H (H3.put H2.next ⟨[.slice pv nv cv, .int .i64 l[i].cells, .int .i64 l[i].params, .bool l[i].answers], 24, true⟩) := hxa.put hx.next hlt _
    have hAown : Own (H2.next + 1) 3 29 (H3.put H2.next ⟨[.slice pv nv cv, .int .i64 l[i].cells, .int .i64 l[i].params, .bool l[i].answers], 24, true⟩) (.slice pv nv cv) (insF l[i].ins) := ho3.mono fun b hb c e => by
      obtain ⟨_, _, h⟩ := ho3.at (b := b) ⟨hb, c, e⟩
      simp only [new_next] at h
      simp only [put_m]
      rw [if_neg (by omega)]
    have hownB : OwnCodes H.next (H3.put H2.next ⟨[.slice pv nv cv, .int .i64 l[i].cells, .int .i64 l[i].params, .bool l[i].answers], 24, true⟩) (T1 5) (l.take i) := hown.keep hx.wf fun b hb => by
      simp only [put_m]
      rw [if_neg (by omega), hx3.low b (by simp only [new_next]; omega)]
      simp only [new_m]
      rw [if_neg (by omega)]
    have hent : OwnCode H.next (H3.put H2.next ⟨[.slice pv nv cv, .int .i64 l[i].cells, .int .i64 l[i].params, .bool l[i].answers], 24, true⟩) [.slice pv nv cv, .int .i64 l[i].cells, .int .i64 l[i].params, .bool l[i].answers] l[i] :=
      ⟨.slice pv nv cv, rfl, hAown.low (by have := hx.next; omega), fi.2, fc, fp⟩
    unfold F13_L4
    simp -implicitDefEqProofs only [go_sem, Nat.reduceAdd, Nat.reduceMul, Nat.reduceLT, Nat.reduceLeDiff, Nat.reduceEqDiff, Nat.reduceBEq, reduceCtorEq, Int.reduceLT, Int.reduceLE, Int.reduceEq, Int.reduceGT, Int.reduceGE, Int.reduceToNat, Int.reduceNeg, t0, t6, hal, hcmp, f1, f5, new_put, hap, hb3]
    refine ret_bind ((OwnCodes.more hownB hx5 hent (by simp; omega)).mono ?_)
    rintro ⟨v6, H6⟩ ⟨k1, k2⟩
    simp only at k1 k2
    rw [← List.take_succ_eq_append_getElem hi] at k1
    simp -implicitDefEqProofs only [go_sem, Nat.reduceAdd, Nat.reduceMul, Nat.reduceLT, Nat.reduceLeDiff, Nat.reduceEqDiff, Nat.reduceBEq, reduceCtorEq, Int.reduceLT, Int.reduceLE, Int.reduceEq, Int.reduceGT, Int.reduceGE, Int.reduceToNat, Int.reduceNeg, t6, wrapS (i := i) (by omega)]
    refine .mk (.inl ⟨rfl, ?_, ?_, ?_, k2, ?_⟩)
    · simp -implicitDefEqProofs only [go_sem, Nat.reduceEqDiff, Nat.reduceBEq, reduceCtorEq, t0]
    · simp -implicitDefEqProofs only [go_sem, Nat.reduceEqDiff, Nat.reduceBEq, reduceCtorEq, t1]
    · simp -implicitDefEqProofs only [go_sem, Nat.reduceEqDiff, Nat.reduceBEq, reduceCtorEq]
    · simp -implicitDefEqProofs only [go_sem, Nat.reduceEqDiff, Nat.reduceBEq, reduceCtorEq]
      exact k1
  · rintro ⟨T1, H2⟩ ⟨t0, t1, t6, hx, hown⟩
    simp only at t0 t1 t6 hx hown
    have hcmp : decide (((l.length : Nat) : Int) < ((l.length : Nat) : Int)) = false := decide_eq_false (by omega)
    unfold F13_L4
    simp -implicitDefEqProofs only [go_sem, Nat.reduceAdd, Nat.reduceMul, Nat.reduceLT, Nat.reduceLeDiff, Nat.reduceEqDiff, Nat.reduceBEq, reduceCtorEq, Int.reduceLT, Int.reduceLE, Int.reduceEq, Int.reduceGT, Int.reduceGE, Int.reduceToNat, Int.reduceNeg, t0, t6, hal, hcmp]
    refine .mk ⟨by simp, rfl, ?_, ?_, ?_, hx, ?_⟩
    · simp -implicitDefEqProofs only [go_sem, Nat.reduceEqDiff, Nat.reduceBEq, reduceCtorEq, t0]
    · simp -implicitDefEqProofs only [go_sem, Nat.reduceEqDiff, Nat.reduceBEq, reduceCtorEq, t1]
    · simp -implicitDefEqProofs only [go_sem, Nat.reduceEqDiff, Nat.reduceBEq, reduceCtorEq, t6]
    · simp -implicitDefEqProofs only [go_sem, Nat.reduceEqDiff, Nat.reduceBEq, reduceCtorEq]
      exact hown
theorem Once_spec (d : Nat) {H : AH} (hw : H.wf) (hT : Tabs H) {ls : AV} {l : List Code} (hl : CodesRow H ls l) {k : Nat} (hk : k < l.length) :
    Ret (RT (d + 6) 49 [ls, .int .i64 (k : Nat)] H) fun r => Ext H.next H r.2 ∧ ∃ v x y z e L, r.1 = .tuple [.agg [v, .int .i64 x, .int .i64 y, .bool z], .bool e] ∧ Own H.next 3 29 r.2 v (insF L) ∧ L.length ≤ 65536 := by
  rw [R49]
  unfold F49
  have hfew := hl.few
  have x1 : Ext H.next H (H.new [.slice none 0 (.kn 0), .int .i64 0, .int .i64 0, .bool false] 24) := (Ext.refl hw).new _ _
  obtain ⟨⟨v, H2⟩, h28, x2, hr⟩ := Heights_spec (d + 1) x1.wf (hT.ext x1 hT.two) (hl.mono (x1.sub hw)) (k := ((k : Nat) : Int)) (by unfold InI; omega)
  simp only at x2 hr
  have x12 : Ext H.next H H2 := x1.trans x2 (Nat.le_succ _)
  have hlt : H.next < H2.next := x2.next
  have hb2 : H2.m H.next = some ⟨[.slice none 0 (.kn 0), .int .i64 0, .int .i64 0, .bool false], 24, true⟩ := by rw [x2.low _ (Nat.lt_succ_self _)]; simp
  rcases hr with ⟨hs, h, rfl, _, c, _, hc, ho, hg⟩ | ⟨rfl, _⟩
  · rw [Int.toNat_natCast, List.getElem?_eq_getElem hk] at hc
    obtain rfl : l[k] = c := Option.some.inj hc
    have hsnd : Snd l l[k] := ⟨ho, h, hg⟩
    have hok := hl.inok hk
    have P := hsnd.1.plain hok
    have hL := P.few
    obtain ⟨b, o, s, f1, f2, _, fi, f5, _⟩ := codes_ins (hl.mono (x12.sub hw)) hk
    obtain ⟨pp, hpp⟩ : ∃ p, p = (b, o) := ⟨_, rfl⟩
    rw [← hpp] at f1 f5
    have x3 : Ext H2.next H2 (H2.new [s, .int .i64 l[k].cells, .int .i64 l[k].params, .bool l[k].answers] 24) := (Ext.refl x2.wf).new _ _
    obtain ⟨hsl, hss⟩ := (fi.1.mono (x3.sub x2.wf)).src
    rw [List.length_map] at hsl hss
    obtain ⟨⟨v3, H3⟩, hap, ho3, hx3, _⟩ := app_own (x := s) (ds := insF l[k].ins) ysl22 ysl22.seq (Own.nil _ _ _ _) (Ext.refl x3.wf) hsl hss (insF_len _) (by rw [insF_len]; simp; omega)
    simp only [List.nil_append] at ho3 hx3
    obtain ⟨⟨w, H4⟩, h73, hx4, hr⟩ := once_spec (d) hx3.wf hx3.next hsnd hok ho3
    simp only at hx4 hr
    have hx24 : Ext (H2.next + 1) (H2.new [s, .int .i64 l[k].cells, .int .i64 l[k].params, .bool l[k].answers] 24) H4 := hx3.trans hx4 (Nat.le_refl _)
    have hb4 : H4.m H2.next = some ⟨[s, .int .i64 l[k].cells, .int .i64 l[k].params, .bool l[k].answers], 24, true⟩ := by
      rw [hx24.low _ (Nat.lt_succ_self _)]
      simp
    have hbo : H4.m H.next = some ⟨[.slice none 0 (.kn 0), .int .i64 0, .int .i64 0, .bool false], 24, true⟩ := by
      rw [hx24.low _ (by omega)]
      simp only [new_m]
      rw [if_neg (by omega)]
      exact hb2
    have n1 : ¬ H.next = H2.next := by omega
    have n2 : ¬ H2.next = H.next := by omega
    have hlt4 : H2.next < H4.next := hx24.next
    have hxa : Ext H.next H H4 := x12.trans (x3.trans hx24 (Nat.le_succ _)) x12.next
    have hxF := fun B1 B2 => (hxa.put (b := H2.next) x12.next hlt4 B1).put (b := H.next) (Nat.le_refl _) (by simp only [put_next]; omega) B2
    have key : ∀ (pv : Option (Nat × Nat)) (nv : Nat) (cv : Cap) (e : Bool) (L' : List Ins), w = .tuple [.slice pv nv cv, .bool e] → Own (H2.next + 1) 3 29 H4 (.slice pv nv cv) (insF L') → ∀ B1 B2, Own H.next 3 29 ((H4.put H2.next B1).put H.next B2) (.slice pv nv cv) (insF L') := fun pv nv cv e L' _ hown B1 B2 => (hown.mono fun b hb c e => by
      obtain ⟨_, _, hbb⟩ := hown.at (b := b) ⟨hb, c, e⟩
      simp only [put_m]
      rw [if_neg (by omega), if_neg (by omega)]).low (by omega)
    have fin : ∀ (v : AV) (e : Bool) (L' : List Ins), w = .tuple [v, .bool e] → Own (H2.next + 1) 3 29 H4 v (insF L') → ∃ pv nv cv, v = .slice pv nv cv := fun v e L' _ hown => hown.shape
    have hw' : ∃ pv nv cv e L', w = .tuple [.slice pv nv cv, .bool e] ∧ Own (H2.next + 1) 3 29 H4 (.slice pv nv cv) (insF L') ∧ L'.length ≤ 65536 := by
      rcases hr with ⟨L', v', ho, rfl, hown, _⟩ | ⟨_, rfl, hown⟩
      · obtain ⟨pv, nv, cv, rfl⟩ := hown.shape
        exact ⟨pv, nv, cv, true, L', rfl, hown, by have := (once_snd hsnd ho).2.2; omega⟩
      · obtain ⟨pv, nv, cv, e⟩ := hown.shape
        rw [e] at hown
        exact ⟨pv, nv, cv, false, _, by rw [e], hown, hL⟩
    obtain ⟨pv, nv, cv, e, L', rfl, hown, hL'⟩ := hw'
    simp -implicitDefEqProofs only [go_sem, Nat.reduceAdd, Nat.reduceMul, Nat.reduceLT, Nat.reduceLeDiff, Nat.reduceEqDiff, Nat.reduceBEq, reduceCtorEq, Int.reduceLT, Int.reduceLE, Int.reduceEq, Int.reduceGT, Int.reduceGE, Int.reduceToNat, Int.reduceNeg, h28, f1, f5, new_put, hap, h73, hb4, hbo, n1, n2]
    exact .mk ⟨hxF _ _, _, _, _, _, _, L', rfl, key pv nv cv e L' rfl hown _ _, hL'⟩
  · simp -implicitDefEqProofs only [go_sem, Nat.reduceAdd, Nat.reduceMul, Nat.reduceLT, Nat.reduceLeDiff, Nat.reduceEqDiff, Nat.reduceBEq, reduceCtorEq, Int.reduceLT, Int.reduceLE, Int.reduceEq, Int.reduceGT, Int.reduceGE, Int.reduceToNat, Int.reduceNeg, h28, hb2]
    have hxF := fun B => x12.put (b := H.next) (Nat.le_refl _) hlt B
    exact .mk ⟨hxF _, _, _, _, _, _, [], rfl, Own.nil _ _ _ _, by simp⟩
end Go.Proofs.YthiflgncldmkjaaDoor
