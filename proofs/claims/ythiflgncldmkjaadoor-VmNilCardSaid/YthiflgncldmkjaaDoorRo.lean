/- A region that draws its order: every order does what the text's order does. -/
import Derived.Test.YthiflgncldmkjaaDoorRn
set_option linter.unusedVariables false
set_option linter.unusedSimpArgs false
namespace Go.Ri

/-! ### What must come first -/
theorem ancFold (acc : List Nat) (j : Nat) : ∀ (l : List Edge) (s : Nat), (l.foldl (fun s e => if Region.binds .any e = true then s ||| 2 ^ e.on ||| acc.getD e.on 0 else s) s).testBit j = true →
    s.testBit j = true ∨ ∃ e ∈ l, Region.binds .any e = true ∧ (j = e.on ∨ (acc.getD e.on 0).testBit j = true)
  | [], s, h => .inl h
  | e :: l, s, h => by
    rw [List.foldl_cons] at h
    rcases ancFold acc j l _ h with h | ⟨e', he', hb, hj⟩
    · split at h
      · rename_i hb
        simp only [Nat.testBit_or, Nat.testBit_two_pow, Bool.or_eq_true, decide_eq_true_eq] at h
        rcases h with (h | h) | h
        · exact .inl h
        · exact .inr ⟨e, by simp, hb, .inl h.symm⟩
        · exact .inr ⟨e, by simp, hb, .inr h⟩
      · exact .inl h
    · exact .inr ⟨e', by simp [he'], hb, hj⟩
theorem ancB_keep : ∀ (l : List Oper) (acc : List Nat) (j : Nat), j < acc.length → (ancB l acc).getD j 0 = acc.getD j 0
  | [], acc, j, h => rfl
  | o :: l, acc, j, h => by
    rw [ancB, ancB_keep l _ j (by simp; omega)]
    simp [List.getD_eq_getElem?_getD, List.getElem?_append_left h]
theorem ancB_at : ∀ (l : List Oper) (acc : List Nat) (k : Nat) (o : Oper), l[k]? = some o → ∃ acc' : List Nat, acc'.length = acc.length + k ∧ (∀ j, j < acc'.length → acc'.getD j 0 = (ancB l acc).getD j 0) ∧
    (ancB l acc).getD (acc.length + k) 0 = ancStep acc' o
  | [], acc, k, o, h => by simp at h
  | q :: l, acc, 0, o, h => by
    simp at h
    subst h
    refine ⟨acc, rfl, fun j hj => (ancB_keep _ _ j hj).symm, ?_⟩
    rw [ancB, Nat.add_zero, ancB_keep l _ _ (by simp)]
    simp [List.getD_eq_getElem?_getD]
  | q :: l, acc, k + 1, o, h => by
    obtain ⟨acc', h1, h2, h3⟩ := ancB_at l (acc ++ [ancStep acc q]) k o (by simpa using h)
    refine ⟨acc', by simp at h1; omega, fun j hj => h2 j hj, ?_⟩
    rw [ancB, ← h3]
    simp only [List.length_append, List.length_cons, List.length_nil]
    congr 1
    omega

section
variable {ops : Array Oper}
def ancs (ops : Array Oper) : List Nat := ancB ops.toList []
theorem anc_spec {i : Nat} {o : Oper} (hi : ops[i]? = some o) {j : Nat} (h : ((ancs ops).getD i 0).testBit j = true) :
    ∃ e ∈ o.after, Region.binds .any e = true ∧ (j = e.on ∨ (e.on < i ∧ ((ancs ops).getD e.on 0).testBit j = true)) := by
  obtain ⟨acc', h1, h2, h3⟩ := ancB_at ops.toList [] i o (by simpa using hi)
  simp only [List.length_nil, Nat.zero_add] at h1 h3
  unfold ancs at h
  rw [h3] at h
  rcases ancFold acc' j _ _ h with h | ⟨e, he, hb, hj⟩
  · simp at h
  · refine ⟨e, by simpa using he, hb, ?_⟩
    rcases hj with hj | hj
    · exact .inl hj
    · rcases Nat.lt_or_ge e.on i with hlt | hge
      · exact .inr ⟨hlt, by unfold ancs; rw [← h2 e.on (by omega)]; exact hj⟩
      · rw [List.getD_eq_getElem?_getD, List.getElem?_eq_none (by omega)] at hj
        simp at hj

theorem opsFine_at : ∀ (l : List Oper) (i k : Nat) (o : Oper), opsFine i l = true → l[k]? = some o → opFine (i + k) o = true
  | [], i, k, o, h, hk => by simp at hk
  | q :: l, i, 0, o, h, hk => by
    simp at hk
    subst hk
    simp only [opsFine, Bool.and_eq_true] at h
    exact h.1
  | q :: l, i, k + 1, o, h, hk => by
    simp only [opsFine, Bool.and_eq_true] at h
    have := opsFine_at l (i + 1) k o h.2 (by simpa using hk)
    rw [show i + (k + 1) = i + 1 + k by omega]
    exact this
theorem pairsOk_at {anc : List Nat} {j : Nat} {y : Oper} : ∀ (l : List Oper) (i k : Nat) (x : Oper), pairsOk ops anc j y i l = true → l[k]? = some x → i + k < j → pairOk ops anc (i + k) j x y = true
  | [], i, k, x, h, hk, hj => by simp at hk
  | q :: l, i, 0, x, h, hk, hj => by
    simp at hk
    subst hk
    simp only [pairsOk, Bool.and_eq_true] at h
    have := h.1
    rw [if_pos (by omega)] at this
    exact this
  | q :: l, i, k + 1, x, h, hk, hj => by
    simp only [pairsOk, Bool.and_eq_true] at h
    have := pairsOk_at l (i + 1) k x h.2 (by simpa using hk) (by omega)
    rw [show i + (k + 1) = i + 1 + k by omega]
    exact this
theorem allPairs_at {anc : List Nat} {whole : List Oper} : ∀ (l : List Oper) (j k : Nat) (y : Oper), allPairs ops anc whole j l = true → l[k]? = some y → pairsOk ops anc (j + k) y 0 whole = true
  | [], i, k, x, h, hk => by simp at hk
  | q :: l, i, 0, x, h, hk => by
    simp at hk
    subst hk
    simp only [allPairs, Bool.and_eq_true] at h
    exact h.1
  | q :: l, i, k + 1, x, h, hk => by
    simp only [allPairs, Bool.and_eq_true] at h
    have := allPairs_at l (i + 1) k x h.2 (by simpa using hk)
    rw [show i + (k + 1) = i + 1 + k by omega]
    exact this

structure Fine (P : Program) (ops : Array Oper) : Prop where
  fine : ∀ i o, ops[i]? = some o → opFine i o = true
  pair : ∀ i j x y, i < j → ops[i]? = some x → ops[j]? = some y → pairOk ops (ancs ops) i j x y = true
  mixed : P.follows .mixedOrders = true
theorem fine_of {P : Program} (h : okD P ops (ancs ops) = true) : Fine P ops := by
  simp only [okD, Bool.and_eq_true] at h
  obtain ⟨⟨⟨h1, h2⟩, h3⟩, h4⟩ := h
  refine ⟨fun i o hi => ?_, fun i j x y hij hi hj => ?_, h4⟩
  · simpa using opsFine_at ops.toList 0 i o h1 (by simpa using hi)
  · have := allPairs_at ops.toList 0 j y h3 (by simpa using hj)
    rw [Nat.zero_add] at this
    simpa using pairsOk_at ops.toList 0 i x this (by simpa using hi) (by omega)
theorem Fine.on {P : Program} (h : Fine P ops) {i : Nat} {o : Oper} (hi : ops[i]? = some o) {e : Edge} (he : e ∈ o.after) (hb : Region.binds .any e = true) : e.on < i := by
  have := h.fine i o hi
  simp only [opFine, Bool.and_eq_true, List.all_eq_true] at this
  have := this.1 e (by simpa using he)
  simpa [hb] using this

/-! ### Who wrote a slot last -/
def dstAt (ops : Array Oper) (j : Nat) : Option Nat := (ops[j]?).bind (·.dst)
def wrote (ops : Array Oper) (S : Nat → Bool) (d : Nat) : Nat → Option Nat
  | 0 => none
  | n + 1 => if S n = true ∧ dstAt ops n = some d then some n else wrote ops S d n
def tmpAt (ops : Array Oper) (v : Nat → AV) (T : Tm) (n : Nat) (S : Nat → Bool) : Tm := fun d => match wrote ops S d n with
  | some j => v j
  | none => T d
theorem wrote_congr {S S' : Nat → Bool} {d : Nat} : ∀ {n : Nat}, (∀ j, j < n → dstAt ops j = some d → S j = S' j) → wrote ops S d n = wrote ops S' d n
  | 0, _ => rfl
  | n + 1, h => by
    simp only [wrote]
    rw [wrote_congr fun j hj => h j (by omega)]
    by_cases hd : dstAt ops n = some d
    · rw [h n (by omega) hd]
    · simp [hd]
theorem tmpAt_congr {v : Nat → AV} {T : Tm} {S S' : Nat → Bool} {d n : Nat} (h : ∀ j, j < n → dstAt ops j = some d → S j = S' j) : tmpAt ops v T n S d = tmpAt ops v T n S' d := by
  simp only [tmpAt, wrote_congr h]
theorem wrote_last {S : Nat → Bool} {d i : Nat} : ∀ {n : Nat}, i < n → S i = true → dstAt ops i = some d → (∀ j, i < j → j < n → dstAt ops j = some d → S j = false) → wrote ops S d n = some i
  | 0, h, _, _, _ => by omega
  | n + 1, h, hS, hd, hn => by
    simp only [wrote]
    by_cases e : i = n
    · subst e
      rw [if_pos ⟨hS, hd⟩]
    · rw [if_neg (fun ⟨h1, h2⟩ => by rw [hn n (by omega) (by omega) h2] at h1; cases h1)]
      exact wrote_last (by omega) hS hd fun j h1 h2 => hn j h1 (by omega)
theorem tmpAt_put {nt : Nat} {v : Nat → AV} {T : Tm} {n i : Nat} {S S' : Nat → Bool} {T' T'' : Tm} {x : Oper} (hx : ops[i]? = some x) (hin : i < n) (hp : putA nt T' x.dst (v i) = some T'')
    (hS : ∀ j, S' j = if j = i then true else S j) (hl : ∀ j d, x.dst = some d → i < j → j < n → dstAt ops j = some d → S j = false) :
    putA nt (tmpAt ops v T n S) x.dst (v i) = some (tmpAt ops v T n S') := by
  have hne : ∀ d, dstAt ops i ≠ some d → tmpAt ops v T n S d = tmpAt ops v T n S' d := fun d hd => tmpAt_congr fun j hj hjd => by
    rw [hS, if_neg]
    exact fun e => hd (by rw [← e]; exact hjd)
  have hdx : dstAt ops i = x.dst := by simp [dstAt, hx]
  cases hd : x.dst with
  | none =>
    simp only [putA]
    congr 1
    funext d
    exact hne d (by rw [hdx, hd]; simp)
  | some e =>
    rw [hd] at hp
    simp only [putA] at hp ⊢
    split at hp
    · rename_i hlt
      rw [if_pos hlt]
      congr 1
      funext d
      by_cases he : d = e
      · subst he
        simp only [upd, if_true, tmpAt]
        rw [wrote_last hin (by rw [hS, if_pos rfl]) (by rw [hdx, hd]) fun j h1 h2 h3 => by rw [hS, if_neg (by omega)]; exact hl j d hd h1 h2 h3]
      · simp only [upd, if_neg he]
        exact hne d (by rw [hdx, hd]; simpa using fun h => he h.symm)
    · cases hp
end

/-! ### Blocks that stand aside -/
theorem addF_next : ∀ (l : List FL) (G : AH), (addF l G).next = G.next
  | [], G => rfl
  | f :: l, G => by
    have := addF_next l (G.put f.id f.B)
    exact this
theorem addF_some : ∀ (l : List FL) (G : AH) (b : Nat) (B : Blk), (addF l G).m b = some B → (∃ f ∈ l, f.id = b ∧ f.B = B) ∨ G.m b = some B
  | [], G, b, B, h => .inr h
  | f :: l, G, b, B, h => by
    rcases addF_some l (G.put f.id f.B) b B h with ⟨g, hg, h1, h2⟩ | h
    · exact .inl ⟨g, by simp [hg], h1, h2⟩
    · by_cases e : b = f.id
      · subst e
        simp only [AH.put, setM_same] at h
        cases h
        exact .inl ⟨f, by simp, rfl, rfl⟩
      · simp only [AH.put, setM_other _ _ e] at h
        exact .inr h
theorem addF_none {l : List FL} {G : AH} {b : Nat} (h : G.m b = none) (hl : ∀ f ∈ l, f.id ≠ b) : (addF l G).m b = none := by
  cases hm : (addF l G).m b with
  | none => rfl
  | some B =>
    rcases addF_some l G b B hm with ⟨f, hf, h1, _⟩ | h'
    · exact absurd h1 (hl f hf)
    · rw [h] at h'; cases h'

theorem frame {P : Program} {ρ ρ' : Ro} {X Y H' : AH} {w w' : World} {R : Nat → Prop} (hX : Sim P ρ X w) (hY : ∀ b B, Y.m b = some B → X.m b = some B) (hn : Y.next = X.next)
    (hR : ∀ b, R b → (∃ B, X.m b = some B) ∧ Y.m b = none) (ho : Out P ρ Y w ρ' H' w') :
    ∃ X' : AH, X'.next = H'.next ∧ (∀ b, R b → X'.m b = X.m b ∧ H'.m b = none) ∧ (∀ b B, H'.m b = some B → X'.m b = some B) ∧ Out P ρ X w ρ' X' w' := by
  classical
  have hYs : Sim P ρ Y w := hX.sub hn hY
  have hle : ρ.le ρ' := ho.le hYs
  have at_ : ∀ b, R b → ∃ B r, X.m b = some B ∧ ρ b = some r ∧ ρ' b = some r ∧ r.blk < w.heap.size := fun b hb => by
    obtain ⟨⟨B, hB⟩, _⟩ := hR b hb
    obtain ⟨r, cs, fr, vs, g1, g2, g3⟩ := hX.blk b B hB
    exact ⟨B, r, hB, g1, hle _ _ g1, (Array.getElem?_eq_some_iff.1 g2).1⟩
  have clash : ∀ b, R b → ∀ b' B' r r', H'.m b' = some B' → ρ b = some r → ρ' b' = some r' → r.blk ≠ r'.blk := by
    intro b hb b' B' r r' hB' hr hr' he
    obtain ⟨B, r1, hB, hr1, hr1', hlt⟩ := at_ b hb
    rw [hr] at hr1
    cases hr1
    obtain ⟨b0, B0, r0, h0, h1, h2, h3⟩ := ho.own b' B' r' hB' hr' (by rw [← he]; exact hlt)
    have := hX.inj b0 b B0 B r0 r (hY _ _ h0) hB h1 hr (by rw [h2, he])
    subst this
    rw [(hR b0 hb).2] at h0
    cases h0
  have gone : ∀ b, R b → H'.m b = none := fun b hb => by
    cases hm : H'.m b with
    | none => rfl
    | some B' =>
      obtain ⟨B, r, hB, hr, hr', hlt⟩ := at_ b hb
      exact absurd rfl (clash b hb b B' r r hm hr hr')
  have kept : ∀ b r, R b → ρ b = some r → w'.heap[r.blk]? = w.heap[r.blk]? := fun b r hb hr => by
    obtain ⟨B, r1, hB, hr1, hr1', hlt⟩ := at_ b hb
    rw [hr] at hr1
    cases hr1
    refine ho.keep r.blk hlt fun b0 B0 r0 h0 _ h1 h2 => ?_
    have := hX.inj b0 b B0 B r0 r (hY _ _ h0) hB h1 hr h2
    subst this
    rw [(hR b0 hb).2] at h0
    cases h0
  have mdef : ∀ b, (fun b => if R b then X.m b else H'.m b) b = if R b then X.m b else H'.m b := fun _ => rfl
  refine ⟨⟨fun b => if R b then X.m b else H'.m b, H'.next⟩, rfl, fun b hb => ⟨if_pos hb, gone b hb⟩, fun b B hB => ?_, ?_⟩
  · by_cases hb : R b
    · rw [gone b hb] at hB; cases hB
    · simp only [if_neg hb]; exact hB
  · refine ⟨fun b hb => ho.same b (by omega), by have := ho.next; simp only; omega, ⟨fun b B hB => ?_, ?_, ho.sim.fresh, ho.sim.glob⟩, ho.os, ho.tape, ho.output, ho.size, fun i hi hf => ?_, fun b B r hB hr hlt => ?_⟩
    · by_cases hb : R b
      · simp only [if_pos hb] at hB
        obtain ⟨r, cs, fr, vs, g1, g2, g3, g4, g5, g6⟩ := hX.blk b B hB
        exact ⟨r, cs, fr, vs, hle _ _ g1, by rw [kept b r hb g1]; exact g2, g3, g4, relL_mono hle _ g5, g6⟩
      · simp only [if_neg hb] at hB
        exact ho.sim.blk b B hB
    · intro b b' B B' r r' hB hB' hr hr' he
      by_cases hb : R b <;> by_cases hb' : R b'
      · simp only [if_pos hb] at hB
        simp only [if_pos hb'] at hB'
        obtain ⟨_, s, _, k1, k1', _⟩ := at_ b hb
        obtain ⟨_, s', _, k2, k2', _⟩ := at_ b' hb'
        rw [hr] at k1'
        cases k1'
        rw [hr'] at k2'
        cases k2'
        exact hX.inj b b' B B' r r' hB hB' k1 k2 he
      · simp only [if_neg hb'] at hB'
        obtain ⟨_, s, _, k1, k1', _⟩ := at_ b hb
        rw [hr] at k1'
        cases k1'
        exact absurd he (clash b hb b' B' r r' hB' k1 hr')
      · simp only [if_neg hb] at hB
        obtain ⟨_, s, _, k1, k1', _⟩ := at_ b' hb'
        rw [hr'] at k1'
        cases k1'
        exact absurd he.symm (clash b' hb' b B r' r hB k1 hr)
      · simp only [if_neg hb] at hB
        simp only [if_neg hb'] at hB'
        exact ho.sim.inj b b' B B' r r' hB hB' hr hr' he
    · exact ho.keep i hi fun b B r hB => hf b B r (hY _ _ hB)
    · by_cases hb : R b
      · simp only [if_pos hb] at hB
        obtain ⟨_, s, _, k1, k1', _⟩ := at_ b hb
        rw [hr] at k1'
        cases k1'
        exact ⟨b, B, r, hB, k1, rfl, id⟩
      · simp only [if_neg hb] at hB
        obtain ⟨b0, B0, r0, h0, h1, h2, h3⟩ := ho.own b B r hB hr hlt
        exact ⟨b0, B0, r0, hY _ _ h0, h1, h2, h3⟩

theorem Out.sub {P : Program} {ρ ρ' : Ro} {H X Y : AH} {w w' : World} (h : Out P ρ H w ρ' X w') (hn : Y.next = X.next) (hs : ∀ b B, Y.m b = some B → X.m b = some B) : Out P ρ H w ρ' Y w' :=
  ⟨h.same, by have := h.next; omega, h.sim.sub hn hs, h.os, h.tape, h.output, h.size, h.keep, fun b B r hB => h.own b B r (hs _ _ hB)⟩

theorem Out.step {P : Program} {ρ ρ₁ ρ₂ : Ro} {H H₁ H₂ : AH} {w w₁ w₂ : World} (h : Out P ρ H w ρ₁ H₁ w₁) (hs : ∀ b, b < H.next → ρ₂ b = ρ₁ b) (hn : H₁.next ≤ H₂.next) (hsim : Sim P ρ₂ H₂ w₂)
    (h1 : w₂.os = w₁.os) (h2 : w₂.tape = w₁.tape) (h3 : w₂.output = w₁.output) (h4 : w₁.heap.size ≤ w₂.heap.size) (h5 : ∀ i, i < w₁.heap.size → w₂.heap[i]? = w₁.heap[i]?)
    (h6 : ∀ b B r, H₂.m b = some B → ρ₂ b = some r → r.blk < w₁.heap.size → H₁.m b = some B ∧ ρ₁ b = some r) : Out P ρ H w ρ₂ H₂ w₂ := by
  refine ⟨fun b hb => (hs b hb).trans (h.same b hb), Nat.le_trans h.next hn, hsim, h1.trans h.os, h2.trans h.tape, h3.trans h.output, Nat.le_trans h.size h4, fun i hi hf => ?_, fun b B r hb hρ hlt => ?_⟩
  · rw [h5 i (Nat.lt_of_lt_of_le hi h.size), h.keep i hi hf]
  · obtain ⟨k1, k2⟩ := h6 b B r hb hρ (Nat.lt_of_lt_of_le hlt h.size)
    exact h.own b B r k1 k2 hlt
end Go.Ri
