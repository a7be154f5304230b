/- Operators, conversions, slicing, building: abstract and model agree. -/
import Derived.Test.YthiflgncldmkjaaDoorRc
import Derived.Laws.StructEq
set_option linter.unusedVariables false
set_option linter.unusedSimpArgs false
namespace Go.Ri
section
variable {P : Program} {ρ : Ro} {H : AH} {w : World}

theorem aBinI_sound {op : BinOp} {t : TypeId} {k : IntKind} {a b : Int} {c : AV} (hs : op ≠ .shl) (hr : op ≠ .shr) (h : aBinI op k a b = some c) :
    ∃ c', (binOp op t (.int k a) (.int k b)).run P w = .ok c' w ∧ rel ρ c c' := by
  cases op <;> simp only [aBinI] at h <;> first
    | (cases h; exact ⟨_, by simp [binOp, Op.intArith, Op.intCmp, intBits_and, intBits_or, intBits_xor, intBits_andNot]; rfl, by simp [rel]⟩)
    | (split at h
       · cases h
       · rename_i hb
         cases h
         exact ⟨_, by simp [binOp, Op.intDiv, hb]; rfl, by simp [rel]⟩)
    | (exact absurd rfl hs)
    | (exact absurd rfl hr)

theorem aShift_sound {op : BinOp} {t : TypeId} {k yk : IntKind} {x y : Int} {c : AV} (h : aShift op k x y = some c) :
    ∃ c', (binOp op t (.int k x) (.int yk y)).run P w = .ok c' w ∧ rel ρ c c' := by
  unfold aShift at h
  split at h
  · cases h
  · rename_i hy
    split at h
    · cases h
      exact ⟨.int k (k.wrap (x * 2 ^ (min y.toNat k.bits))), by simp [binOp, Op.shift, hy], by simp [rel]⟩
    · cases h
      exact ⟨.int k (x.fdiv (2 ^ (min y.toNat k.bits))), by simp [binOp, Op.shift, hy], by simp [rel]⟩
    · cases h

theorem i64_max : IntKind.i64.max = 9223372036854775807 := by decide

theorem aBinS_sound {op : BinOp} {t : TypeId} {x y : ByteArray} {c : AV} (h : aBinS op x y = some c) :
    ∃ c', (binOp op t (.string x) (.string y)).run P w = .ok c' w ∧ rel ρ c c' := by
  cases op <;> simp only [aBinS] at h <;> first
    | (cases h; done)
    | (cases h; exact ⟨_, by simp [binOp, Op.stringOp]; rfl, by simp [rel]⟩)
    | (split at h
       · rename_i hle
         cases h
         have hn : ¬ (((x.size + y.size : Nat) : Int) > IntKind.i64.max) := by rw [i64_max]; omega
         exact ⟨.string (x ++ y), by simp only [binOp, Op.stringOp]; rw [if_neg hn]; rfl, by simp [rel]⟩
       · cases h)

theorem eqT_sound {d : Nat} {t : TypeId} {a b : AV} {e : Bool} {a' b' : Value} (ha : rel ρ a a') (hb : rel ρ b b') (h : eqT P t a b = some e) :
    (Op.equalIn (d + 1) t a' b').run P w = .ok e w ∧ aggO P t = some false := by
  unfold eqT at h
  split at h
  · rename_i hu
    split at h
    · simp only [rel] at ha hb
      subst ha hb
      split at h
      · rename_i hk
        cases h
        exact ⟨by simp [Op.equalIn, run_underlying hu, hk], by simp [aggO, hu]⟩
      · cases h
    · cases h
  · rename_i hu
    split at h
    · simp only [rel] at ha hb
      subst ha hb
      cases h
      exact ⟨by simp [Op.equalIn, run_underlying hu], by simp [aggO, hu]⟩
    · cases h
  · rename_i hu
    split at h
    · simp only [rel] at ha hb
      subst ha hb
      cases h
      exact ⟨run_equalIn_string w d t _ _ hu, by simp [aggO, hu]⟩
    · cases h
  · cases h

theorem eqFs_sound {d : Nat} : ∀ (fs : List Field) (i : Nat) (xs ys : List AV) (as bs : List AV) (vs us : List Value) (e : Bool), flatFields i fs = true → relL ρ as vs → relL ρ bs us →
    xs = as.drop i → ys = bs.drop i → eqFs P fs xs ys = some e → (Op.eqFields (d + 1) vs.toArray us.toArray fs).run P w = .ok e w
  | [], i, xs, ys, as, bs, vs, us, e, hf, ha, hb, hx, hy, h => by
    cases xs <;> cases ys <;> simp [eqFs] at h
    subst h
    simp [Op.eqFields]
  | f :: fs, i, xs, ys, as, bs, vs, us, e, hf, ha, hb, hx, hy, h => by
    cases xs with
    | nil => simp [eqFs] at h
    | cons x xs =>
      cases ys with
      | nil => simp [eqFs] at h
      | cons y ys =>
        simp only [eqFs, Option.bind_eq_some_iff, Option.map_eq_some_iff] at h
        obtain ⟨e1, he1, r, hr, rfl⟩ := h
        simp only [flatFields, flatField, Bool.and_eq_true, beq_iff_eq, bne_iff_ne] at hf
        obtain ⟨⟨ho, hn⟩, hf⟩ := hf
        have gx : as[i]? = some x := by
          have := congrArg (·[0]?) hx
          simpa using this.symm
        have gy : bs[i]? = some y := by
          have := congrArg (·[0]?) hy
          simpa using this.symm
        obtain ⟨x', hx', gx'⟩ := relL_get ha i x gx
        obtain ⟨y', hy', gy'⟩ := relL_get hb i y gy
        obtain ⟨hrun, hag⟩ := eqT_sound (P := P) (w := w) (d := d) hx' hy' he1
        have ih := eqFs_sound (d := d) fs (i + 1) xs ys as bs vs us r hf ha hb (by rw [← List.drop_drop, ← hx]; rfl) (by rw [← List.drop_drop, ← hy]; rfl) hr
        simp only [Op.eqFields, if_pos hn, ho]
        cases e1
        · simp [part, run_isAgg hag, gx', gy', hrun]
        · simp [part, run_isAgg hag, gx', gy', hrun, ih]

def EqOk (P : Program) (w : World) (d : Nat) (t : TypeId) (x y : Operand) (a' b' : Value) (e : Bool) : Prop :=
  (Op.equalIn (d + 2) t a' b').run P w = .ok e w ∧ (∀ op, (eqGuard op t x y a' b').run P w = .ok () w) ∧
    binOp .eql t a' b' = (do pure (.bool (← Op.equal t a' b')) : Sem Value) ∧ binOp .neq t a' b' = (do pure (.bool (!(← Op.equal t a' b'))) : Sem Value)

theorem eqI_bool {d : Nat} {t : TypeId} (hu : P.underlying t = some .bool) (p q : Bool) : (Op.equalIn (d + 1) t (.bool p) (.bool q)).run P w = .ok (p == q) w := by simp [Op.equalIn, run_underlying hu]
theorem eqI_ptr1 {d : Nat} {t e : TypeId} (hu : P.underlying t = some (.pointer e)) (q : Option Addr) : (Op.equalIn (d + 1) t (.pointer none) (.pointer q)).run P w = .ok q.isNone w := by simp [Op.equalIn, run_underlying hu]
theorem eqI_ptr2 {d : Nat} {t e : TypeId} (hu : P.underlying t = some (.pointer e)) (q : Addr) : (Op.equalIn (d + 1) t (.pointer (some q)) (.pointer none)).run P w = .ok false w := by simp [Op.equalIn, run_underlying hu]
theorem eqI_sl1 {d : Nat} {t e : TypeId} (hu : P.underlying t = some (.slice e)) (q : Option Addr) (n c m b : Nat) : (Op.equalIn (d + 1) t (.slice none n c) (.slice q m b)).run P w = .ok q.isNone w := by simp [Op.equalIn, run_underlying hu]
theorem eqI_sl2 {d : Nat} {t e : TypeId} (hu : P.underlying t = some (.slice e)) (q : Addr) (n c m b : Nat) : (Op.equalIn (d + 1) t (.slice (some q) n c) (.slice none m b)).run P w = .ok false w := by simp [Op.equalIn, run_underlying hu]
theorem eqG_other {op : BinOp} {t : TypeId} (x y : Operand) {a b : Value} (h : (match a, b with | .nilIface, .nilIface => false | .agg _, .agg _ => false | _, _ => true) = true) : (eqGuard op t x y a b).run P w = .ok () w := by
  cases a <;> cases b <;> first | (simp at h; done) | (cases op <;> simp [eqGuard])
theorem cAddr_some {p : Nat × Nat} {x : Option Addr} (h : cAddr ρ (some p) = some x) : ∃ a, x = some a := by
  obtain ⟨b, o⟩ := p
  simp only [cAddr, Option.map_eq_some_iff] at h
  obtain ⟨r, _, rfl⟩ := h
  exact ⟨_, rfl⟩
theorem cAddr_isNone {p : Option (Nat × Nat)} {x : Option Addr} (h : cAddr ρ p = some x) : x.isNone = p.isNone := by
  cases p with
  | none => simp [cAddr] at h; subst h; rfl
  | some p => obtain ⟨a, rfl⟩ := cAddr_some h; rfl

theorem aEq_sound {d : Nat} {t : TypeId} {a b : AV} {e : Bool} {a' b' : Value} (x y : Operand) (ha : rel ρ a a') (hb : rel ρ b b') (h : aEq P t a b = some e) :
    EqOk P w d t x y a' b' e := by
  unfold aEq at h
  split at h
  · rename_i hu
    split at h
    · simp only [rel] at ha hb
      subst ha hb
      cases h
      exact ⟨eqI_bool hu _ _, fun op => eqG_other x y rfl, rfl, rfl⟩
    · cases h
  · rename_i hu
    split at h
    · simp only [rel] at ha hb
      obtain ⟨_, hx, rfl⟩ := ha
      obtain ⟨z, hz, rfl⟩ := hb
      cases hx
      cases h
      exact ⟨by rw [← cAddr_isNone hz]; exact eqI_ptr1 hu z, fun op => eqG_other x y rfl, rfl, rfl⟩
    · simp only [rel] at ha hb
      obtain ⟨z, hz, rfl⟩ := ha
      obtain ⟨_, hx, rfl⟩ := hb
      obtain ⟨_, rfl⟩ := cAddr_some hz
      cases hx
      cases h
      exact ⟨eqI_ptr2 hu _, fun op => eqG_other x y rfl, rfl, rfl⟩
    · cases h
  · rename_i hu
    split at h
    · simp only [rel] at ha hb
      obtain ⟨_, ca, hx, _, _, rfl⟩ := ha
      obtain ⟨z, cb, hz, _, _, rfl⟩ := hb
      cases hx
      cases h
      exact ⟨by rw [← cAddr_isNone hz]; exact eqI_sl1 hu z _ _ _ _, fun op => eqG_other x y rfl, rfl, rfl⟩
    · simp only [rel] at ha hb
      obtain ⟨z, ca, hz, _, _, rfl⟩ := ha
      obtain ⟨_, cb, hx, _, _, rfl⟩ := hb
      obtain ⟨_, rfl⟩ := cAddr_some hz
      cases hx
      cases h
      exact ⟨eqI_sl2 hu _ _ _ _ _, fun op => eqG_other x y rfl, rfl, rfl⟩
    · simp only [rel] at ha hb
      obtain ⟨_, ca, hx, _, _, rfl⟩ := ha
      obtain ⟨_, _, rfl⟩ := hb
      cases hx
      cases h
      exact ⟨eqI_sl1 hu _ _ _ _ _, fun op => eqG_other x y rfl, rfl, rfl⟩
    · simp only [rel] at ha hb
      obtain ⟨_, _, rfl⟩ := ha
      obtain ⟨_, cb, hx, _, _, rfl⟩ := hb
      cases hx
      cases h
      exact ⟨eqI_sl2 hu _ _ _ _ _, fun op => eqG_other x y rfl, rfl, rfl⟩
    · cases h
  · rename_i fs hu
    split at h
    · rename_i xs ys
      split at h
      · rename_i hf
        simp only [flatS, Bool.and_eq_true, Bool.not_eq_true'] at hf
        obtain ⟨⟨hf, hst⟩, hg⟩ := hf
        obtain ⟨_, vs, hvs, rfl⟩ := ha
        obtain ⟨_, us, hus, rfl⟩ := hb
        have hfo : P.fieldsOf t = fs := by simp [Program.fieldsOf, hu]
        refine ⟨?_, fun op => run_eqGuard_agg w op t x y _ _ hg, rfl, rfl⟩
        rw [run_equalIn_struct (P := P) w (d + 1) t _ _ (by rw [hfo]; exact hu) hst, hfo]
        exact eqFs_sound (d := d) fs.toList 0 xs ys xs ys vs us e hf hvs hus rfl rfl h
      · cases h
    · cases h
  · cases h

theorem run_equal {t : TypeId} {a b : Value} {e : Bool} (h : (Op.equalIn (9998 + 2) t a b).run P w = .ok e w) : (Op.equal t a b).run P w = .ok e w := h

theorem aBin_sound {op : BinOp} {t : TypeId} {a b c : AV} {a' b' : Value} (x y : Operand) (ha : rel ρ a a') (hb : rel ρ b b') (h : aBin P op t a b = some c) :
    ∃ c', (do eqGuard op t x y a' b'; binOp op t a' b' : Sem Value).run P w = .ok c' w ∧ rel ρ c c' := by
  unfold aBin at h
  split at h
  · rename_i k p k' q
    simp only [rel] at ha hb
    subst ha hb
    have hg : (eqGuard op t x y (.int k p) (.int k' q)).run P w = .ok () w := by cases op <;> simp [eqGuard]
    simp only [Sem.run_bind, hg, Result.andThen_ok]
    split at h
    · exact aShift_sound h
    · exact aShift_sound h
    · rename_i h1 h2
      split at h
      · rename_i hk
        subst hk
        exact aBinI_sound (fun e => h1 e) (fun e => h2 e) h
      · cases h
  · rename_i p q
    simp only [rel] at ha hb
    subst ha hb
    have hg : (eqGuard op t x y (.string p) (.string q)).run P w = .ok () w := by cases op <;> simp [eqGuard]
    simp only [Sem.run_bind, hg, Result.andThen_ok]
    exact aBinS_sound h
  · split at h
    · simp only [Option.map_eq_some_iff] at h
      obtain ⟨e, he, rfl⟩ := h
      obtain ⟨hrun, hg, heq, _⟩ := aEq_sound (P := P) (w := w) (d := 9998) x y ha hb he
      exact ⟨.bool e, by simp only [Sem.run_bind, hg, Result.andThen_ok, heq, run_equal hrun, Sem.run_pure], by simp [rel]⟩
    · simp only [Option.map_eq_some_iff] at h
      obtain ⟨e, he, rfl⟩ := h
      obtain ⟨hrun, hg, _, hne⟩ := aEq_sound (P := P) (w := w) (d := 9998) x y ha hb he
      exact ⟨.bool (!e), by simp only [Sem.run_bind, hg, Result.andThen_ok, hne, run_equal hrun, Sem.run_pure], by simp [rel]⟩
    · cases h
end
end Go.Ri
