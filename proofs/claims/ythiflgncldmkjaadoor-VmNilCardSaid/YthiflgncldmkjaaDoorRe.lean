/- Unary operators, conversions, slicing, lengths, building. -/
import Derived.Test.YthiflgncldmkjaaDoorRd
import Derived.Laws.BytesArg
set_option linter.unusedVariables false
set_option linter.unusedSimpArgs false
namespace Go.Ri
section
variable {P : Program} {ρ : Ro} {H : AH} {w : World}

def aUn (op : UnOp) (v : AV) : Option AV := match op, v with
  | .neg, .int k n => some (.int k (k.wrap (0 - n)))
  | .not, .bool b => some (.bool (!b))
  | _, _ => none
theorem aUn_sound {op : UnOp} {v c : AV} {v' : Value} (hv : rel ρ v v') (h : aUn op v = some c) : ∃ c', (Op.unary op v').run P w = .ok c' w ∧ rel ρ c c' := by
  unfold aUn at h
  split at h
  · simp only [rel] at hv
    subst hv
    cases h
    exact ⟨_, rfl, by simp [rel]⟩
  · simp only [rel] at hv
    subst hv
    cases h
    exact ⟨_, rfl, by simp [rel]⟩
  · cases h

/-! ### Conversions -/
def byteInts : List AV → Option (List Int)
  | [] => some []
  | .int .u8 n :: cs => (byteInts cs).map fun l => n :: l
  | _ => none
theorem byteInts_rel : ∀ {cs : List AV} {vs : List Value} {l : List Int}, relL ρ cs vs → byteInts cs = some l → vs = l.map (Value.int .u8)
  | [], vs, l, h, k => by simp [byteInts] at k; subst k; simp [relL] at h; subst h; rfl
  | c :: cs, vs, l, h, k => by
    unfold byteInts at k
    split at k
    · rename_i heq; cases heq
    · rename_i n ds heq
      cases heq
      simp only [Option.map_eq_some_iff] at k
      obtain ⟨l', hl', rfl⟩ := k
      simp only [relL] at h
      obtain ⟨v, us, hv, hus, rfl⟩ := h
      simp only [rel] at hv
      subst hv
      rw [byteInts_rel hus hl']
      rfl
    · cases k
def cvInt (k : IntKind) (v : AV) : Option AV := match v with
  | .int _ n => some (.int k (k.wrap n))
  | _ => none
def cvStr (v : AV) : Option AV := match v with
  | .str s => some (.str s)
  | _ => none
def cvBytes (v : AV) (H : AH) : Option AV := match v with
  | .slice (some p) n _ => (H.ldN p n).bind fun cs => (byteInts cs).map fun l => .str (strOfNums l)
  | .slice none _ _ => some (.str ByteArray.empty)
  | _ => none
def aConvert (P : Program) (src dst : TypeId) (v : AV) (H : AH) : Option AV := match P.underlying src with
  | none => none
  | some s => match P.underlying dst with
    | some (.int k) => cvInt k v
    | some .string => (match s with
      | .string => cvStr v
      | .slice e => (match P.underlying e with
        | some (.int .u8) => cvBytes v H
        | _ => none)
      | _ => none)
    | _ => none
theorem aConvert_sound (h : Sim P ρ H w) {src dst : TypeId} {v c : AV} {v' : Value} (hv : rel ρ v v') (hc : aConvert P src dst v H = some c) :
    ∃ c', (convert src dst v').run P w = .ok c' w ∧ rel ρ c c' := by
  unfold aConvert at hc
  split at hc
  · cases hc
  · rename_i s hs
    split at hc
    · rename_i k hd
      unfold cvInt at hc
      split at hc
      · simp only [rel] at hv
        subst hv
        cases hc
        rename_i kk n
        exact ⟨.int k (k.wrap n), by simp [convert, run_underlying hs, run_underlying hd, Conv.intToInt], by simp [rel]⟩
      · cases hc
    · rename_i hd
      split at hc
      · unfold cvStr at hc
        split at hc
        · rename_i x
          simp only [rel] at hv
          subst hv
          cases hc
          exact ⟨.string x, by simp [convert, run_underlying hs, run_underlying hd], by simp [rel]⟩
        · cases hc
      · rename_i e
        split at hc
        · rename_i he
          unfold cvBytes at hc
          split at hc
          · rename_i p n c'
            obtain ⟨b, o⟩ := p
            simp only [Option.bind_eq_some_iff, Option.map_eq_some_iff] at hc
            obtain ⟨cs, hcs, l, hl, rfl⟩ := hc
            simp only [rel, cAddr, Option.map_eq_some_iff] at hv
            obtain ⟨x, y, ⟨r, hr, rfl⟩, hy, _, rfl⟩ := hv
            obtain ⟨r', vs, hr', hvs, hn, _, _, hcell⟩ := ldN_sound h hcs
            rw [hr] at hr'
            cases hr'
            have hvl := byteInts_rel hvs hl
            subst hvl
            have hlen : l.length = n := by simpa using hn
            have hrun := run_convert_bytes_arg (P := P) w src e hs he r.blk (r.base + o) n y l hlen (fun i hi => by
              have := hcell i (.int .u8 (l.getD i 0)) (by simp [List.getElem?_eq_getElem (show i < l.length by omega), List.getD_eq_getElem?_getD])
              rwa [add_at] at this) dst hd
            exact ⟨_, hrun, by simp [rel]⟩
          · simp only [rel, cAddr] at hv
            obtain ⟨x, y, hx, hy, _, rfl⟩ := hv
            cases hx
            cases hc
            exact ⟨_, run_convert_bytes_nil w src e hs he _ _ dst hd, by simp [rel]⟩
          · cases hc
        · cases hc
      · cases hc
    · cases hc

/-! ### Slicing -/
def bnd (v : AV) (y : Nat) : Option Nat := match v with
  | .int _ i => if 0 ≤ i ∧ i ≤ (y : Int) then some i.toNat else none
  | _ => none
theorem bnd_sound {v : AV} {v' : Value} {y n : Nat} (code : BoundsCode) (hv : rel ρ v v') (h : bnd v y = some n) : (Instr.sliceBound v' y code).run P w = .ok n w ∧ n ≤ y := by
  unfold bnd at h
  split at h
  · split at h
    · rename_i hi
      simp only [rel] at hv
      subst hv
      cases h
      exact ⟨by simp [Instr.sliceBound, asIntOf, hi], by omega⟩
    · cases h
  · cases h
def oRel (ρ : Ro) : Option AV → Option Value → Prop
  | none, none => True
  | some a, some b => rel ρ a b
  | _, _ => False
/-- The three bounds: from, to, as far as; `cap`: what is known of the capacity; `len` at least is there. -/
def bnds (len : Nat) (cap : Option Nat) (lo hi mx : Option AV) : Option (Nat × Nat × Option Nat) :=
  match mx with
  | some m => (bnd m (cap.getD len)).bind fun m => (match hi with
    | some h => (bnd h m).bind fun h => (match lo with
      | some l => (bnd l h).map fun l => (l, h, some m)
      | none => some (0, h, some m))
    | none => none)
  | none => (match hi with
    | some h => (bnd h (cap.getD len)).bind fun h => (match lo with
      | some l => (bnd l h).map fun l => (l, h, cap)
      | none => some (0, h, cap))
    | none => (match lo with
      | some l => (bnd l len).map fun l => (l, len, cap)
      | none => some (0, len, cap)))
theorem bnds_sound {isS : Bool} {len c' : Nat} {cap : Option Nat} {lo hi mx : Option AV} {lo' hi' mx' : Option Value} {l h : Nat} {m : Option Nat}
    (hl : oRel ρ lo lo') (hh : oRel ρ hi hi') (hm : oRel ρ mx mx') (hlen : len ≤ c') (hcap : ∀ x, cap = some x → x = c') (hb : bnds len cap lo hi mx = some (l, h, m)) :
    ∃ m', (Instr.sliceBounds isS len c' lo' hi' mx').run P w = .ok (l, h, m') w ∧ l ≤ h ∧ h ≤ m' ∧ m' ≤ c' ∧ (∀ x, m = some x → x = m') ∧ (m = none → m' = c') := by
  have hg : cap.getD len ≤ c' := by
    cases cap with
    | none => exact hlen
    | some x => rw [hcap x rfl]; exact Nat.le_refl _
  have up : ∀ (a : AV) (y z n : Nat), bnd a y = some n → y ≤ z → bnd a z = some n := fun a y z n ha hyz => by
    unfold bnd at ha ⊢
    split at ha
    · split at ha
      · cases ha
        rw [if_pos (by omega)]
      · cases ha
    · cases ha
  unfold bnds at hb
  cases mx with
  | some mv =>
    cases mx' with
    | none => exact hm.elim
    | some mv' =>
      simp only [Option.bind_eq_some_iff] at hb
      obtain ⟨m0, hm0, hb⟩ := hb
      obtain ⟨r1, l1⟩ := bnd_sound (P := P) (w := w) (y := c') (if isS then .slice3Acap else .slice3Alen) hm (up _ _ _ _ hm0 hg)
      cases hi with
      | none => cases hb
      | some hv =>
        cases hi' with
        | none => exact hh.elim
        | some hv' =>
          simp only [Option.bind_eq_some_iff] at hb
          obtain ⟨h0, hh0, hb⟩ := hb
          obtain ⟨r2, l2⟩ := bnd_sound (P := P) (w := w) .slice3B hh hh0
          cases lo with
          | none =>
            cases lo' with
            | some _ => exact hl.elim
            | none =>
              cases hb
              exact ⟨m0, by simp [Instr.sliceBounds, r1, r2], Nat.zero_le _, l2, l1, fun x hx => by cases hx; rfl, fun hx => by cases hx⟩
          | some lv =>
            cases lo' with
            | none => exact hl.elim
            | some lv' =>
              simp only [Option.map_eq_some_iff] at hb
              obtain ⟨l0, hl0, hb⟩ := hb
              cases hb
              obtain ⟨r3, l3⟩ := bnd_sound (P := P) (w := w) .slice3C hl hl0
              exact ⟨m0, by simp [Instr.sliceBounds, r1, r2, r3], l3, l2, l1, fun x hx => by cases hx; rfl, fun hx => by cases hx⟩
  | none =>
    cases mx' with
    | some _ => exact hm.elim
    | none =>
      cases hi with
      | some hv =>
        cases hi' with
        | none => exact hh.elim
        | some hv' =>
          simp only [Option.bind_eq_some_iff] at hb
          obtain ⟨h0, hh0, hb⟩ := hb
          obtain ⟨r2, l2⟩ := bnd_sound (P := P) (w := w) (y := c') (if isS then .sliceAcap else .sliceAlen) hh (up _ _ _ _ hh0 hg)
          cases lo with
          | none =>
            cases lo' with
            | some _ => exact hl.elim
            | none =>
              cases hb
              exact ⟨c', by simp [Instr.sliceBounds, r2], Nat.zero_le _, l2, Nat.le_refl _, hcap, fun _ => rfl⟩
          | some lv =>
            cases lo' with
            | none => exact hl.elim
            | some lv' =>
              simp only [Option.map_eq_some_iff] at hb
              obtain ⟨l0, hl0, hb⟩ := hb
              cases hb
              obtain ⟨r3, l3⟩ := bnd_sound (P := P) (w := w) .sliceB hl hl0
              exact ⟨c', by simp [Instr.sliceBounds, r2, r3], l3, l2, Nat.le_refl _, hcap, fun _ => rfl⟩
      | none =>
        cases hi' with
        | some _ => exact hh.elim
        | none =>
          cases lo with
          | none =>
            cases lo' with
            | some _ => exact hl.elim
            | none =>
              cases hb
              exact ⟨c', by simp [Instr.sliceBounds], Nat.zero_le _, hlen, Nat.le_refl _, hcap, fun _ => rfl⟩
          | some lv =>
            cases lo' with
            | none => exact hl.elim
            | some lv' =>
              simp only [Option.map_eq_some_iff] at hb
              obtain ⟨l0, hl0, hb⟩ := hb
              cases hb
              obtain ⟨r3, l3⟩ := bnd_sound (P := P) (w := w) .sliceB hl hl0
              exact ⟨c', by simp [Instr.sliceBounds, r3], l3, hlen, Nat.le_refl _, hcap, fun _ => rfl⟩

def capOf (m : Option Nat) (sz : Nat) : Cap := match m with
  | some c => .kn c
  | none => .op sz
/-- What a cut of a row at `p` gives: elements of `sz` cells. -/
def cutAt (p : Nat × Nat) (sz l h : Nat) (m : Option Nat) : AV :=
  if l = 0 then .slice (some p) h (capOf m sz)
  else if l < h then .slice (some (p.1, p.2 + l * sz)) (h - l) (capOf (m.map (· - l)) sz)
  else .empty
def slSl (v : AV) (sz : Nat) (lo hi mx : Option AV) : Option AV := match v with
  | .slice (some p) len cap => if cap = .op sz ∨ cap.known.isSome = true then (bnds len cap.known lo hi mx).bind fun (l, h, m) => some (cutAt p sz l h m) else none
  | .slice none len cap => (bnds len cap.known lo hi mx).bind fun (l, h, m) => if l = 0 then m.map fun c => .slice none h (.kn c) else none
  | .empty => (bnds 0 none lo hi mx).bind fun (l, h, m) => some .empty
  | _ => none
def slArr (v : AV) (n sz : Nat) (lo hi mx : Option AV) : Option AV := match v with
  | .ptr (some p) => (bnds n (some n) lo hi mx).bind fun (l, h, m) => some (cutAt p sz l h m)
  | _ => none
def slStr (v : AV) (lo hi mx : Option AV) : Option AV := match v, mx with
  | .str s, none => (bnds s.size (some s.size) lo hi none).map fun (l, h, _) => .str (s.extract l h)
  | _, _ => none
def aSlice (P : Program) (t : TypeId) (v : AV) (lo hi mx : Option AV) : Option AV := match P.underlying t with
  | some (.array n e) => if (P.info? e).isSome = true then slArr v n (P.cellsOf e) lo hi mx else none
  | some (.slice e) => if (P.info? e).isSome = true then slSl v (P.cellsOf e) lo hi mx else none
  | some .string => slStr v lo hi mx
  | _ => none

theorem cutAt_rel {b o sz l h c m' : Nat} {m : Option Nat} {r : RB} (hr : ρ b = some r) (h1 : l ≤ h) (h2 : h ≤ m') (h3 : m' ≤ c) (h4 : ∀ x, m = some x → x = m') (h5 : m = none → m' = c ∧ c = (r.lim - o) / sz) :
    rel ρ (cutAt (b, o) sz l h m) (.slice (if m' = l then some ⟨r.blk, r.base + o, none⟩ else some ((⟨r.blk, r.base + o, none⟩ : Addr).add (l * sz))) (h - l) (m' - l)) := by
  unfold cutAt
  split
  · rename_i h0
    subst h0
    have ha : (if m' = 0 then some ⟨r.blk, r.base + o, none⟩ else some ((⟨r.blk, r.base + o, none⟩ : Addr).add (0 * sz))) = some (⟨r.blk, r.base + o, none⟩ : Addr) := by
      rw [add_at]; simp
    rw [ha]
    refine ⟨some ⟨r.blk, r.base + o, none⟩, m', by simp [cAddr, hr], ?_, h2, by simp⟩
    cases m with
    | some x => rw [h4 x rfl]; rfl
    | none => obtain ⟨e1, e2⟩ := h5 rfl; simp [capOf, cCap, hr, e1, e2]
  · rename_i h0
    split
    · rename_i hlt
      rw [if_neg (by omega)]
      refine ⟨some ⟨r.blk, r.base + (o + l * sz), none⟩, m' - l, by simp [cAddr, hr], ?_, by omega, by rw [add_at, Nat.add_assoc]⟩
      cases m with
      | some x => rw [h4 x rfl]; rfl
      | none =>
        obtain ⟨e1, e2⟩ := h5 rfl
        simp only [capOf, Option.map_none, cCap, hr, Option.map_some, Option.some.injEq]
        rw [e1, e2, ← Nat.sub_sub, Nat.mul_comm, Nat.sub_mul_div]
    · rename_i hlt
      have : h - l = 0 := by omega
      rw [this]
      split <;> exact ⟨_, _, rfl⟩

theorem aSlice_sound {t : TypeId} {v c : AV} {v' : Value} {lo hi mx : Option AV} {lo' hi' mx' : Option Value} (hv : rel ρ v v') (hl : oRel ρ lo lo') (hh : oRel ρ hi hi') (hm : oRel ρ mx mx')
    (hc : aSlice P t v lo hi mx = some c) : ∃ c', (Instr.sliceAt t v' lo' hi' mx').run P w = .ok c' w ∧ rel ρ c c' := by
  unfold aSlice at hc
  split at hc
  · rename_i n e hu
    split at hc
    · rename_i hinf
      unfold slArr at hc
      split at hc
      · rename_i p
        obtain ⟨b, o⟩ := p
        simp only [Option.bind_eq_some_iff] at hc
        obtain ⟨⟨l, h, m⟩, hb, hc⟩ := hc
        cases hc
        obtain ⟨r, hr, rfl⟩ := rel_ptr hv
        obtain ⟨m', hrun, h1, h2, h3, h4, h5⟩ := bnds_sound (P := P) (w := w) (isS := false) hl hh hm (Nat.le_refl n) (fun x hx => by cases hx; rfl) hb
        have hmm : m ≠ none := by
          intro e
          subst e
          unfold bnds at hb
          cases mx <;> cases hi <;> cases lo <;> simp [Option.bind_eq_some_iff] at hb
        refine ⟨_, ?_, cutAt_rel hr h1 h2 h3 h4 (fun e => absurd e hmm)⟩
        simp [Instr.sliceAt, run_underlying hu, Instr.sureAddr, hrun, run_size' hinf]
        split <;> rfl
      · cases hc
    · cases hc
  · rename_i e hu
    split at hc
    · rename_i hinf
      unfold slSl at hc
      split at hc
      · rename_i p len cap
        obtain ⟨b, o⟩ := p
        split at hc
        · rename_i hcap
          simp only [Option.bind_eq_some_iff] at hc
          obtain ⟨⟨l, h, m⟩, hb, hc⟩ := hc
          cases hc
          simp only [rel, cAddr, Option.map_eq_some_iff] at hv
          obtain ⟨x, y, ⟨r, hr, rfl⟩, hy, hle, rfl⟩ := hv
          have hk : ∀ x, cap.known = some x → x = y := fun x hx => by
            cases cap with
            | kn z => simp only [cCap] at hy; simp only [Cap.known] at hx; cases hy; cases hx; rfl
            | op z => simp [Cap.known] at hx
          obtain ⟨m', hrun, h1, h2, h3, h4, h5⟩ := bnds_sound (P := P) (w := w) (isS := true) hl hh hm hle hk hb
          refine ⟨_, ?_, cutAt_rel hr h1 h2 h3 h4 (fun e => ⟨h5 e, ?_⟩)⟩
          · simp only [Instr.sliceAt, run_underlying hu, Sem.run_bind, Result.andThen_ok, Instr.slice, hrun, run_size' hinf, Sem.run_pure]
            split <;> rfl
          · cases cap with
            | kn z =>
              exfalso
              subst e
              unfold bnds at hb
              cases mx <;> cases hi <;> cases lo <;> simp [Option.bind_eq_some_iff, Cap.known] at hb
            | op z =>
              rcases hcap with hcap | hcap
              · cases hcap
                simp only [cCap, hr, Option.map_some, Option.some.injEq] at hy
                exact hy.symm
              · simp [Cap.known] at hcap
        · cases hc
      · rename_i len cap
        simp only [Option.bind_eq_some_iff] at hc
        obtain ⟨⟨l, h, m⟩, hb, hc⟩ := hc
        simp only [rel, cAddr] at hv
        obtain ⟨x, y, hx, hy, hle, rfl⟩ := hv
        cases hx
        have hk : ∀ x, cap.known = some x → x = y := fun x hx => by
          cases cap with
          | kn z => simp only [cCap] at hy; simp only [Cap.known] at hx; cases hy; cases hx; rfl
          | op z => simp [Cap.known] at hx
        obtain ⟨m', hrun, h1, h2, h3, h4, h5⟩ := bnds_sound (P := P) (w := w) (isS := true) hl hh hm hle hk hb
        split at hc
        · rename_i h0
          subst h0
          simp only [Option.map_eq_some_iff] at hc
          obtain ⟨z, hz, rfl⟩ := hc
          have := h4 z hz
          subst this
          refine ⟨.slice none h z, ?_, none, z, rfl, rfl, h2, rfl⟩
          simp [Instr.sliceAt, run_underlying hu, Instr.slice, hrun, run_size' hinf]
        · cases hc
      · simp only [Option.bind_eq_some_iff] at hc
        obtain ⟨⟨l, h, m⟩, hb, hc⟩ := hc
        cases hc
        obtain ⟨a, y, rfl⟩ := hv
        obtain ⟨m', hrun, h1, h2, h3, h4, h5⟩ := bnds_sound (P := P) (w := w) (isS := true) (c' := y) hl hh hm (Nat.zero_le y) (fun x hx => by cases hx) hb
        have hh0 : h = 0 := by
          have up0 : ∀ (a : AV) (y n : Nat), bnd a y = some n → n ≤ y := fun a y n ha => by
            unfold bnd at ha
            split at ha
            · split at ha
              · cases ha; omega
              · cases ha
            · cases ha
          unfold bnds at hb
          cases mx with
          | some mv =>
            cases hi with
            | none => simp [Option.bind_eq_some_iff] at hb
            | some hv' =>
              simp only [Option.bind_eq_some_iff, Option.getD_none] at hb
              obtain ⟨m0, hm0, h0, hh0, hb⟩ := hb
              have := up0 _ _ _ hm0
              have := up0 _ _ _ hh0
              cases lo with
              | none => cases hb; omega
              | some lv => simp only [Option.map_eq_some_iff] at hb; obtain ⟨_, _, hb⟩ := hb; cases hb; omega
          | none =>
            cases hi with
            | none =>
              cases lo with
              | none => cases hb; rfl
              | some lv => simp only [Option.map_eq_some_iff] at hb; obtain ⟨_, _, hb⟩ := hb; cases hb; rfl
            | some hv' =>
              simp only [Option.bind_eq_some_iff, Option.getD_none] at hb
              obtain ⟨h0, hh0, hb⟩ := hb
              have := up0 _ _ _ hh0
              cases lo with
              | none => cases hb; omega
              | some lv => simp only [Option.map_eq_some_iff] at hb; obtain ⟨_, _, hb⟩ := hb; cases hb; omega
        subst hh0
        obtain rfl : l = 0 := by omega
        refine ⟨.slice (some a) 0 m', ?_, a, m', rfl⟩
        simp only [Instr.sliceAt, run_underlying hu, Sem.run_bind, Result.andThen_ok, Instr.slice, hrun, run_size' hinf, Sem.run_pure]
        have : a.add 0 = a := by simp [Addr.add]
        simp [this]
      · cases hc
    · cases hc
  · rename_i hu
    unfold slStr at hc
    split at hc
    · rename_i s
      cases mx' with
      | some _ => exact hm.elim
      | none =>
        simp only [Option.map_eq_some_iff] at hc
        obtain ⟨⟨l, h, m⟩, hb, rfl⟩ := hc
        simp only [rel] at hv
        subst hv
        obtain ⟨m', hrun, h1, h2, h3, h4, h5⟩ := bnds_sound (P := P) (w := w) (isS := false) (c' := s.size) hl hh (show oRel ρ none none from trivial) (Nat.le_refl _) (fun x hx => by cases hx; rfl) hb
        exact ⟨.string (s.extract l h), by simp [Instr.sliceAt, run_underlying hu, Instr.slice, hrun], by simp [rel]⟩
    · cases hc
  · cases hc

def aLen (P : Program) (t : TypeId) (v : AV) : Option AV := match P.underlying t with
  | some .string => (match v with | .str s => some (.int .i64 s.size) | _ => none)
  | some (.array n _) => some (.int .i64 n)
  | some (.slice _) => (match v with | .slice _ n _ => some (.int .i64 n) | .empty => some (.int .i64 0) | _ => none)
  | _ => none
theorem aLen_sound {t ty : TypeId} {v c : AV} {v' : Value} (hv : rel ρ v v') (h : aLen P t v = some c) : ∃ c', (Builtin.len_ #[t] ty #[v']).run P w = .ok c' w ∧ rel ρ c c' := by
  unfold aLen at h
  split at h
  · rename_i hu
    split at h
    · simp only [rel] at hv; subst hv; cases h
      exact ⟨_, by simp [Builtin.len_, run_underlying hu]; rfl, by simp [rel, goInt]⟩
    · cases h
  · rename_i hu
    cases h
    exact ⟨_, by simp [Builtin.len_, run_underlying hu]; rfl, by simp [rel, goInt]⟩
  · rename_i hu
    split at h
    · obtain ⟨x, y, hx, hy, hle, rfl⟩ := hv
      cases h
      exact ⟨_, by simp [Builtin.len_, run_underlying hu]; rfl, by simp [rel, goInt]⟩
    · obtain ⟨x, y, rfl⟩ := hv
      cases h
      exact ⟨_, by simp [Builtin.len_, run_underlying hu]; rfl, by simp [rel, goInt]⟩
    · cases h
  · cases h
end
end Go.Ri
