/- Building values, and the operations that make or write memory. -/
import Derived.Test.YthiflgncldmkjaaDoorRe
set_option linter.unusedVariables false
set_option linter.unusedSimpArgs false
namespace Go.Ri
section
variable {P : Program} {ρ : Ro} {H : AH} {w : World}

theorem foldl_set : ∀ (us : List Value) (k off : Nat) (arr : Array Value), off + k + us.length ≤ arr.size →
    ((us.zipIdx k).foldl (fun (cs : Array Value) (p : Value × Nat) => cs.setIfInBounds (off + p.2) p.1) arr).toList = arr.toList.take (off + k) ++ us ++ arr.toList.drop (off + k + us.length)
  | [], k, off, arr, h => by simp
  | u :: us, k, off, arr, h => by
    simp only [List.length_cons] at h
    simp only [List.zipIdx_cons, List.foldl_cons]
    rw [foldl_set us (k + 1) off (arr.setIfInBounds (off + k) u) (by simp; omega)]
    have e := list_seg_step arr.toList (off + k) u us (by simp; omega)
    simp only [Array.toList_setIfInBounds, List.length_cons]
    rw [← Nat.add_assoc off k 1]
    exact e

def splice (cs : List AV) (n : Nat) : Nat → List AV → List AV
  | 0, l => cs ++ l.drop n
  | _ + 1, [] => []
  | k + 1, x :: l => x :: splice cs n k l
theorem splice_eq (cs : List AV) (n : Nat) : ∀ (k : Nat) (l : List AV), k ≤ l.length → splice cs n k l = l.take k ++ cs ++ l.drop (k + n)
  | 0, l, _ => by simp [splice]
  | k + 1, [], h => by simp at h
  | k + 1, x :: l, h => by
    rw [splice, splice_eq cs n k l (by simpa using h)]
    simp [Nat.add_right_comm]

def aFill (place : Nat → Option (Nat × Nat)) (tot : Nat) (cells : List AV) : List (Nat × AV) → Option (List AV)
  | [] => some cells
  | (i, v) :: rest => (place i).bind fun q => v.cells.bind fun cs =>
    if cs.length = q.2 ∧ q.1 + q.2 ≤ tot then aFill place tot (splice cs q.2 q.1 cells) rest else none

def partsRel (ρ : Ro) : List (Nat × AV) → List (Nat × Value) → Prop
  | [], [] => True
  | (i, a) :: xs, (j, b) :: ys => i = j ∧ rel ρ a b ∧ partsRel ρ xs ys
  | _, _ => False

theorem aFill_sound {place : Nat → Option (Nat × Nat)} {tot : Nat} : ∀ {parts : List (Nat × AV)} {parts' : List (Nat × Value)} {cells out : List AV} {arr : Array Value}, partsRel ρ parts parts' → relL ρ cells arr.toList →
    cells.all AV.isOne = true → tot = cells.length → aFill place tot cells parts = some out → ∃ arr', Instr.fill place arr parts' = some arr' ∧ relL ρ out arr'.toList ∧ out.all AV.isOne = true
  | [], [], cells, out, arr, hp, hr, h1, htot, h => by
    simp only [aFill] at h
    cases h
    exact ⟨arr, rfl, hr, h1⟩
  | (i, a) :: xs, (j, b) :: ys, cells, out, arr, hp, hr, h1, htot, h => by
    obtain ⟨rfl, hab, hp⟩ := hp
    simp only [aFill, Option.bind_eq_some_iff] at h
    obtain ⟨⟨off, size⟩, hq, cs, hcs, h⟩ := h
    split at h
    · rename_i hle
      obtain ⟨hl, hle⟩ := hle
      simp only at hl hle h
      rw [htot] at hle
      rw [splice_eq _ _ _ _ (by omega)] at h
      obtain ⟨hcr, hc1⟩ := cells_rel hab hcs
      have hlen := relL_length hcr
      have hal := relL_length hr
      simp only [Array.length_toList] at hlen hal
      have hfold : (b.cells.zipIdx.foldl (fun cs (p : Value × Nat) => cs.setIfInBounds (off + p.2) p.1) arr).toList = arr.toList.take off ++ b.cells.toList ++ arr.toList.drop (off + size) := by
        rw [← Array.foldl_toList, Array.toList_zipIdx, foldl_set _ 0 off arr (by simp; omega)]
        simp [hlen, hl]
      have hrel2 : relL ρ (cells.take off ++ cs ++ cells.drop (off + size)) (b.cells.zipIdx.foldl (fun cs (p : Value × Nat) => cs.setIfInBounds (off + p.2) p.1) arr).toList := by
        rw [hfold]
        exact relL_append (relL_append (relL_take _ hr) hcr) (relL_drop _ hr)
      have hone : (cells.take off ++ cs ++ cells.drop (off + size)).all AV.isOne = true := by
        rw [List.all_eq_true] at h1 hc1 ⊢
        intro c hc
        simp only [List.mem_append] at hc
        rcases hc with (hc | hc) | hc
        · exact h1 c (List.mem_of_mem_take hc)
        · exact hc1 c hc
        · exact h1 c (List.mem_of_mem_drop hc)
      obtain ⟨arr', hf, hr', ho⟩ := aFill_sound hp hrel2 hone (by rw [htot]; simp; omega) h
      refine ⟨arr', ?_, hr', ho⟩
      rw [← hf]
      simp only [Instr.fill, hq]
      rw [if_neg]
      simp only [Bool.or_eq_true, decide_eq_true_eq, bne_iff_ne, ne_eq]
      omega
    · cases h
  | [], _ :: _, _, _, _, hp, _, _, _, _ => hp.elim
  | _ :: _, [], _, _, _, hp, _, _, _, _ => hp.elim

def zeroL (P : Program) (t : TypeId) : Option (List AV) := (P.info? t).bind fun i => i.zero.bind fun z => (absC z).bind AV.cells
theorem zeroL_sound {t : TypeId} {cs : List AV} (h : zeroL P t = some cs) : ∃ i z, P.info? t = some i ∧ i.zero = some z ∧ relL ρ cs z.cells.toList ∧ cs.all AV.isOne = true := by
  simp only [zeroL, Option.bind_eq_some_iff] at h
  obtain ⟨i, hi, z, hz, c, hc, hcs⟩ := h
  have := cells_rel (absC_rel (ρ := ρ) hc) hcs
  exact ⟨i, z, hi, hz, this.1, this.2⟩

def placesOf (P : Program) : List Field → Option (List (Nat × Nat))
  | [] => some []
  | f :: fs => (P.info? f.type).bind fun i => (placesOf P fs).map fun l => (f.offset, i.size) :: l
theorem placesOf_mapM : ∀ {fs : List Field} {l}, placesOf P fs = some l → fs.mapM (fun f => (P.info? f.type).map fun i => (f.offset, i.size)) = some l
  | [], l, h => by simp [placesOf] at h; simp [h]
  | f :: fs, l, h => by
    simp only [placesOf, Option.bind_eq_some_iff, Option.map_eq_some_iff] at h
    obtain ⟨i, hi, l', hl', rfl⟩ := h
    simp [List.mapM_cons, hi, placesOf_mapM hl']

def aBuild (P : Program) (t : TypeId) (parts : List (Nat × AV)) : Option AV := match P.underlying t with
  | some (.array _ e) => (P.info? e).bind fun ie => (zeroL P t).bind fun z => (aFill (fun i => some (i * ie.size, ie.size)) z.length z parts).map .agg
  | some (.struct fs) => (placesOf P fs.toList).bind fun pl => (zeroL P t).bind fun z => (aFill (fun i => pl[i]?) z.length z parts).map .agg
  | _ => none
theorem aBuild_sound {t : TypeId} {parts : List (Nat × AV)} {parts' : Array (Nat × Value)} {c : AV} (hp : partsRel ρ parts parts'.toList) (h : aBuild P t parts = some c) :
    ∃ c', (Instr.build t parts').run P w = .ok c' w ∧ rel ρ c c' := by
  unfold aBuild at h
  split at h
  · rename_i n e hu
    simp only [Option.bind_eq_some_iff, Option.map_eq_some_iff] at h
    obtain ⟨ie, hie, z, hz, cs, hcs, rfl⟩ := h
    obtain ⟨i, zv, hi, hzv, hzr, hz1⟩ := zeroL_sound (ρ := ρ) hz
    obtain ⟨arr, hf, hr, h1⟩ := aFill_sound hp hzr hz1 rfl hcs
    refine ⟨.agg arr, run_build w t parts' arr ?_, h1, arr.toList, hr, by simp⟩
    simp only [Program.built, hi, hu, hzv, hie]
    exact hf
  · rename_i fs hu
    simp only [Option.bind_eq_some_iff, Option.map_eq_some_iff] at h
    obtain ⟨pl, hpl, z, hz, cs, hcs, rfl⟩ := h
    obtain ⟨i, zv, hi, hzv, hzr, hz1⟩ := zeroL_sound (ρ := ρ) hz
    obtain ⟨arr, hf, hr, h1⟩ := aFill_sound hp hzr hz1 rfl hcs
    refine ⟨.agg arr, run_build w t parts' arr ?_, h1, arr.toList, hr, by simp⟩
    simp only [Program.built, hi, hu, hzv, placesOf_mapM hpl]
    simpa using hf
  · cases h

/-! ### New memory -/
/-- A block to be made: its cells, their type, and the value that leads to it. -/
structure NB where
  cells : List AV
  elem : TypeId
  val : Nat → AV
def ptrTo (id : Nat) : AV := .ptr (some (id, 0))
def slTo (n c : Nat) (id : Nat) : AV := .slice (some (id, 0)) n (.kn c)
def NBok (P : Program) (ρ : Ro) (w : World) (nb : NB) (s : Sem Value) : Prop :=
  ∃ arr v', s.run P w = .ok v' (w.alloc (.cells arr nb.elem)) ∧ relL ρ nb.cells arr.toList ∧ nb.cells.all AV.isOne = true ∧ ∀ (ρ' : Ro) id, ρ' id = some ⟨w.heap.size, 0, arr.size⟩ → rel ρ' (nb.val id) v'
theorem run_newRow (elem : TypeId) (cells : Array Value) : (newRow elem cells).run P w = .ok ⟨w.heap.size, 0, none⟩ (w.alloc (.cells cells elem)) := by
  simp [newRow]
theorem ptrTo_rel {ρ' : Ro} {id n l : Nat} (h : ρ' id = some ⟨n, 0, l⟩) : rel ρ' (ptrTo id) (.pointer (some ⟨n, 0, none⟩)) := by
  have := rel_ptr_mk (o := 0) h
  exact this
theorem slTo_rel {ρ' : Ro} {id n l k c : Nat} (h : ρ' id = some ⟨n, 0, l⟩) (hk : k ≤ c) : rel ρ' (slTo k c id) (.slice (some ⟨n, 0, none⟩) k c) :=
  ⟨_, c, by simp [cAddr, h], rfl, hk, rfl⟩

def nAlloc (P : Program) (e : TypeId) : Option NB := (zeroL P e).map fun z => ⟨z, e, ptrTo⟩
theorem nAlloc_sound {e : TypeId} {nb : NB} (hc : nAlloc P e = some nb) (old : Value) : NBok P ρ w nb (Instr.alloc e true old) := by
  simp only [nAlloc, Option.map_eq_some_iff] at hc
  obtain ⟨z, hz, rfl⟩ := hc
  obtain ⟨i, zv, hi, hzv, hzr, hz1⟩ := zeroL_sound (ρ := ρ) hz
  refine ⟨zv.cells, _, ?_, hzr, hz1, fun ρ' id hid => ptrTo_rel hid⟩
  simp only [Instr.alloc, zeroValue, Sem.run_bind, run_typeInfo hi, Result.andThen_ok, hzv, newVar, run_newRow, Sem.run_pure]
def nBox (e : TypeId) (v : AV) : Option NB := v.cells.map fun cs => ⟨cs, e, ptrTo⟩
theorem nBox_sound {e : TypeId} {x : AV} {x' : Value} {nb : NB} (hx : rel ρ x x') (hc : nBox e x = some nb) : NBok P ρ w nb (Instr.box e x') := by
  simp only [nBox, Option.map_eq_some_iff] at hc
  obtain ⟨z, hz, rfl⟩ := hc
  obtain ⟨hzr, hz1⟩ := cells_rel hx hz
  refine ⟨x'.cells, _, ?_, hzr, hz1, fun ρ' id hid => ptrTo_rel hid⟩
  simp only [Instr.box, newVar, run_newRow, Sem.run_bind, Result.andThen_ok, Sem.run_pure]

/-- `n` cells after the pattern `z`. -/
def pat (z : List AV) (n : Nat) : List AV := (List.range n).map fun i => z.getD (i % z.length) .nilFunc
theorem pat_rel {z : List AV} {zs : Array Value} (hz : relL ρ z zs.toList) (h1 : z.all AV.isOne = true) (n : Nat) (hn : n = 0 ∨ 0 < z.length) :
    relL ρ (pat z n) ((Array.range n).map (zs[· % zs.size]!)).toList ∧ (pat z n).all AV.isOne = true := by
  have hl := relL_length hz
  simp only [Array.length_toList] at hl
  rcases hn with rfl | hn
  · simp [pat, relL]
  · have key : ∀ l : List Nat, relL ρ (l.map fun i => z.getD (i % z.length) .nilFunc) (l.map (zs[· % zs.size]!)) := by
      intro l
      induction l with
      | nil => simp [relL]
      | cons i l ih =>
        have hlt : i % z.length < z.length := Nat.mod_lt _ hn
        obtain ⟨v, hv, hi⟩ := relL_get hz (i % z.length) z[i % z.length] (List.getElem?_eq_getElem hlt)
        refine relL_cons ?_ ih
        have e1 : z.getD (i % z.length) .nilFunc = z[i % z.length] := by simp [List.getD_eq_getElem?_getD, List.getElem?_eq_getElem hlt]
        have e2 : zs[i % zs.size]! = v := by
          rw [hl]
          have : zs[i % z.length]? = some v := by simpa using hi
          simp [getElem!_def, this]
        show rel ρ (z.getD (i % z.length) .nilFunc) (zs[i % zs.size]!)
        rw [e1, e2]
        exact hv
    refine ⟨by simpa [pat] using key (List.range n), ?_⟩
    rw [List.all_eq_true] at h1 ⊢
    intro c hc
    simp only [pat, List.mem_map] at hc
    obtain ⟨i, _, rfl⟩ := hc
    have hlt : i % z.length < z.length := Nat.mod_lt _ hn
    simp only [List.getD_eq_getElem?_getD, List.getElem?_eq_getElem hlt, Option.getD_some]
    exact h1 _ (List.getElem_mem hlt)

def nBuildSlice (P : Program) (t : TypeId) (len : Nat) (parts : List (Nat × AV)) : Option NB := match P.underlying t with
  | some (.slice e) => (zeroL P e).bind fun z => if len * P.cellsOf e ≤ 16777216 ∧ 0 < z.length then
      (aFill (fun i => some (i * P.cellsOf e, P.cellsOf e)) (len * P.cellsOf e) (pat z (len * P.cellsOf e)) parts).map fun cs => ⟨cs, e, slTo len len⟩ else none
  | _ => none
theorem nBuildSlice_sound {t : TypeId} {len : Nat} {parts : List (Nat × AV)} {parts' : Array (Nat × Value)} {nb : NB} (hp : partsRel ρ parts parts'.toList)
    (hc : nBuildSlice P t len parts = some nb) : NBok P ρ w nb (Instr.buildSlice t len parts') := by
  unfold nBuildSlice at hc
  split at hc
  · rename_i e hu
    simp only [Option.bind_eq_some_iff] at hc
    obtain ⟨z, hz, hc⟩ := hc
    split at hc
    · rename_i hle
      simp only [Option.map_eq_some_iff] at hc
      obtain ⟨cs, hcs, rfl⟩ := hc
      obtain ⟨i, zv, hi, hzv, hzr, hz1⟩ := zeroL_sound (ρ := ρ) hz
      obtain ⟨hpr, hp1⟩ := pat_rel hzr hz1 (len * P.cellsOf e) (.inr hle.2)
      obtain ⟨arr, hf, hr, h1⟩ := aFill_sound hp hpr hp1 (by simp [pat]) hcs
      refine ⟨arr, .slice (some ⟨w.heap.size, 0, none⟩) len len, ?_, hr, h1, fun ρ' id hid => slTo_rel hid (Nat.le_refl _)⟩
      have hs : (sizeOf e).run P w = .ok (P.cellsOf e) w := by rw [run_sizeOf hi, cellsOf_of hi]
      have hle' : ¬ (len * P.cellsOf e > 2 ^ 24) := by have := hle.1; omega
      simp only [Instr.buildSlice, run_underlying hu, Sem.run_bind, Result.andThen_ok, hs, Sem.run_ite, if_neg hle', Sem.run_pure]
      by_cases h0 : len * P.cellsOf e = 0
      · rw [h0] at hf
        simp only [h0, if_true, Result.andThen_ok]
        have : ((Array.range 0).map fun x => (#[] : Array Value)[x % (#[] : Array Value).size]!) = (Array.range 0).map (zv.cells[· % zv.cells.size]!) := by simp
        rw [this, hf]
        simp [run_newRow]
      · simp only [if_neg h0, zeroValue, Sem.run_bind, run_typeInfo hi, hzv, Result.andThen_ok, Sem.run_pure, hf, run_newRow]
    · cases hc
  · cases hc

def nMakeSlice (P : Program) (t : TypeId) (l c : AV) : Option NB := match P.underlying t with
  | some (.slice e) => (P.info? e).bind fun i => (zeroL P e).bind fun z => (match l, c with
    | .int .i64 l, .int .i64 c => if 0 ≤ l ∧ l ≤ c ∧ (i.bytes : Int) * c ≤ 281474976710656 ∧ c ≤ 9223372036854775807 ∧ 0 < z.length then
        some ⟨pat z (c.toNat * P.cellsOf e), e, slTo l.toNat c.toNat⟩ else none
    | _, _ => none)
  | _ => none
theorem wrap_small {n : Int} (h0 : 0 ≤ n) (h : n ≤ 9223372036854775807) : IntKind.i64.wrap n = n := by
  rw [IntKind.wrap_i64]
  omega
theorem nMakeSlice_sound {t : TypeId} {l c : AV} {l' c' : Value} {nb : NB} (hl : rel ρ l l') (hcc : rel ρ c c')
    (hc : nMakeSlice P t l c = some nb) : NBok P ρ w nb (Instr.makeSlice t l' c') := by
  unfold nMakeSlice at hc
  split at hc
  · rename_i e hu
    simp only [Option.bind_eq_some_iff] at hc
    obtain ⟨i, hi, z, hz, hc⟩ := hc
    split at hc
    · rename_i l c
      split at hc
      · rename_i hcond
        obtain ⟨h0, h1, h2, h3, h4⟩ := hcond
        cases hc
        simp only [rel] at hl hcc
        subst hl hcc
        obtain ⟨i', zv, hi', hzv, hzr, hz1⟩ := zeroL_sound (ρ := ρ) hz
        rw [hi] at hi'
        cases hi'
        obtain ⟨hpr, hp1⟩ := pat_rel hzr hz1 (c.toNat * P.cellsOf e) (.inr h4)
        refine ⟨_, .slice (some ⟨w.heap.size, 0, none⟩) l.toNat c.toNat, ?_, hpr, hp1, fun ρ' id hid => slTo_rel hid (by omega)⟩
        have hs : (sizeOf e).run P w = .ok (P.cellsOf e) w := by rw [run_sizeOf hi, cellsOf_of hi]
        have w1 := wrap_small h0 (by omega)
        have w2 := wrap_small (n := c) (by omega) h3
        have hcond : (decide (c < 0) || decide ((i.bytes : Int) * c > 2 ^ 48) || decide (l < 0) || decide (l > c)) = false := by
          simp only [Bool.or_eq_false_iff, decide_eq_false_iff_not]
          omega
        simp only [Instr.makeSlice, run_underlying hu, Sem.run_bind, Result.andThen_ok, asInt, asIntOf, Sem.run_pure, run_typeInfo hi, w1, w2, hcond]
        simp only [Bool.false_eq_true, if_false, Result.andThen_ok, Sem.run_pure, Sem.run_bind]
        simp only [run_askRoom, Result.andThen_ok, hs]
        by_cases hz0 : c.toNat * P.cellsOf e = 0
        · simp only [hz0, if_true, Sem.run_pure, Sem.run_bind, Result.andThen_ok, run_newRow]
          have e1 : ((Array.range 0).map fun x => (#[] : Array Value)[x % (#[] : Array Value).size]!) = (Array.range 0).map (zv.cells[· % zv.cells.size]!) := by simp
          rw [e1]
        · simp only [if_neg hz0, zeroValue, Sem.run_bind, run_typeInfo hi, hzv, Result.andThen_ok, Sem.run_pure, run_newRow]
      · cases hc
    · cases hc
  · cases hc
end
end Go.Ri
