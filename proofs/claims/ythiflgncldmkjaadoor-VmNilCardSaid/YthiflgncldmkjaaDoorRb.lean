/- Reading, writing, making blocks: the abstract heap's steps are the model's. -/
import Derived.Test.YthiflgncldmkjaaDoorRa
set_option linter.unusedVariables false
set_option linter.unusedSimpArgs false
namespace Go.Ri

def AH.ld (H : AH) (p : Nat × Nat) : Option AV := (H.m p.1).bind fun B => B.cells[p.2]?
def AH.ldN (H : AH) (p : Nat × Nat) (n : Nat) : Option (List AV) :=
  (H.m p.1).bind fun B => if p.2 + n ≤ B.cells.length then some ((B.cells.drop p.2).take n) else none
def AH.st (H : AH) (p : Nat × Nat) (vs : List AV) : Option AH :=
  (H.m p.1).bind fun B => if B.rw_ = true ∧ p.2 + vs.length ≤ B.cells.length then
    some { H with m := setM H.m p.1 (some { B with cells := B.cells.take p.2 ++ vs ++ B.cells.drop (p.2 + vs.length) }) } else none
def AH.new (H : AH) (cells : List AV) (elem : TypeId) : AH := { m := setM H.m H.next (some ⟨cells, elem, true⟩), next := H.next + 1 }
def AH.kill (H : AH) (b : Nat) : AH := { H with m := setM H.m b none }

theorem add_at (g o j : Nat) : (⟨g, o, none⟩ : Addr).add j = ⟨g, o + j, none⟩ := by unfold Addr.add; split <;> simp_all

section
variable {P : Program} {ρ : Ro} {H : AH} {w : World}

theorem ld_sound (h : Sim P ρ H w) {b o : Nat} {c : AV} (hl : H.ld (b, o) = some c) :
    ∃ r v, ρ b = some r ∧ rel ρ c v ∧ w.cell? ⟨r.blk, r.base + o, none⟩ = some v ∧ c.isOne = true := by
  simp only [AH.ld, Option.bind_eq_some_iff] at hl
  obtain ⟨B, hB, hc⟩ := hl
  obtain ⟨r, cs, fr, vs, hr, hw, hs, hf, hv, hvl, hcs, h1⟩ := h.blk b B hB
  obtain ⟨v, hcv, hi⟩ := relL_get hv o c hc
  refine ⟨r, v, hr, hcv, ?_, ?_⟩
  · simp only [World.cell?, hw]
    simpa using hcs o v hi
  · exact List.all_eq_true.1 h1 c (List.mem_of_getElem? hc)

theorem ldN_sound (h : Sim P ρ H w) {b o n : Nat} {cs : List AV} (hl : H.ldN (b, o) n = some cs) :
    ∃ r vs, ρ b = some r ∧ relL ρ cs vs ∧ vs.length = n ∧ cs.length = n ∧ cs.all AV.isOne = true ∧
      (∀ j v, vs[j]? = some v → w.cell? ((⟨r.blk, r.base + o, none⟩ : Addr).add j) = some v) := by
  simp only [AH.ldN, Option.bind_eq_some_iff] at hl
  obtain ⟨B, hB, hc⟩ := hl
  split at hc
  · rename_i hle
    cases hc
    obtain ⟨r, cs, fr, vs, hr, hw, hs, hf, hv, hvl, hcs, h1⟩ := h.blk b B hB
    have hlen := relL_length hv
    refine ⟨r, (vs.drop o).take n, hr, relL_take n (relL_drop o hv), by simp; omega, by simp; omega, ?_, fun j v hj => ?_⟩
    · rw [List.all_eq_true] at h1 ⊢
      exact fun c hc => h1 c (List.mem_of_mem_drop (List.mem_of_mem_take hc))
    · rw [add_at]
      simp only [World.cell?, hw]
      rw [List.getElem?_take] at hj
      split at hj
      · rw [List.getElem?_drop] at hj
        have := hcs (o + j) v hj
        simpa [Nat.add_assoc] using this
      · cases hj
  · cases hc

theorem run_loadN (h : Sim P ρ H w) {b o n : Nat} {cs : List AV} (hl : H.ldN (b, o) n = some cs) :
    ∃ r vs, ρ b = some r ∧ relL ρ cs vs ∧ cs.length = n ∧ cs.all AV.isOne = true ∧ (loadCells ⟨r.blk, r.base + o, none⟩ n).run P w = .ok vs.toArray w := by
  obtain ⟨r, vs, hr, hc, hn, hn', h1, hcell⟩ := ldN_sound h hl
  refine ⟨r, vs, hr, hc, hn', h1, ?_⟩
  rw [← hn]
  exact run_loadCells_list w _ vs hcell

theorem getElem?_setRow (w : World) (g : Nat) (arr : Array Value) (i : Nat) (hne : i ≠ g) : (w.setRow g arr).heap[i]? = w.heap[i]? := by
  simp [World.setRow, Array.getElem?_modify, Ne.symm hne]

theorem st_sound (h : Sim P ρ H w) {b o : Nat} {vs : List AV} {H' : AH} (hst : H.st (b, o) vs = some H') {us : List Value} (hu : relL ρ vs us) (h1 : vs.all AV.isOne = true) :
    ∃ r w', ρ b = some r ∧ (storeCells ⟨r.blk, r.base + o, none⟩ us).run P w = .ok () w' ∧ Out P ρ H w ρ H' w' := by
  simp only [AH.st, Option.bind_eq_some_iff] at hst
  obtain ⟨B, hB, hc⟩ := hst
  split at hc
  · rename_i hle
    obtain ⟨hrw, hle⟩ := hle
    cases hc
    obtain ⟨r, cs, fr, ws, hr, hw, hs, hf, hv, hvl, hcs, hall⟩ := h.blk b B hB
    have hfr := hf hrw
    subst hfr
    have hlen := relL_length hv
    have hul := relL_length hu
    have hone : ∀ v ∈ us, v.oneCell' = true := fun v hvm => by
      obtain ⟨c, hc, hcv⟩ := relL_mem hu hvm
      exact oneCell_of_isOne hcv (List.all_eq_true.1 h1 c hc)
    have hrun := run_storeCells_at P r.blk (r.base + o) B.elem us 0 cs w hw (by omega) hone
    refine ⟨r, _, hr, hrun, ?_⟩
    have hlt : r.blk < w.heap.size := (Array.getElem?_eq_some_iff.1 hw).1
    have hself := setRow_heap w r.blk cs (cs.toList.take (r.base + o + 0) ++ us ++ cs.toList.drop (r.base + o + 0 + us.length)).toArray B.elem (0, 0) hw
    have hnew : relL ρ (B.cells.take o ++ vs ++ B.cells.drop (o + vs.length)) (ws.take o ++ us ++ ws.drop (o + us.length)) := by
      rw [hul]
      exact relL_append (relL_append (relL_take o hv) hu) (relL_drop _ hv)
    refine ⟨fun _ _ => rfl, Nat.le_refl _, ⟨fun b' B' hB' => ?_, ?_, h.fresh, h.glob⟩, rfl, rfl, rfl, by simp [World.setRow], fun i hi hfoot => ?_, ?_⟩
    · by_cases hbb : b' = b
      · subst hbb
        simp only [setM_same] at hB'
        cases hB'
        refine ⟨r, _, _, _, hr, hself, ?_, fun _ => rfl, hnew, ?_, fun i v hi => ?_, ?_⟩
        · simp; omega
        · simp; omega
        · simp only [List.getElem?_toArray]
          have hcl : cs.toList.length = cs.size := by simp
          rw [List.append_assoc, List.getElem?_append] at hi ⊢
          simp only [List.length_take, List.length_append, Nat.add_zero] at hi ⊢
          have e1 : min o ws.length = o := by omega
          have e2 : min (r.base + o) cs.toList.length = r.base + o := by omega
          rw [e1] at hi
          rw [e2]
          by_cases ho : i < o
          · rw [if_pos ho, List.getElem?_take, if_pos ho] at hi
            rw [if_pos (by omega), List.getElem?_take, if_pos (by omega)]
            simpa using hcs i v hi
          · rw [if_neg ho] at hi
            rw [if_neg (by omega)]
            rw [List.getElem?_append] at hi ⊢
            by_cases hu' : i - o < us.length
            · rw [if_pos hu'] at hi
              rw [if_pos (by omega)]
              rw [show r.base + i - (r.base + o) = i - o by omega]
              exact hi
            · rw [if_neg hu', List.getElem?_drop] at hi
              rw [if_neg (by omega), List.getElem?_drop]
              have := hcs _ v hi
              rw [show r.base + o + us.length + (r.base + i - (r.base + o) - us.length) = r.base + (o + us.length + (i - o - us.length)) by omega]
              simpa using this
        · simp only [List.all_append, Bool.and_eq_true]
          rw [List.all_eq_true] at hall
          refine ⟨⟨?_, h1⟩, ?_⟩
          · rw [List.all_eq_true]; exact fun c hc => hall c (List.mem_of_mem_take hc)
          · rw [List.all_eq_true]; exact fun c hc => hall c (List.mem_of_mem_drop hc)
      · simp only [setM_other _ _ hbb] at hB'
        obtain ⟨r', cs', fr', vs', g1, g2, g3⟩ := h.blk b' B' hB'
        refine ⟨r', cs', fr', vs', g1, ?_, g3⟩
        rw [getElem?_setRow]
        · exact g2
        · exact fun e => hbb (h.inj b' b B' B r' r hB' hB g1 hr e)
    · intro b1 b2 B1 B2 r1 r2 h1' h2' g1 g2 he
      have hs : ∀ b' B', setM H.m b (some { B with cells := B.cells.take o ++ vs ++ B.cells.drop (o + vs.length) }) b' = some B' → ∃ B0, H.m b' = some B0 := by
        intro b' B' hh
        by_cases hbb : b' = b
        · subst hbb; exact ⟨B, hB⟩
        · rw [setM_other _ _ hbb] at hh; exact ⟨B', hh⟩
      obtain ⟨C1, k1⟩ := hs b1 B1 h1'
      obtain ⟨C2, k2⟩ := hs b2 B2 h2'
      exact h.inj b1 b2 C1 C2 r1 r2 k1 k2 g1 g2 he
    · rw [getElem?_setRow]
      exact fun e => hfoot b B r hB hrw hr e.symm
    · intro b' B' r' hb' hr' hlt'
      by_cases hbb : b' = b
      · subst hbb
        exact ⟨b', B, r', hB, hr', rfl, fun _ => hrw⟩
      · simp only [setM_other _ _ hbb] at hb'
        exact ⟨b', B', r', hb', hr', rfl, id⟩
  · cases hc

/-- A block more under an id that is not in use. `more`: cells behind those that are known. -/
def AH.put (H : AH) (id : Nat) (B : Blk) : AH := { H with m := setM H.m id (some B) }
theorem newAt_sound (h : Sim P ρ H w) {id : Nat} {cells : List AV} {elem : TypeId} {us more : List Value} (hid : ρ id = none) (hin : id < H.next) (hu : relL ρ cells us) (h1 : cells.all AV.isOne = true) :
    (Ro.le ρ (fun b => if b = id then some ⟨w.heap.size, 0, (us ++ more).length⟩ else ρ b)) ∧
    Sim P (fun b => if b = id then some ⟨w.heap.size, 0, (us ++ more).length⟩ else ρ b) (H.put id ⟨cells, elem, true⟩) (w.alloc (.cells (us ++ more).toArray elem)) := by
  have hle : Ro.le ρ (fun b => if b = id then some ⟨w.heap.size, 0, (us ++ more).length⟩ else ρ b) := by
    intro b r hb
    have : b ≠ id := fun e => by
      subst e
      rw [hid] at hb
      cases hb
    simp [this, hb]
  have hlt : ∀ b B r, H.m b = some B → ρ b = some r → r.blk < w.heap.size := fun b B r hb hr => by
    obtain ⟨r', cs', fr', vs', g1, g2, g3⟩ := h.blk b B hb
    rw [hr] at g1
    cases g1
    exact (Array.getElem?_eq_some_iff.1 g2).1
  refine ⟨hle, ⟨fun b B hB => ?_, ?_, fun b hb => ?_, fun g hg => ?_⟩⟩
  · by_cases hbb : b = id
    · subst hbb
      simp only [AH.put, setM_same] at hB
      cases hB
      refine ⟨⟨w.heap.size, 0, (us ++ more).length⟩, (us ++ more).toArray, (0, 0), us, by simp, ?_, by simp, fun _ => rfl, relL_mono hle _ hu, by simp, fun i v hi => ?_, h1⟩
      · simp only [World.alloc]
        simp
      · simp only [Nat.zero_add, List.getElem?_toArray]
        rw [List.getElem?_append_left (List.getElem?_eq_some_iff.1 hi).1]
        exact hi
    · simp only [AH.put, setM_other _ _ hbb] at hB
      obtain ⟨r', cs', fr', vs', g1, g2, g3, g4, g5, g6⟩ := h.blk b B hB
      refine ⟨r', cs', fr', vs', hle _ _ g1, ?_, g3, g4, relL_mono hle _ g5, g6⟩
      have := (Array.getElem?_eq_some_iff.1 g2).1
      simp only [World.alloc, Array.getElem?_push]
      rw [if_neg (by omega)]
      exact g2
  · intro b1 b2 B1 B2 r1 r2 hb1 hb2 g1 g2 he
    by_cases e1 : b1 = id <;> by_cases e2 : b2 = id
    · rw [e1, e2]
    · subst e1
      simp only [AH.put, setM_other _ _ e2] at hb2
      simp only [e2, if_false, if_true] at g1 g2
      cases g1
      have := hlt b2 B2 r2 hb2 g2
      simp at he
      omega
    · subst e2
      simp only [AH.put, setM_other _ _ e1] at hb1
      simp only [e1, if_false, if_true] at g1 g2
      cases g2
      have := hlt b1 B1 r1 hb1 g1
      simp at he
      omega
    · simp only [AH.put, setM_other _ _ e1, setM_other _ _ e2] at hb1 hb2
      simp only [e1, e2, if_false] at g1 g2
      exact h.inj b1 b2 B1 B2 r1 r2 hb1 hb2 g1 g2 he
  · simp only [AH.put] at hb
    have : b ≠ id := by omega
    simp only [this, if_false]
    exact h.fresh b hb
  · obtain ⟨l, hg'⟩ := h.glob g hg
    exact ⟨l, hle _ _ hg'⟩

theorem Sim.more (h : Sim P ρ H w) {n : Nat} (hn : H.next ≤ n) : Sim P ρ { H with next := n } w := ⟨h.blk, h.inj, fun b hb => h.fresh b (Nat.le_trans hn hb), h.glob⟩

/-- A new block. `more`: cells behind those that are known. -/
theorem new_sound (h : Sim P ρ H w) {cells : List AV} {elem : TypeId} {us more : List Value} (hu : relL ρ cells us) (h1 : cells.all AV.isOne = true) :
    Out P ρ H w (fun b => if b = H.next then some ⟨w.heap.size, 0, (us ++ more).length⟩ else ρ b) (H.new cells elem) (w.alloc (.cells (us ++ more).toArray elem)) := by
  have hm := h.more (Nat.le_succ H.next)
  obtain ⟨hle, hs⟩ := newAt_sound (elem := elem) (more := more) hm (h.fresh _ (Nat.le_refl _)) (Nat.lt_succ_self _) hu h1
  refine ⟨fun b hb => by simp [Nat.ne_of_lt hb], Nat.le_succ _, hs, rfl, rfl, rfl, by simp, fun i hi _ => ?_, ?_⟩
  · simp only [World.alloc, Array.getElem?_push]
    rw [if_neg (by omega)]
  · intro b B r hb hr hl
    by_cases e1 : b = H.next
    · subst e1
      simp only [if_true] at hr
      cases hr
      simp at hl
    · simp only [AH.new, setM_other _ _ e1] at hb
      simp only [e1, if_false] at hr
      exact ⟨b, B, r, hb, hr, rfl, id⟩

/-- Forgetting blocks. -/
theorem kill_sound (h : Sim P ρ H w) (b : Nat) : Out P ρ H w ρ (H.kill b) w := by
  have hs : ∀ b' B', (H.kill b).m b' = some B' → H.m b' = some B' := fun b' B' hh => by
    by_cases hbb : b' = b
    · subst hbb; simp [AH.kill, setM_same] at hh
    · simpa [AH.kill, setM_other _ _ hbb] using hh
  exact ⟨fun _ _ => rfl, Nat.le_refl _, ⟨fun b' B' hB' => h.blk b' B' (hs _ _ hB'), fun b1 b2 B1 B2 r1 r2 h1 h2 => h.inj b1 b2 B1 B2 r1 r2 (hs _ _ h1) (hs _ _ h2), h.fresh, h.glob⟩, rfl, rfl, rfl, Nat.le_refl _,
    fun _ _ _ => rfl, fun b' B' r' hb' hr' _ => ⟨b', B', r', hs _ _ hb', hr', rfl, id⟩⟩

/-- A smaller heap, the same ids still to be given. -/
theorem Sim.sub (h : Sim P ρ H w) {H' : AH} (hn : H'.next = H.next) (hs : ∀ b B, H'.m b = some B → H.m b = some B) : Sim P ρ H' w :=
  ⟨fun b B hB => h.blk b B (hs _ _ hB), fun b1 b2 B1 B2 r1 r2 h1 h2 => h.inj b1 b2 B1 B2 r1 r2 (hs _ _ h1) (hs _ _ h2), fun b hb => h.fresh b (by omega), h.glob⟩
end
end Go.Ri
