/- What every row of this seat wants: the frame, the witness's world. -/
import Derived.Test.YthiflgncldmkjaaDoorTb
set_option linter.unusedVariables false
set_option linter.unusedSimpArgs false
set_option maxRecDepth 100000
namespace Go.Proofs.YthiflgncldmkjaaDoor
open Go.Ri Go.ChangeShapes Go.WideShapes Go.ChangeAt Go.RowKit

theorem below_of_out {P : Program} {W W' : World} {ρ' : Ro} {H' : AH} (hout : Out P (absRo W) (absH W) W ρ' H' W') : Below W.heap.size W W' := by
  refine ⟨hout.os, hout.tape, hout.output, hout.size, fun k hk => hout.keep k hk fun b B r hB hrw _ => ?_⟩
  simp only [absH] at hB
  split at hB
  · simp only [Option.map_eq_some_iff] at hB
    obtain ⟨l, _, rfl⟩ := hB
    simp at hrw
  · cases hB
theorem below_of_ok1 {P : Program} {f : FuncId} {g : List AV → AH → Option (AV × AH)} (hok : Ok1 P f g) {vs : List AV} {v : AV} {H1 : AH} {W : World} {us : List Value} (hg : P.globals.size ≤ W.heap.size)
    (hrun : g vs (absH W) = some (v, H1)) (hus : relL (absRo W) vs us) :
    Calls P f us.toArray W fun e W' => ∃ ρ' v', e = .returned v' ∧ rel ρ' v v' ∧ Below W.heap.size W W' := by
  obtain ⟨_, h⟩ := hok vs (absH W) v H1 hrun
  refine (h (absRo W) W us (absH_sim P hg) hus).mono ?_
  rintro e W' ⟨ρ', v', rfl, hr, hout⟩
  exact ⟨ρ', v', rfl, hr, below_of_out hout⟩

/-- The small heap of the two tables lies in any world that meets the rows' condition. -/
theorem small_sub {H : AH} (h : Tabs H) : ∃ e0 e1, ∀ b B, mTabs e0 e1 b = some B → H.m b = some B := by
  obtain ⟨⟨e0, h0⟩, ⟨e1, h1⟩, _⟩ := h
  refine ⟨e0, e1, fun b B hb => ?_⟩
  unfold mTabs at hb
  split at hb
  · rename_i e; subst e; rw [← hb]; exact h0
  · split at hb
    · rename_i e; subst e; rw [← hb]; exact h1
    · cases hb

theorem own : ownKnob Tryd.prog.godebug = none := by kernel_rfl
theorem under4 : Tryd.prog.underlying 4 = some .bool := by kernel_rfl

/-- A world for the witness: the tables hold what their initialisers lay. -/
def setCells (cs : Array Value) : Obj → Obj
  | .cells _ t frozen => .cells cs t frozen
  | o => o
noncomputable def laidWorld (os : Os) : World :=
  { World.holding Tryd.prog os ⟨#[], #[], []⟩ with heap := ((World.holding Tryd.prog os ⟨#[], #[], []⟩).heap.modify 0 (setCells wordsV.toArray)).modify 1 (setCells (stackN.map fun z => Value.int .i64 z).toArray) }
theorem laid_met (os : Os) (args : Array Value) : laidMet Tryd.prog laidTabs ((laidWorld os).forCall (fun _ _ => 0) ⟨#[], args, []⟩).memory :=
  laidMet_of_run' 8 (by kernel_rfl) (by kernel_rfl)
end Go.Proofs.YthiflgncldmkjaaDoor
