/- Fixed calls, run by the kernel. -/
import Derived.Test.YthiflgncldmkjaaDoorTa
set_option linter.unusedVariables false
set_option maxRecDepth 100000
namespace Go.Proofs.YthiflgncldmkjaaDoor
open Go.Ri
def mTabs (e0 e1 : TypeId) : Nat → Option Blk := fun b => if b = 0 then some ⟨wordsA, e0, false⟩ else if b = 1 then some ⟨stackA, e1, false⟩ else none
def saysTrue : Option (AV × AH) → Bool
  | some (.bool true, _) => true
  | _ => false
theorem saysTrue_some {x : Option (AV × AH)} (h : saysTrue x = true) : ∃ H1, x = some (.bool true, H1) := by
  unfold saysTrue at h
  split at h
  · exact ⟨_, rfl⟩
  · cases h
theorem wordsA_flat : wordsA.all flat = true := by decide
theorem stackA_flat : stackA.all flat = true := by decide
theorem mTabs_ok (e0 e1 : TypeId) : ∀ b B, mTabs e0 e1 b = some B → b < 2 ∧ B.rw_ = false ∧ B.cells.all flat = true := by
  intro b B h
  unfold mTabs at h
  split at h
  · cases h; exact ⟨by omega, rfl, wordsA_flat⟩
  · split at h
    · cases h; exact ⟨by omega, rfl, stackA_flat⟩
    · cases h
theorem run18 (k : Int) (e0 e1 : TypeId) : saysTrue (aCall Tryd.prog (drawB Tryd.prog) 60 18 [.int .i64 k] ⟨mTabs e0 e1, 2⟩) = true := by kernel_rfl
end Go.Proofs.YthiflgncldmkjaaDoor
