/- What the examples come to. -/
import Derived.Test.YtfojjecnmfkcfaaLits
import Derived.Test.YtfojjecnmfkcfaaPounds2
import Derived.Test.YtfojjecnmfkcfaaLate
import Derived.Test.YtfojjecnmfkcfaaDue
namespace Go.Proofs.Ytfojjecnmfkcfaa
set_option linter.unusedVariables false
theorem exCost : costRes tarX 1251 = 576 ∧ costCode tarX 1251 = 0 := by decide +kernel
theorem tarX_ok : stepsOk tarX := by
  intro s hs
  simp only [tarX, List.mem_cons, List.not_mem_nil, or_false] at hs
  rcases hs with rfl | rfl <;> decide
theorem exPounds : poundsRes tarX 575 = 1250 ∧ poundsCode tarX 575 = 0 := by
  have hc : poundsCode tarX 575 = 0 := by decide +kernel
  refine ⟨?_, hc⟩
  unfold poundsRes
  rw [if_pos hc]
  refine (poundsF_of tarX_ok ⟨by omega, by omega, .inr ?_, .inr ?_⟩).symm
  · decide +kernel
  · decide +kernel
theorem exPaid : ckAcc chX payX 10 5 = 0 ∧ paidR chX payX 10 5 = [25, -1] := by decide +kernel
theorem exLate : datedCode chX payX 10 5 31 = 0 ∧ lateL chX payX 10 5 31 = [0, 1] ∧ lateCost chX payX 10 5 31 = 9 := by decide +kernel
theorem exDue : datedCode chX payX 10 5 30 = 0 ∧ dueR chX payX 10 5 30 = 30 := by decide +kernel
end Go.Proofs.Ytfojjecnmfkcfaa
