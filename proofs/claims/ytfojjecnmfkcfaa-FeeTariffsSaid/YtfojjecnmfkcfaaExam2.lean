/- What the examples about bills come to. -/
import Derived.Test.YtfojjecnmfkcfaaLits
import Derived.Test.YtfojjecnmfkcfaaOutbids
import Derived.Test.YtfojjecnmfkcfaaWorth
import Derived.Test.YtfojjecnmfkcfaaShMath
namespace Go.Proofs.Ytfojjecnmfkcfaa
set_option linter.unusedVariables false
def leastX : List (Int × Int × Int) := [(5, 0, 100), (3, 0, 100), (1, 20, 100)]
def mostX : List (Int × Int × Int) := [(5, 0, 40), (3, 0, 100), (1, 20, 100)]
theorem exShares : shareCode 100 threeX = 0 ∧ sharesL 100 threeX = [56, 33, 11] := by decide +kernel
theorem exBids : bidsCode 100 leastX = 0 ∧ bidsL 100 leastX = [50, 30, 20] ∧ bidsCode 100 mostX = 0 ∧ bidsL 100 mostX = [40, 40, 20] := by decide +kernel
theorem exOut : outCode 100 threeX [55, 34, 11] = 0 ∧ outL 100 threeX [55, 34, 11] = [(0, 1)] := by decide +kernel
theorem exAppeal : appealCode 100 threeX 0 4 = 0 ∧ appealL 100 threeX 0 4 = [50, 38, 12] ∧ appealD 100 threeX 0 4 = 6 := by decide +kernel
theorem exWorthCode : worthCode 100 threeX 0 50 = 0 := by decide +kernel
theorem threeX_ok : housesOk threeX := by
  refine ⟨by decide, ?_⟩
  intro s hs
  simp only [threeX, List.mem_cons, List.not_mem_nil, or_false] at hs
  rcases hs with rfl | rfl | rfl <;> decide
theorem exWorth {r : Int} (h : Between2 (worthSo 100 threeX 0 50) 0 1001 r) : r = 4 := by
  have hk : bidOk threeX 100 = true := by decide +kernel
  have h4 : worthSo 100 threeX 0 50 4 = true := by decide +kernel
  have h5 : worthSo 100 threeX 0 50 5 = false := by decide +kernel
  obtain ⟨a, b, c, d⟩ := h
  have mono : ∀ v v', 0 ≤ v → v ≤ v' → v' ≤ 1000 → worthSo 100 threeX 0 50 v' = true → worthSo 100 threeX 0 50 v = true := by
    intro v v' h1 h2 h3 h
    have hm := bids_mono threeX_ok (j := 0) (by decide) h1 h2 h3 hk
    unfold worthSo at h ⊢
    simp only [Bool.and_eq_true, decide_eq_true_eq] at h ⊢
    refine ⟨?_, by omega⟩
    rw [bidOk_iff (housesOk_reval threeX_ok (by decide) h1 (by omega)), leastSum_revalue _ _ _ (by decide), mostSum_revalue _ _ _ (by decide)]
    exact (bidOk_iff threeX_ok 100).1 hk
  by_cases h1 : r ≤ 3
  · have := mono (r + 1) 4 (by omega) (by omega) (by omega) h4
    rcases d with d | d
    · omega
    · rw [d] at this; cases this
  · by_cases h2 : 5 ≤ r
    · rcases c with c | c
      · omega
      · have := mono 5 r (by omega) h2 (by omega) c
        rw [h5] at this; cases this
    · omega
end Go.Proofs.Ytfojjecnmfkcfaa
