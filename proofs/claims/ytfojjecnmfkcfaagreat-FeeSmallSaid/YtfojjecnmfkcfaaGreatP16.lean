/- The greatest Value with which a house pays no more: plain mathematics. -/
import Derived.Test.YtfojjecnmfkcfaaGreatP14
namespace Go.Proofs.YtfojjecnmfkcfaaGreat
open Go.RowKit
set_option linter.unusedVariables false
theorem WorthPost.form {p : Int} {hs : List (Int × Int × Int)} {house pence : Int} {W W' : World} {e : Ending} (h : WorthPost p hs house pence W e W') :
    ∃ r, e = .returned (.tuple #[.int .i64 r, .int .i64 (worthCode p hs house pence)]) ∧ Below W.heap.size W W' ∧ (worthCode p hs house pence = 0 → Between2 (worthSo p hs house.toNat pence) 0 1001 r) ∧ (worthCode p hs house pence ≠ 0 → r = 0) := by
  obtain ⟨hb, ⟨h0, r, he, hr⟩ | ⟨h0, he⟩⟩ := h
  · exact ⟨r, by rw [h0]; exact he, hb, fun _ => hr, fun h => absurd h0 h⟩
  · exact ⟨0, he, hb, fun h => absurd h h0, fun _ => rfl⟩
theorem worthSo_mono {p : Int} {hs : List (Int × Int × Int)} (ho : housesOk hs) {j : Nat} (hj : j < hs.length) (hk : bidOk hs p = true) {pence a b : Int} (h0 : 0 ≤ a) (hab : a ≤ b) (hb : b ≤ 1000) (h : worthSo p hs j pence b = true) : worthSo p hs j pence a = true := by
  rw [worthSo_eq (bidOk_reval ho hj (by omega) hb hk)] at h
  rw [worthSo_eq (bidOk_reval ho hj h0 (by omega) hk)]
  have := bids_mono ho hj h0 hab hb hk
  have h2 := of_decide_eq_true h
  exact decide_eq_true (by omega)
theorem worth_unique {p : Int} {hs : List (Int × Int × Int)} (ho : housesOk hs) {j : Nat} (hj : j < hs.length) (hk : bidOk hs p = true) {pence r1 r2 : Int} (h1 : Between2 (worthSo p hs j pence) 0 1001 r1) (h2 : Between2 (worthSo p hs j pence) 0 1001 r2) : r1 = r2 := by
  have key : ∀ r1 r2, Between2 (worthSo p hs j pence) 0 1001 r1 → Between2 (worthSo p hs j pence) 0 1001 r2 → ¬ r1 < r2 := by
    intro r1 r2 ⟨a1, a2, a3, a4⟩ ⟨b1, b2, b3, b4⟩ hlt
    have h3 : worthSo p hs j pence r2 = true := by
      rcases b3 with h | h
      · omega
      · exact h
    have h4 := worthSo_mono ho hj hk (a := r1 + 1) (b := r2) (by omega) (by omega) (by omega) h3
    rcases a4 with h | h
    · omega
    · rw [h4] at h; cases h
  have k1 := key r1 r2 h1 h2
  have k2 := key r2 r1 h2 h1
  omega
theorem worth_same {p : Int} {hs : List (Int × Int × Int)} {house pence r1 r2 : Int} (h1 : worthCode p hs house pence = 0 → Between2 (worthSo p hs house.toNat pence) 0 1001 r1) (h2 : worthCode p hs house pence ≠ 0 → r1 = 0)
    (h3 : worthCode p hs house pence = 0 → Between2 (worthSo p hs house.toNat pence) 0 1001 r2) (h4 : worthCode p hs house pence ≠ 0 → r2 = 0) : r1 = r2 := by
  by_cases h : worthCode p hs house pence = 0
  · have ha : askCode p hs house (decide (0 ≤ pence)) = 0 := by
      by_cases h' : askCode p hs house (decide (0 ≤ pence)) = 0
      · exact h'
      · unfold worthCode at h; rw [if_neg h'] at h; exact absurd h h'
    obtain ⟨k1, k2, k3, _, k5⟩ := askCode_ok ha
    exact worth_unique (housesOk_of k1) (by omega) k5 (h1 h) (h3 h)
  · rw [h2 h, h4 h]
end Go.Proofs.YtfojjecnmfkcfaaGreat
