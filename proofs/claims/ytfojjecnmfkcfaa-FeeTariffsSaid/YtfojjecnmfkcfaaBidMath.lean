/- Sums of shares by bids: plain mathematics. -/
import Derived.Test.YtfojjecnmfkcfaaAsk
namespace Go.Proofs.Ytfojjecnmfkcfaa
open Go.RowKit
set_option linter.unusedVariables false
/-- A number of each house, as six. -/
def pad6 (f : Int × Int × Int → Int) (hs : List (Int × Int × Int)) : List Int := (List.range 6).map fun i => if i < hs.length then f (hs.getD i (0, 0, 0)) else 0
theorem pad6_sum (f : Int × Int × Int → Int) (hs : List (Int × Int × Int)) (hl : hs.length ≤ 6) : (pad6 f hs).sum = (hs.map f).sum := by
  have h6 : List.range 6 = [0, 1, 2, 3, 4, 5] := rfl
  unfold pad6
  rw [h6]
  match hs, hl with
  | [], _ => simp
  | [a], _ => simp
  | [a, b], _ => simp
  | [a, b, c], _ => simp
  | [a, b, c, d], _ => simp
  | [a, b, c, d, e], _ => simp
  | [a, b, c, d, e, g], _ => simp
  | _ :: _ :: _ :: _ :: _ :: _ :: _ :: _, h => simp at h
theorem pad6_len (f : Int × Int × Int → Int) (hs : List (Int × Int × Int)) : (pad6 f hs).length = 6 := by simp [pad6]
theorem pad6_get (f : Int × Int × Int → Int) (hs : List (Int × Int × Int)) (i : Nat) (hl : hs.length ≤ 6) : (pad6 f hs).getD i 0 = if i < hs.length then f (hs.getD i (0, 0, 0)) else 0 := by
  unfold pad6
  rw [List.getD_eq_getElem?_getD, List.getElem?_map]
  by_cases h : i < 6
  · rw [List.getElem?_range h]; simp
  · have h2 : ¬ i < hs.length := by omega
    rw [List.getElem?_eq_none (by simp; omega), if_neg h2]; rfl
theorem leastsK_pad (hs : List (Int × Int × Int)) : leastsK hs hs.length = pad6 (·.2.1) hs := rfl
def leastSum (hs : List (Int × Int × Int)) : Int := (hs.map (·.2.1)).sum
def mostSum (hs : List (Int × Int × Int)) : Int := (hs.map (·.2.2)).sum
theorem sum_le_of (a b : List Int) (hl : a.length = b.length) (h : ∀ i, a.getD i 0 ≤ b.getD i 0) : a.sum ≤ b.sum := by
  induction a generalizing b with
  | nil => match b, hl with
    | [], _ => simp
  | cons x a ih =>
    match b, hl with
    | y :: b, hl =>
      have h0 := h 0
      have := ih b (by simpa using hl) (fun i => by simpa using h (i + 1))
      simp at h0
      simp; omega
theorem ext_of (a b : List Int) (hl : a.length = b.length) (h : ∀ i, a.getD i 0 = b.getD i 0) : a = b := by
  apply List.ext_getElem hl
  intro i h1 h2
  have := h i
  rwa [List.getD_eq_getElem?_getD, List.getD_eq_getElem?_getD, List.getElem?_eq_getElem h1, List.getElem?_eq_getElem h2] at this
/-- Pays within what houses pay at least and at most. -/
def fits (hs : List (Int × Int × Int)) (ps : List Int) : Prop := ps.length = 6 ∧ ∀ i, (pad6 (·.2.1) hs).getD i 0 ≤ ps.getD i 0 ∧ ps.getD i 0 ≤ (pad6 (·.2.2) hs).getD i 0
theorem fits_leasts {hs : List (Int × Int × Int)} (ho : housesOk hs) : fits hs (leastsK hs hs.length) := by
  refine ⟨leastsK_len _ _, fun i => ⟨Int.le_refl _, ?_⟩⟩
  rw [leastsK_pad, pad6_get _ _ _ ho.1, pad6_get _ _ _ ho.1]
  split
  · rename_i h
    rw [List.getD_eq_getElem?_getD, List.getElem?_eq_getElem h, Option.getD_some]
    have := ho.2 hs[i] (List.getElem_mem _)
    omega
  · omega
theorem fits_bump {hs : List (Int × Int × Int)} (ho : housesOk hs) {ps : List Int} (h : fits hs ps) {j : Nat} (hj : j < hs.length) (hc : canB hs ps j = true) : fits hs (bump ps j) := by
  have hl := ho.1
  refine ⟨by rw [bump_length]; exact h.1, fun i => ?_⟩
  rw [bump_getD ps j i (by rw [h.1]; omega)]
  have := h.2 i
  split
  · rename_i e
    subst e
    have h2 := h.2 i
    rw [pad6_get _ _ _ hl, pad6_get _ _ _ hl, if_pos hj, if_pos hj] at h2 ⊢
    unfold canB at hc
    rw [decide_eq_true_eq] at hc
    omega
  · exact this
theorem fits_pour {hs : List (Int × Int × Int)} (ho : housesOk hs) : ∀ (n : Nat) (ps : List Int), fits hs ps → fits hs (pour hs n ps) := by
  intro n
  induction n with
  | zero => intro ps h; exact h
  | succ n ih =>
    intro ps h
    simp only [pour]
    split
    · exact h
    · rename_i hb
      rcases bestK_cases hs ps hs.length with h1 | ⟨j, hj, h1⟩
      · exact absurd h1 hb
      · rw [h1, Int.toNat_natCast]
        exact ih _ (fits_bump ho h hj (bestK_can hs ps _ j h1))
theorem fits_sum {hs : List (Int × Int × Int)} (ho : housesOk hs) {ps : List Int} (h : fits hs ps) : leastSum hs ≤ ps.sum ∧ ps.sum ≤ mostSum hs := by
  have a := sum_le_of (pad6 (·.2.1) hs) ps (by rw [pad6_len, h.1]) (fun i => (h.2 i).1)
  have b := sum_le_of ps (pad6 (·.2.2) hs) (by rw [pad6_len, h.1]) (fun i => (h.2 i).2)
  rw [pad6_sum _ _ ho.1] at a b
  exact ⟨a, b⟩
theorem bestK_none (hs : List (Int × Int × Int)) (ps : List Int) : ∀ k, bestK hs ps k = -1 → ∀ j, j < k → canB hs ps j = false := by
  intro k
  induction k with
  | zero => intro _ j hj; omega
  | succ k ih =>
    intro h j hj
    simp only [bestK] at h
    split at h
    · omega
    · rename_i hc
      by_cases e : j = k
      · subst e
        rw [h] at hc
        simpa using hc
      · exact ih h j (by omega)
theorem full_sum {hs : List (Int × Int × Int)} (ho : housesOk hs) {ps : List Int} (h : fits hs ps) (hb : bestK hs ps hs.length = -1) : ps.sum = mostSum hs := by
  have e : ps = pad6 (·.2.2) hs := by
    refine ext_of _ _ (by rw [pad6_len, h.1]) fun i => ?_
    have h2 := h.2 i
    by_cases hi : i < hs.length
    · have := bestK_none hs ps _ hb i hi
      unfold canB at this
      rw [decide_eq_false_iff_not] at this
      rw [pad6_get _ _ _ ho.1, pad6_get _ _ _ ho.1, if_pos hi, if_pos hi] at h2
      rw [pad6_get _ _ _ ho.1, if_pos hi]
      omega
    · rw [pad6_get _ _ _ ho.1, pad6_get _ _ _ ho.1, if_neg hi, if_neg hi] at h2
      rw [pad6_get _ _ _ ho.1, if_neg hi]
      omega
  rw [e, pad6_sum _ _ ho.1]; rfl
theorem pour_sum {hs : List (Int × Int × Int)} (ho : housesOk hs) : ∀ (n : Nat) (ps : List Int), fits hs ps → ps.sum + n ≤ mostSum hs → (pour hs n ps).sum = ps.sum + n := by
  intro n
  induction n with
  | zero => intro ps _ _; simp [pour]
  | succ n ih =>
    intro ps h hle
    simp only [pour]
    split
    · rename_i hb
      have := full_sum ho h hb
      omega
    · rename_i hb
      rcases bestK_cases hs ps hs.length with h1 | ⟨j, hj, h1⟩
      · exact absurd h1 hb
      · rw [h1, Int.toNat_natCast]
        have hl := ho.1
        have hbs := bump_sum ps j (by rw [h.1]; omega)
        rw [ih _ (fits_bump ho h hj (bestK_can hs ps _ j h1)) (by omega), hbs]
        omega
theorem bidOk_iff {hs : List (Int × Int × Int)} (ho : housesOk hs) (p : Int) : bidOk hs p = true ↔ leastSum hs ≤ p ∧ p ≤ mostSum hs := by
  have hf := fits_leasts ho
  have hL : (leastsK hs hs.length).sum = leastSum hs := by rw [leastsK_pad]; exact pad6_sum _ _ ho.1
  have hs2 := fits_sum ho (fits_pour ho (p - (leastsK hs hs.length).sum).toNat _ hf)
  unfold bidOk bidPs
  rw [beq_iff_eq]
  constructor
  · intro h
    omega
  · intro ⟨h1, h2⟩
    rw [pour_sum ho _ _ hf (by omega)]
    omega
theorem revalue_map (f : Int × Int → Int) (hs : List (Int × Int × Int)) (j : Nat) (v : Int) (hj : j < hs.length) : (revalue hs j v).map (fun x => f x.2) = hs.map (fun x => f x.2) := by
  unfold revalue
  rw [List.map_set]
  have e : f ((hs.getD j (0, 0, 0)).2.1, (hs.getD j (0, 0, 0)).2.2) = (hs.map (fun x => f x.2))[j]'(by simpa using hj) := by
    simp [List.getD_eq_getElem?_getD, List.getElem?_eq_getElem hj]
  show (hs.map (fun x => f x.2)).set j (f ((hs.getD j (0, 0, 0)).2.1, (hs.getD j (0, 0, 0)).2.2)) = _
  rw [e, List.set_getElem_self]
theorem leastSum_revalue (hs : List (Int × Int × Int)) (j : Nat) (v : Int) (hj : j < hs.length) : leastSum (revalue hs j v) = leastSum hs := by
  unfold leastSum; rw [revalue_map (·.1) hs j v hj]
theorem mostSum_revalue (hs : List (Int × Int × Int)) (j : Nat) (v : Int) (hj : j < hs.length) : mostSum (revalue hs j v) = mostSum hs := by
  unfold mostSum; rw [revalue_map (·.2) hs j v hj]
end Go.Proofs.Ytfojjecnmfkcfaa
