/- Pennies that are poured: plain mathematics. -/
import Derived.Test.YtfojjecnmfkcfaaNext
namespace Go.Proofs.Ytfojjecnmfkcfaa
open Go.RowKit
set_option linter.unusedVariables false
/-- One penny more for a house. -/
def bump (ps : List Int) (j : Nat) : List Int := ps.set j (ps.getD j 0 + 1)
/-- At most n pennies more, each for the house that comes next. -/
def pour (hs : List (Int × Int × Int)) : Nat → List Int → List Int
  | 0, ps => ps
  | n + 1, ps => if bestK hs ps hs.length = -1 then ps else pour hs n (bump ps (bestK hs ps hs.length).toNat)
theorem bump_length (ps : List Int) (j : Nat) : (bump ps j).length = ps.length := by simp [bump]
theorem sum_set (ps : List Int) : ∀ (j : Nat) (v : Int), j < ps.length → (ps.set j v).sum = ps.sum - ps.getD j 0 + v := by
  induction ps with
  | nil => intro j v h; simp at h
  | cons a ps ih =>
    intro j v h
    cases j with
    | zero => simp; omega
    | succ j =>
      have := ih j v (by simpa using h)
      simp only [List.set_cons_succ, List.sum_cons, List.getD_cons_succ]
      rw [this]; omega
theorem bump_sum (ps : List Int) (j : Nat) (h : j < ps.length) : (bump ps j).sum = ps.sum + 1 := by
  unfold bump; rw [sum_set ps j _ h]; omega
theorem bestK_can (hs : List (Int × Int × Int)) (ps : List Int) : ∀ (k j : Nat), bestK hs ps k = j → canB hs ps j = true := by
  intro k
  induction k with
  | zero => intro j h; simp only [bestK] at h; omega
  | succ k ih =>
    intro j h
    simp only [bestK] at h
    split at h
    · rename_i h1
      obtain rfl : k = j := by omega
      simp only [Bool.and_eq_true] at h1
      exact h1.1
    · exact ih j h
/-- Pays that a desk may have. -/
def paysOk (hs : List (Int × Int × Int)) (ps : List Int) : Prop := ps.length = 6 ∧ ∀ j, 0 ≤ ps.getD j 0 ∧ ps.getD j 0 ≤ 500 
theorem paysOk_mem {hs : List (Int × Int × Int)} {ps : List Int} (h : paysOk hs ps) : ∀ x ∈ ps, 0 ≤ x ∧ x ≤ 600 := by
  intro x hx
  obtain ⟨i, hi, rfl⟩ := List.mem_iff_getElem.1 hx
  have := h.2 i
  rw [List.getD_eq_getElem?_getD, List.getElem?_eq_getElem hi] at this
  simp at this
  omega
theorem bump_getD (ps : List Int) (j i : Nat) (h : j < ps.length) : (bump ps j).getD i 0 = if i = j then ps.getD j 0 + 1 else ps.getD i 0 := by
  unfold bump
  rw [List.getD_eq_getElem?_getD, List.getElem?_set]
  by_cases e : j = i
  · subst e; simp [h]
  · rw [if_neg e, if_neg (fun h => e h.symm)]; simp [List.getD_eq_getElem?_getD]
theorem paysOk_bump {hs : List (Int × Int × Int)} (ho : housesOk hs) {ps : List Int} (h : paysOk hs ps) {j : Nat} (hj : j < hs.length) (hc : canB hs ps j = true) : paysOk hs (bump ps j) := by
  refine ⟨by rw [bump_length]; exact h.1, fun i => ?_⟩
  have hl := ho.1
  rw [bump_getD ps j i (by rw [h.1]; omega)]
  split
  · have h1 := h.2 j
    unfold canB at hc
    rw [decide_eq_true_eq, List.getD_eq_getElem?_getD (l := hs), List.getElem?_eq_getElem hj, Option.getD_some] at hc
    have := ho.2 hs[j] (List.getElem_mem _)
    omega
  · exact h.2 i
theorem Desk.bump {w : World} {g : Nat} {p : Int} {A : Option Addr} {n c : Nat} {ps : List Int} (h : Desk w g p A n c ps) {j : Nat} (hj : j < 6) (v : Int) : Desk (w.setCell ⟨g, 2 + j, none⟩ (.int .i64 v)) g p A n c (ps.set j v) := by
  have hat := h.at_ hj
  refine ⟨by simpa [World.setCell] using h.lt, ?_, ?_, by rw [List.length_set]; exact h.len, fun i u hu => ?_, fun o => by rw [World.frozen?_setCell]; exact h.free o⟩
  · rw [World.cell?_setCell_other _ _ _ _ (by intro e; injection e; omega)]; exact h.pence
  · rw [World.cell?_setCell_other _ _ _ _ (by intro e; injection e; omega)]; exact h.houses
  · rw [List.getElem?_set] at hu
    by_cases e : j = i
    · subst e
      rw [if_pos rfl, if_pos (by rw [h.len]; exact hj)] at hu
      cases hu
      exact World.cell?_setCell_same' _ _ _ (by rw [hat]; rfl)
    · rw [if_neg e] at hu
      rw [World.cell?_setCell_other _ _ _ _ (by intro e'; injection e'; omega)]
      exact h.pays i u hu
end Go.Proofs.Ytfojjecnmfkcfaa
