/- Costs by a tariff, program and reference: plain mathematics. -/
import Derived.Test.YtfojjecnmfkcfaaRefTar
namespace Go.Proofs.Ytfojjecnmfkcfaa
open Go.RowKit
theorem rises_next (b : Int) : ∀ (l : List Int), risesB b l = true → ∀ (k : Nat) (h : k + 1 < l.length), l[k] + b ≤ l[k + 1]
  | [], _, k, h => by simp at h
  | [_], _, k, h => by simp at h
  | x :: y :: l, hr, 0, h => by simp [risesB] at hr; exact hr.1
  | x :: y :: l, hr, k + 1, h => by
    simp [risesB] at hr
    have := rises_next b (y :: l) hr.2 k (by simpa using h)
    simpa using this
theorem rises_mono (b : Int) (hb : 0 ≤ b) (l : List Int) (hr : risesB b l = true) : ∀ (j i : Nat) (hj : j < l.length) (hi : i ≤ j), l[i] ≤ l[j] := by
  intro j
  induction j with
  | zero => intro i hj hi; obtain rfl : i = 0 := by omega
            exact Int.le_refl _
  | succ j ih =>
    intro i hj hi
    by_cases e : i = j + 1
    · subst e; exact Int.le_refl _
    · have h1 := ih i (by omega) (by omega)
      have h2 := rises_next b l hr j hj
      omega
def rawR (t : List (Int × Int)) : Nat → Int
  | 0 => 0
  | k + 1 => rawR t k + rateF t (k + 1 : Nat)
theorem costK_from (t : List (Int × Int)) (p : Int) : ∀ k, k ≤ t.length → (costK t p k).2 = if h : 0 < k ∧ k - 1 < t.length then (t[k - 1]'h.2).1 else 0 := by
  intro k hk
  cases k with
  | zero => simp [costK]
  | succ k => simp only [costK]; rw [dif_pos ⟨by omega, by omega⟩]; simp [List.getD_eq_getElem?_getD, List.getElem?_eq_getElem (show k < t.length by omega)]
theorem costK_step (t : List (Int × Int)) (hs : stepsOk t) (hr : risesB 1 (t.map (·.1)) = true) (p : Int) (h0 : 0 ≤ p) : ∀ k, k ≤ t.length → (k < t.length ∨ 0 < k) →
    (costK t (p + 1) k).1 - (costK t p k).1 = if k = t.length ∨ ∃ j, ∃ h : j < t.length, j < k ∧ p + 1 ≤ t[j].1 then rateF t (p + 1) else 0 := by
  intro k
  induction k with
  | zero => intro _ h; rw [if_neg (by rintro (e | ⟨j, h1, h2, h3⟩) <;> omega)]; simp [costK]
  | succ k ih =>
    intro hk _
    have hk' : k < t.length := by omega
    have IH := ih (by omega) (.inl hk')
    have hf := costK_from t p k (by omega)
    have hf2 := costK_snd t (p + 1) p k
    obtain ⟨u1, u2, u3, u4⟩ := hs t[k] (List.getElem_mem _)
    have hg : t.getD k (0, 0) = t[k] := by simp [List.getD_eq_getElem?_getD, List.getElem?_eq_getElem hk']
    simp only [costK, hg, hf2]
    have hmono : ∀ (i j : Nat) (hj : j < t.length) (hi : i ≤ j), (t[i]'(by omega)).1 ≤ t[j].1 := by
      intro i j hj hi
      have := rises_mono 1 (by omega) _ hr j i (by simpa using hj) hi
      simpa using this
    by_cases hex : ∃ j, ∃ h : j < t.length, j < k ∧ p + 1 ≤ t[j].1
    · obtain ⟨j, hj, hjk, hp⟩ := hex
      rw [if_pos (.inr ⟨j, hj, hjk, hp⟩)] at IH
      refine Eq.trans ?_ (if_pos (Or.inr ⟨j, hj, by omega, hp⟩)).symm
      have hfr : p + 1 ≤ (costK t p k).2 := by
        rw [hf, dif_pos ⟨by omega, by omega⟩]
        have := hmono j (k - 1) (by omega) (by omega)
        omega
      have z1 : max 0 ((if k + 1 = t.length then p + 1 else min (p + 1) t[k].1) - (costK t p k).2) = 0 := by split <;> omega
      have z2 : max 0 ((if k + 1 = t.length then p else min p t[k].1) - (costK t p k).2) = 0 := by split <;> omega
      rw [z1, z2]
      simp only [Int.zero_mul]
      omega
    · rw [if_neg (by rintro (e | h); · omega
                     · exact hex h)] at IH
      have hno : ∀ (j : Nat) (hj : j < k), ¬ p + 1 ≤ (t[j]'(by omega)).1 := fun j hj hp => hex ⟨j, by omega, hj, hp⟩
      have hfr : (costK t p k).2 ≤ p := by
        rw [hf]
        split
        · rename_i h
          have := hno (k - 1) (by omega)
          omega
        · exact h0
      by_cases hhit : p + 1 ≤ t[k].1
      · refine Eq.trans ?_ (if_pos (Or.inr ⟨k, hk', by omega, hhit⟩)).symm
        rw [rateF_hit (p + 1) t k hk' hno hhit]
        have z1 : (if k + 1 = t.length then p + 1 else min (p + 1) t[k].1) = p + 1 := by split <;> omega
        have z2 : (if k + 1 = t.length then p else min p t[k].1) = p := by split <;> omega
        rw [z1, z2, show max 0 (p + 1 - (costK t p k).2) = max 0 (p - (costK t p k).2) + 1 from by omega, Int.add_mul, Int.one_mul]
        omega
      · by_cases hla : k + 1 = t.length
        · refine Eq.trans ?_ (if_pos (Or.inl hla)).symm
          rw [rateF_last (p + 1) t (by omega) (fun j hj => by
            by_cases e : j = k
            · subst e; exact hhit
            · exact hno j (by omega))]
          have e : t[t.length - 1]'(by omega) = t[k] := by congr 1; omega
          rw [e, if_pos hla, if_pos hla, show max 0 (p + 1 - (costK t p k).2) = max 0 (p - (costK t p k).2) + 1 from by omega, Int.add_mul, Int.one_mul]
          omega
        · have hQ : ¬ (k + 1 = t.length ∨ ∃ j, ∃ h : j < t.length, j < k + 1 ∧ p + 1 ≤ t[j].1) := by
            rintro (e | ⟨j, hj, h1, h2⟩)
            · exact hla e
            · by_cases e : j = k
              · subst e; exact hhit h2
              · exact hno j (by omega) h2
          refine Eq.trans ?_ (if_neg hQ).symm
          rw [if_neg hla, if_neg hla, show min (p + 1) t[k].1 = min p t[k].1 from by omega]
          omega
theorem costK_zero (t : List (Int × Int)) (hs : stepsOk t) : ∀ k, k ≤ t.length → (costK t 0 k).1 = 0 := by
  intro k
  induction k with
  | zero => intro _; rfl
  | succ k ih =>
    intro hk
    have h := ih (by omega)
    have hb := costK_bd t 0 hs (by omega) (by omega) k (by omega)
    obtain ⟨u1, u2, u3, u4⟩ := hs t[k] (List.getElem_mem (by omega))
    have hg : t.getD k (0, 0) = t[k] := by simp [List.getD_eq_getElem?_getD, List.getElem?_eq_getElem (show k < t.length by omega)]
    simp only [costK, hg]
    have z : max 0 ((if k + 1 = t.length then 0 else min 0 t[k].1) - (costK t 0 k).2) = 0 := by split <;> omega
    rw [z, h]
    simp
theorem costK_raw (t : List (Int × Int)) (hs : stepsOk t) (hr : risesB 1 (t.map (·.1)) = true) (hl : 0 < t.length) : ∀ n : Nat, (costK t n t.length).1 = rawR t n := by
  intro n
  induction n with
  | zero => exact costK_zero t hs _ (Nat.le_refl _)
  | succ n ih =>
    have := costK_step t hs hr n (by omega) t.length (Nat.le_refl _) (.inr hl)
    rw [if_pos (.inl rfl)] at this
    simp only [rawR]
    have e : ((n + 1 : Nat) : Int) = (n : Int) + 1 := by omega
    rw [e]
    omega
theorem upF100_eq (n : Int) (_h : 0 ≤ n) : upF100 n = (n + 99) / 100 := by unfold upF100; split <;> omega
theorem costF_raw (t : List (Int × Int)) (hs : stepsOk t) (hr : risesB 1 (t.map (·.1)) = true) (hl : 0 < t.length) (n : Nat) (hn : n ≤ 20000) : costF t n = upF100 (rawR t n) := by
  have hb := costK_bd t n hs (by omega) (by omega) t.length (Nat.le_refl _)
  rw [← costK_raw t hs hr hl n, upF100_eq _ hb.1]; rfl
theorem rawR_bd (t : List (Int × Int)) (hs : stepsOk t) (hr : risesB 1 (t.map (·.1)) = true) (hl : 0 < t.length) (h4 : t.length ≤ 4) (n : Nat) (hn : n ≤ 20000) : 0 ≤ rawR t n ∧ rawR t n ≤ 40000000 := by
  have hb := costK_bd t n hs (by omega) (by omega) t.length (Nat.le_refl _)
  rw [costK_raw t hs hr hl n] at hb
  omega
end Go.Proofs.Ytfojjecnmfkcfaa
