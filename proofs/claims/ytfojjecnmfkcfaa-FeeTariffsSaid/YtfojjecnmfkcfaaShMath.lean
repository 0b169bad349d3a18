/- The shares by remainders: plain mathematics. -/
import Derived.Test.YtfojjecnmfkcfaaSort2
import Derived.Test.YtfojjecnmfkcfaaOrder
namespace Go.Proofs.Ytfojjecnmfkcfaa
open Go.RowKit
set_option linter.unusedVariables false
def floorOf (p : Int) (hs : List (Int × Int × Int)) (i : Nat) : Int := p * (hs.getD i (0, 0, 0)).1 / valueSum hs
def floorsK (p : Int) (hs : List (Int × Int × Int)) (k : Nat) : List Int := (List.range 6).map fun i => if i < k then floorOf p hs i else 0
theorem floorsK_len (p : Int) (hs : List (Int × Int × Int)) (k : Nat) : (floorsK p hs k).length = 6 := by simp [floorsK]
theorem floorsK_get (p : Int) (hs : List (Int × Int × Int)) (k i : Nat) : (floorsK p hs k).getD i 0 = if i < 6 ∧ i < k then floorOf p hs i else 0 := by
  unfold floorsK
  by_cases h : i < 6
  · simp [List.getD_eq_getElem?_getD, h]
  · simp [List.getD_eq_getElem?_getD, h]
theorem floorsK_zero (p : Int) (hs : List (Int × Int × Int)) : floorsK p hs 0 = [0, 0, 0, 0, 0, 0] := by simp [floorsK, List.range, List.range.loop]
theorem floorsK_set (p : Int) (hs : List (Int × Int × Int)) (k : Nat) (h6 : k < 6) : (floorsK p hs k).set k (floorOf p hs k) = floorsK p hs (k + 1) := by
  apply List.ext_getElem
  · simp [floorsK]
  · intro i h1 h2
    rw [List.getElem_set]
    simp only [floorsK, List.getElem_map, List.getElem_range]
    by_cases e : k = i
    · subst e
      rw [if_pos rfl, if_pos (Nat.lt_succ_self k)]
    · rw [if_neg e]
      by_cases h3 : i < k
      · rw [if_pos h3, if_pos (by omega)]
      · rw [if_neg h3, if_neg (by omega)]
/-- The sum of what is rounded down, and what is left. -/
theorem floors_list (p T : Int) (hT : 0 < T) (hp : 0 ≤ p) : ∀ l : List (Int × Int × Int), (∀ x ∈ l, 0 ≤ x.1) →
    T * (l.map fun x => p * x.1 / T).sum + (l.map fun x => p * x.1 % T).sum = p * (l.map (·.1)).sum ∧ 0 ≤ (l.map fun x => p * x.1 / T).sum ∧ 0 ≤ (l.map fun x => p * x.1 % T).sum ∧ (l.map fun x => p * x.1 % T).sum ≤ T * l.length
  | [], _ => by simp
  | x :: l, h => by
    obtain ⟨i1, i2, i3, i4⟩ := floors_list p T hT hp l (fun y hy => h y (List.mem_cons_of_mem _ hy))
    have h1 := Int.mul_ediv_add_emod (p * x.1) T
    have h2 := Int.emod_nonneg (p * x.1) (Int.ne_of_gt hT)
    have h3 := Int.emod_lt_of_pos (p * x.1) hT
    have h4 : 0 ≤ p * x.1 / T := Int.ediv_nonneg (Int.mul_nonneg hp (h x List.mem_cons_self)) (Int.le_of_lt hT)
    simp only [List.map_cons, List.sum_cons, List.length_cons]
    refine ⟨?_, by omega, by omega, ?_⟩
    · rw [Int.mul_add, Int.mul_add]; omega
    · have : T * ((l.length + 1 : Nat) : Int) = T * l.length + T := by
        rw [Int.natCast_add, Int.mul_add]; simp
      omega
theorem floors_sum (p : Int) (hs : List (Int × Int × Int)) (h6 : hs.length ≤ 6) : (floorsK p hs hs.length).sum = (hs.map fun x => p * x.1 / valueSum hs).sum := by
  have e : floorsK p hs hs.length = (hs.map fun x => p * x.1 / valueSum hs) ++ List.replicate (6 - hs.length) 0 := by
    apply List.ext_getElem
    · simp [floorsK]; omega
    · intro i h1 h2
      simp only [floorsK, List.getElem_map, List.getElem_range]
      by_cases h3 : i < hs.length
      · rw [if_pos h3, List.getElem_append_left (by simpa using h3)]
        simp [floorOf, List.getD_eq_getElem?_getD, List.getElem?_eq_getElem h3]
      · rw [if_neg h3, List.getElem_append_right (by simpa using h3)]
        simp
  rw [e, List.sum_append]
  have : ∀ n : Nat, (List.replicate n (0 : Int)).sum = 0 := fun n => by induction n with
    | zero => rfl
    | succ n ih => rw [List.replicate_succ, List.sum_cons, ih]; rfl
  rw [this]; simp
theorem floors_bd {p : Int} {hs : List (Int × Int × Int)} (ho : housesOk hs) (h0 : valueSum hs ≠ 0) (hp : 0 ≤ p) : 0 ≤ (floorsK p hs hs.length).sum ∧ (floorsK p hs hs.length).sum ≤ p ∧ p ≤ (floorsK p hs hs.length).sum + hs.length := by
  obtain ⟨hT, _⟩ := valueSum_pos ho h0
  rw [floors_sum p hs ho.1]
  obtain ⟨a1, a2, a3, a4⟩ := floors_list p (valueSum hs) hT hp hs (fun x hx => (ho.2 x hx).1)
  have e : (hs.map (·.1)).sum = valueSum hs := rfl
  rw [e] at a1
  generalize (hs.map fun x => p * x.1 / valueSum hs).sum = S at *
  generalize (hs.map fun x => p * x.1 % valueSum hs).sum = R at *
  generalize valueSum hs = T at *
  have b1 : T * (p - S) = R := by rw [Int.mul_sub, Int.mul_comm T p]; omega
  refine ⟨a2, ?_, ?_⟩
  · by_cases h : S ≤ p
    · exact h
    · exfalso
      have : T * (p - S) < 0 := Int.mul_neg_of_pos_of_neg hT (by omega)
      omega
  · by_cases h : p - S ≤ hs.length
    · omega
    · exfalso
      have : T * (hs.length : Int) < T * (p - S) := Int.mul_lt_mul_of_pos_left (by omega) hT
      omega
theorem floor_get_bd {p : Int} {hs : List (Int × Int × Int)} (ho : housesOk hs) (h0 : valueSum hs ≠ 0) (hp : 0 ≤ p) (i : Nat) : 0 ≤ floorOf p hs i ∧ floorOf p hs i ≤ p := by
  obtain ⟨hT, _⟩ := valueSum_pos ho h0
  obtain ⟨v1, v2⟩ := hV_nonneg ho i
  have hv : (hs.getD i (0, 0, 0)).1 ≤ valueSum hs := by
    by_cases h : i < hs.length
    · have e : hs.getD i (0, 0, 0) = hs[i] := by simp [List.getD_eq_getElem?_getD, List.getElem?_eq_getElem h]
      rw [e]
      have h1 := map_take_sum hs i h
      have h2 := valueSum_bd hs ho i
      have h3 : (hs.map (·.1)).sum = ((hs.map (·.1)).take (i + 1)).sum + ((hs.map (·.1)).drop (i + 1)).sum := by rw [← List.sum_append, List.take_append_drop]
      have h4 : 0 ≤ ((hs.map (·.1)).drop (i + 1)).sum := by
        have : ∀ l : List Int, (∀ x ∈ l, 0 ≤ x) → 0 ≤ l.sum := fun l => by
          induction l with
          | nil => simp
          | cons a l ih => intro h; have := ih (fun x hx => h x (List.mem_cons_of_mem _ hx)); have := h a List.mem_cons_self; simp only [List.sum_cons]; omega
        refine this _ fun x hx => ?_
        obtain ⟨y, hy, rfl⟩ := List.mem_map.1 (List.mem_of_mem_drop hx)
        exact (ho.2 y hy).1
      have : valueSum hs = (hs.map (·.1)).sum := rfl
      omega
    · rw [List.getD_eq_getElem?_getD, List.getElem?_eq_none (by omega)]; simp; omega
  unfold floorOf hV at *
  refine ⟨Int.ediv_nonneg (Int.mul_nonneg hp v1) (Int.le_of_lt hT), ?_⟩
  refine Int.le_trans (Int.ediv_le_ediv hT (Int.mul_le_mul_of_nonneg_left hv hp)) ?_
  rw [Int.mul_ediv_cancel _ (Int.ne_of_gt hT)]
  exact Int.le_refl _
/-- Houses that pay one more. -/
def bumps (ps : List Int) (l : List Int) : List Int := l.foldl (fun ps h => bump ps h.toNat) ps
theorem bumps_snoc (ps : List Int) (l : List Int) (j : Nat) (h : j < l.length) : bumps ps (l.take (j + 1)) = bump (bumps ps (l.take j)) l[j].toNat := by
  unfold bumps; rw [List.take_succ_eq_append_getElem h, List.foldl_append]; rfl
theorem bumps_len (ps : List Int) : ∀ l : List Int, (bumps ps l).length = ps.length := by
  intro l
  induction l generalizing ps with
  | nil => rfl
  | cons a l ih => show (bumps (bump ps a.toNat) l).length = _; rw [ih]; simp [bump]
theorem bumps_bd {ps : List Int} {M : Int} (h6 : ps.length = 6) (h : ∀ i, 0 ≤ ps.getD i 0 ∧ ps.getD i 0 ≤ M) (l : List Int) : ∀ j, j ≤ l.length → ∀ i, 0 ≤ (bumps ps (l.take j)).getD i 0 ∧ (bumps ps (l.take j)).getD i 0 ≤ M + j
  | 0, _, i => by simpa [bumps] using h i
  | j + 1, hj, i => by
    have ih := bumps_bd h6 h l j (by omega)
    have i1 := ih i
    have i2 := ih l[j].toNat
    rw [bumps_snoc ps l j (by omega)]
    by_cases hl : l[j].toNat < 6
    · rw [bump_getD _ _ _ (by rw [bumps_len, h6]; exact hl)]
      split <;> omega
    · have e : bump (bumps ps (l.take j)) l[j].toNat = bumps ps (l.take j) := by
        unfold bump; rw [List.set_eq_of_length_le (by rw [bumps_len, h6]; omega)]
      rw [e]; omega
def idxL (n : Nat) : List Int := (List.range n).map fun (i : Nat) => (i : Int)
theorem insI_length (lt : Int → Int → Bool) : ∀ (j : Nat) (d : List Int), (insI lt j d).length = d.length
  | 0, d => rfl
  | j + 1, d => by
    rw [insI]
    split
    · rw [insI_length lt j, swapL_length]
    · rfl
theorem insI_mem (lt : Int → Int → Bool) : ∀ (j : Nat) (d : List Int), j < d.length → ∀ x ∈ insI lt j d, x ∈ d
  | 0, d, _, x, hx => hx
  | j + 1, d, hj, x, hx => by
    rw [insI] at hx
    split at hx
    · exact swapL_mem hj x (insI_mem lt j (swapL d j) (by rw [swapL_length]; omega) x hx)
    · exact hx
theorem insO_length (lt : Int → Int → Bool) : ∀ (f i : Nat) (d : List Int), (insO lt f i d).length = d.length
  | 0, _, _ => rfl
  | f + 1, i, d => by simp only [insO]; rw [insO_length lt f, insI_length]
theorem insO_mem (lt : Int → Int → Bool) : ∀ (f i : Nat) (d : List Int), i + f ≤ d.length → ∀ x ∈ insO lt f i d, x ∈ d
  | 0, _, _, _, x, hx => hx
  | f + 1, i, d, h, x, hx => insI_mem lt i d (by omega) x (insO_mem lt f (i + 1) (insI lt i d) (by rw [insI_length]; omega) x hx)
theorem insSort_length (lt : Int → Int → Bool) (d : List Int) : (insSort lt d).length = d.length := insO_length _ _ _ _
theorem insSort_mem (lt : Int → Int → Bool) (d : List Int) (h : 1 ≤ d.length) : ∀ x ∈ insSort lt d, x ∈ d := insO_mem _ _ _ _ (by omega)
theorem idxL_mem {n : Nat} : ∀ x ∈ idxL n, ∃ i : Nat, x = i ∧ i < n := by
  intro x hx
  unfold idxL at hx
  obtain ⟨i, hi, rfl⟩ := List.mem_map.1 hx
  exact ⟨i, rfl, List.mem_range.1 hi⟩
def byRem (p : Int) (hs : List (Int × Int × Int)) : List Int := insSort (ltRem p hs) (idxL hs.length)
def sharesPs (p : Int) (hs : List (Int × Int × Int)) : List Int := bumps (floorsK p hs hs.length) ((byRem p hs).take (p - (floorsK p hs hs.length).sum).toNat)
def shareCode (p : Int) (hs : List (Int × Int × Int)) : Int := if ckBill p hs = 0 then (if valueSum hs = 0 then 1 else 0) else ckBill p hs
def sharesL (p : Int) (hs : List (Int × Int × Int)) : List Int := if shareCode p hs = 0 then (sharesPs p hs).take hs.length else []
end Go.Proofs.Ytfojjecnmfkcfaa
