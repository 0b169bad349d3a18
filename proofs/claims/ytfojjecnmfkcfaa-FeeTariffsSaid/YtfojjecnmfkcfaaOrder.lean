/- The order of pennies: which penny of which house comes first; a state in which no house outbids another one is the only one of its sum. Plain mathematics. -/
import Derived.Test.YtfojjecnmfkcfaaBidMath
namespace Go.Proofs.Ytfojjecnmfkcfaa
open Go.RowKit
set_option linter.unusedVariables false
def hV (hs : List (Int × Int × Int)) (i : Nat) : Int := (hs.getD i (0, 0, 0)).1
def hL (hs : List (Int × Int × Int)) (i : Nat) : Int := (hs.getD i (0, 0, 0)).2.1
def hM (hs : List (Int × Int × Int)) (i : Nat) : Int := (hs.getD i (0, 0, 0)).2.2
theorem hV_nonneg {hs : List (Int × Int × Int)} (ho : housesOk hs) (i : Nat) : 0 ≤ hV hs i ∧ hV hs i ≤ 1000 := by
  unfold hV
  by_cases h : i < hs.length
  · rw [List.getD_eq_getElem?_getD, List.getElem?_eq_getElem h, Option.getD_some]
    have := ho.2 hs[i] (List.getElem_mem _)
    omega
  · rw [List.getD_eq_getElem?_getD, List.getElem?_eq_none (by omega)]; simp
theorem hL_bd {hs : List (Int × Int × Int)} (ho : housesOk hs) (i : Nat) : 0 ≤ hL hs i ∧ hL hs i ≤ hM hs i ∧ hM hs i ≤ 500 := by
  unfold hL hM
  by_cases h : i < hs.length
  · rw [List.getD_eq_getElem?_getD, List.getElem?_eq_getElem h, Option.getD_some]
    have := ho.2 hs[i] (List.getElem_mem _)
    omega
  · rw [List.getD_eq_getElem?_getD, List.getElem?_eq_none (by omega)]; simp
/-- The penny number a of a house of value v comes before the penny number b of one of value u: by fractions, then by indexes. -/
def slotLt (v : Int) (i : Nat) (a : Int) (u : Int) (k : Nat) (b : Int) : Prop := u * a < v * b ∨ (u * a = v * b ∧ i < k)
instance (v : Int) (i : Nat) (a : Int) (u : Int) (k : Nat) (b : Int) : Decidable (slotLt v i a u k b) := by unfold slotLt; infer_instance
theorem slot_total {v : Int} {i : Nat} {a : Int} {u : Int} {k : Nat} {b : Int} (h : i ≠ k) (hn : ¬ slotLt v i a u k b) : slotLt u k b v i a := by
  unfold slotLt at hn ⊢
  by_cases h1 : v * b < u * a
  · exact .inl h1
  · right
    refine ⟨by omega, ?_⟩
    by_cases h2 : i < k
    · exact absurd (.inr ⟨by omega, h2⟩) hn
    · omega
theorem slot_irrefl (v : Int) (i : Nat) (a : Int) : ¬ slotLt v i a v i a := by unfold slotLt; omega
theorem slot_trans {v u t : Int} {i k j : Nat} {a b c : Int} (ha : 1 ≤ a) (hb : 1 ≤ b) (hc : 1 ≤ c) (hv : 0 ≤ v) (hu : 0 ≤ u) (ht : 0 ≤ t) (h1 : slotLt v i a u k b) (h2 : slotLt u k b t j c) : slotLt v i a t j c := by
  unfold slotLt at *
  -- u a ≤ v b, t b ≤ u c: t a b ≤ u c a ≤ v b c
  have e1 : t * a * b = t * b * a := by rw [Int.mul_assoc, Int.mul_comm a b, ← Int.mul_assoc]
  have e2 : u * c * a = u * a * c := by rw [Int.mul_assoc, Int.mul_comm c a, ← Int.mul_assoc]
  have e3 : v * b * c = v * c * b := by rw [Int.mul_assoc, Int.mul_comm b c, ← Int.mul_assoc]
  have l1 : t * b * a ≤ u * c * a := Int.mul_le_mul_of_nonneg_right (by omega) (by omega)
  have l2 : u * a * c ≤ v * b * c := Int.mul_le_mul_of_nonneg_right (by omega) (by omega)
  rcases h1 with h1 | ⟨h1, h1'⟩
  · left
    have s2 : u * a * c < v * b * c := Int.mul_lt_mul_of_pos_right h1 (by omega)
    exact Int.lt_of_mul_lt_mul_right (a := b) (by omega) (by omega)
  · rcases h2 with h2 | ⟨h2, h2'⟩
    · left
      have s1 : t * b * a < u * c * a := Int.mul_lt_mul_of_pos_right h2 (by omega)
      exact Int.lt_of_mul_lt_mul_right (a := b) (by omega) (by omega)
    · right
      refine ⟨?_, by omega⟩
      have q1 : t * b * a = u * c * a := by rw [h2]
      have q2 : u * a * c = v * b * c := by rw [h1]
      exact Int.eq_of_mul_eq_mul_right (a := b) (by omega) (by omega)
theorem slot_mono_l {v u : Int} {i k : Nat} {a a' b : Int} (hu : 0 ≤ u) (haa : a ≤ a') (h : slotLt v i a' u k b) : slotLt v i a u k b := by
  unfold slotLt at *
  have := Int.mul_le_mul_of_nonneg_left haa hu
  omega
theorem slot_mono_r {v u : Int} {i k : Nat} {a b b' : Int} (hv : 0 ≤ v) (hbb : b ≤ b') (h : slotLt v i a u k b) : slotLt v i a u k b' := by
  unfold slotLt at *
  have := Int.mul_le_mul_of_nonneg_left hbb hv
  omega
/-- No house outbids another one. -/
def Still (hs : List (Int × Int × Int)) (ps : List Int) : Prop :=
  ∀ i k, i < hs.length → k < hs.length → i ≠ k → ps.getD i 0 < hM hs i → hL hs k < ps.getD k 0 → ¬ slotLt (hV hs i) i (ps.getD i 0 + 1) (hV hs k) k (ps.getD k 0)
theorem bestK_best {hs : List (Int × Int × Int)} (ho : housesOk hs) {ps : List Int} (h0 : ∀ i, 0 ≤ ps.getD i 0) : ∀ (k b : Nat), bestK hs ps k = b → ∀ j, j < k → j ≠ b → canB hs ps j = true → slotLt (hV hs b) b (ps.getD b 0 + 1) (hV hs j) j (ps.getD j 0 + 1) := by
  intro k
  induction k with
  | zero => intro b _ j hj; omega
  | succ k ih =>
    intro b hb j hj hne hc
    simp only [bestK] at hb
    split at hb
    · rename_i hk
      obtain rfl : k = b := by omega
      simp only [Bool.and_eq_true, Bool.or_eq_true, beq_iff_eq] at hk
      have hjk : j < k := by omega
      rcases hk.2 with hn | hbf
      · have := bestK_none hs ps k hn j hjk
        rw [this] at hc; cases hc
      · rcases bestK_cases hs ps k with h1 | ⟨b', hb', h1⟩
        · have := bestK_none hs ps k h1 j hjk
          rw [this] at hc; cases hc
        · rw [h1, Int.toNat_natCast] at hbf
          have hs1 : slotLt (hV hs k) k (ps.getD k 0 + 1) (hV hs b') b' (ps.getD b' 0 + 1) := by
            left
            unfold befo at hbf
            rw [decide_eq_true_eq] at hbf
            exact hbf
          by_cases e : j = b'
          · subst e; exact hs1
          · have := ih b' h1 j hjk e hc
            have a1 := h0 k
            have a2 := h0 b'
            have a3 := h0 j
            exact slot_trans (by omega) (by omega) (by omega) (hV_nonneg ho _).1 (hV_nonneg ho _).1 (hV_nonneg ho _).1 hs1 this
    · rename_i hk
      by_cases e : j = k
      · subst e
        have hbj : b < j := by
          rcases bestK_cases hs ps j with h1 | ⟨b', hb', h1⟩
          · omega
          · omega
        rw [hc] at hk
        simp only [Bool.true_and, Bool.or_eq_true, not_or, beq_iff_eq] at hk
        have h2 := hk.2
        rw [hb, Int.toNat_natCast] at h2
        unfold befo at h2
        simp only [decide_eq_true_eq] at h2
        unfold slotLt hV
        omega
      · exact ih b hb j (by omega) hne hc
theorem hL_pad {hs : List (Int × Int × Int)} (ho : housesOk hs) (i : Nat) (hi : i < hs.length) : (pad6 (·.2.1) hs).getD i 0 = hL hs i ∧ (pad6 (·.2.2) hs).getD i 0 = hM hs i := by
  rw [pad6_get _ _ _ ho.1, pad6_get _ _ _ ho.1, if_pos hi, if_pos hi]; exact ⟨rfl, rfl⟩
theorem fits_at {hs : List (Int × Int × Int)} (ho : housesOk hs) {ps : List Int} (h : fits hs ps) (i : Nat) (hi : i < hs.length) : hL hs i ≤ ps.getD i 0 ∧ ps.getD i 0 ≤ hM hs i := by
  have := h.2 i
  rwa [(hL_pad ho i hi).1, (hL_pad ho i hi).2] at this
theorem fits_out {hs : List (Int × Int × Int)} (ho : housesOk hs) {ps : List Int} (h : fits hs ps) (i : Nat) (hi : hs.length ≤ i) : ps.getD i 0 = 0 := by
  have := h.2 i
  rw [pad6_get _ _ _ ho.1, pad6_get _ _ _ ho.1, if_neg (by omega), if_neg (by omega)] at this
  omega
theorem fits_nonneg {hs : List (Int × Int × Int)} (ho : housesOk hs) {ps : List Int} (h : fits hs ps) (i : Nat) : 0 ≤ ps.getD i 0 := by
  by_cases hi : i < hs.length
  · have := fits_at ho h i hi; have := hL_bd ho i; omega
  · rw [fits_out ho h i (by omega)]; omega
theorem still_leasts {hs : List (Int × Int × Int)} (ho : housesOk hs) : Still hs (leastsK hs hs.length) := by
  intro i k hi hk _ _ h
  rw [leastsK_pad, (hL_pad ho k hk).1] at h
  omega
theorem still_bump {hs : List (Int × Int × Int)} (ho : housesOk hs) {ps : List Int} (hf : fits hs ps) (h : Still hs ps) {b : Nat} (hb : bestK hs ps hs.length = b) (hbl : b < hs.length) : Still hs (bump ps b) := by
  have hl := ho.1
  have h6 : b < ps.length := by rw [hf.1]; omega
  have h0 := fits_nonneg ho hf
  intro i k hi hk hne h1 h2 h3
  rw [bump_getD _ _ _ h6] at h1 h2 h3
  rw [bump_getD _ _ _ h6] at h3
  by_cases ei : i = b
  · subst ei
    rw [if_pos rfl] at h1 h3
    rw [if_neg (fun e => hne e.symm)] at h2 h3
    exact h i k hi hk hne (by omega) h2 (slot_mono_l (hV_nonneg ho _).1 (by omega) h3)
  · rw [if_neg ei] at h1 h3
    by_cases ek : k = b
    · subst ek
      rw [if_pos rfl] at h2 h3
      have hc : canB hs ps i = true := by unfold canB; rw [decide_eq_true_eq]; exact h1
      have := bestK_best ho h0 _ _ hb i hi hne hc
      have a1 := h0 i
      have a2 := h0 k
      exact slot_irrefl _ _ _ (slot_trans (by omega) (by omega) (by omega) (hV_nonneg ho _).1 (hV_nonneg ho _).1 (hV_nonneg ho _).1 h3 this)
    · rw [if_neg ek] at h2 h3
      exact h i k hi hk hne h1 h2 h3
theorem still_pour {hs : List (Int × Int × Int)} (ho : housesOk hs) : ∀ (n : Nat) (ps : List Int), fits hs ps → Still hs ps → Still hs (pour hs n ps) := by
  intro n
  induction n with
  | zero => intro ps _ h; exact h
  | succ n ih =>
    intro ps hf h
    simp only [pour]
    split
    · exact h
    · rename_i hb
      rcases bestK_cases hs ps hs.length with h1 | ⟨j, hj, h1⟩
      · exact absurd h1 hb
      · rw [h1, Int.toNat_natCast]
        exact ih _ (fits_bump ho hf hj (bestK_can hs ps _ j h1)) (still_bump ho hf h h1 hj)
theorem sum_eq_of_le (a b : List Int) (hl : a.length = b.length) (h : ∀ i, a.getD i 0 ≤ b.getD i 0) (hs : a.sum = b.sum) : a = b := by
  induction a generalizing b with
  | nil => match b, hl with
    | [], _ => rfl
  | cons x a ih =>
    match b, hl with
    | y :: b, hl =>
      have h0 := h 0
      have h' : ∀ i, a.getD i 0 ≤ b.getD i 0 := fun i => by simpa using h (i + 1)
      have := sum_le_of a b (by simpa using hl) h'
      simp at h0 hs
      have e : x = y := by omega
      rw [e, ih b (by simpa using hl) h' (by omega)]
theorem some_more {a b : List Int} (hl : a.length = b.length) (hs : a.sum = b.sum) (hne : a ≠ b) : ∃ i, b.getD i 0 < a.getD i 0 := by
  by_cases h : ∃ i, b.getD i 0 < a.getD i 0
  · exact h
  · exact absurd (sum_eq_of_le a b hl (fun i => by by_cases h2 : a.getD i 0 ≤ b.getD i 0; exact h2; exact absurd ⟨i, by omega⟩ h) hs) hne
/-- Where one pays more, and another one less, in a second state without outbidding: values, too, may differ. -/
theorem still_cross {hs ks : List (Int × Int × Int)} {P Q : List Int} (ho : housesOk hs) (ho' : housesOk ks) (hlen : hs.length = ks.length) (hP : Still hs P) (hQ : Still ks Q) (fP : fits hs P) (fQ : fits ks Q)
    {i k : Nat} (hi : i < hs.length) (hk : k < hs.length) (h1 : Q.getD i 0 < P.getD i 0) (h2 : P.getD k 0 < Q.getD k 0)
    (hLi : hL hs i ≤ hL ks i) (hMk : hM ks k ≤ hM hs k) (hLk : hL ks k ≤ hL hs k) (hMi : hM hs i ≤ hM ks i) (hVi : hV hs i ≤ hV ks i) (hVk : hV ks k ≤ hV hs k) : False := by
  have hne : i ≠ k := by rintro rfl; omega
  have fPi := fits_at ho fP i hi
  have fPk := fits_at ho fP k hk
  have fQi := fits_at ho' fQ i (by omega)
  have fQk := fits_at ho' fQ k (by omega)
  have n1 := hP k i hk hi (fun e => hne e.symm) (by omega) (by omega)
  have n2 := hQ i k (by omega) (by omega) hne (by omega) (by omega)
  have t1 := slot_total (fun e => hne e.symm) n1
  have t2 := slot_total hne n2
  have bi := hL_bd ho i
  have bk := hL_bd ho k
  have bi' := hL_bd ho' i
  have bk' := hL_bd ho' k
  -- t1: slotLt (hV hs i) i P_i (hV hs k) k (P_k+1); t2: slotLt (hV ks k) k Q_k (hV ks i) i (Q_i + 1)
  unfold slotLt at t1 t2
  have a1 : hV hs i * (P.getD k 0 + 1) ≤ hV ks i * (P.getD k 0 + 1) := Int.mul_le_mul_of_nonneg_right hVi (by omega)
  have a2 : hV ks i * (P.getD k 0 + 1) ≤ hV ks i * Q.getD k 0 := Int.mul_le_mul_of_nonneg_left (by omega) (hV_nonneg ho' i).1
  have a3 : hV ks k * (Q.getD i 0 + 1) ≤ hV hs k * (Q.getD i 0 + 1) := Int.mul_le_mul_of_nonneg_right hVk (by omega)
  have a4 : hV hs k * (Q.getD i 0 + 1) ≤ hV hs k * P.getD i 0 := Int.mul_le_mul_of_nonneg_left (by omega) (hV_nonneg ho k).1
  omega
theorem still_unique {hs : List (Int × Int × Int)} (ho : housesOk hs) {P Q : List Int} (fP : fits hs P) (fQ : fits hs Q) (hP : Still hs P) (hQ : Still hs Q) (h : P.sum = Q.sum) : P = Q := by
  by_cases e : P = Q
  · exact e
  · exfalso
    obtain ⟨i, hi⟩ := some_more (by rw [fP.1, fQ.1]) h e
    obtain ⟨k, hk⟩ := some_more (by rw [fP.1, fQ.1]) h.symm (fun e' => e e'.symm)
    have hil : i < hs.length := by
      by_cases hh : i < hs.length
      · exact hh
      · rw [fits_out ho fP i (by omega), fits_out ho fQ i (by omega)] at hi; omega
    have hkl : k < hs.length := by
      by_cases hh : k < hs.length
      · exact hh
      · rw [fits_out ho fP k (by omega), fits_out ho fQ k (by omega)] at hk; omega
    exact still_cross ho ho rfl hP hQ fP fQ hil hkl hi hk (by omega) (by omega) (by omega) (by omega) (by omega) (by omega)
theorem bidPs_fits {hs : List (Int × Int × Int)} (ho : housesOk hs) (p : Int) : fits hs (bidPs hs p) := fits_pour ho _ _ (fits_leasts ho)
theorem bidPs_still {hs : List (Int × Int × Int)} (ho : housesOk hs) (p : Int) : Still hs (bidPs hs p) := still_pour ho _ _ (fits_leasts ho) (still_leasts ho)
theorem bidPs_sum {hs : List (Int × Int × Int)} {p : Int} (h : bidOk hs p = true) : (bidPs hs p).sum = p := by
  unfold bidOk at h; exact beq_iff_eq.1 h
/-- A state without outbidding, of the sum of the bill, is that of bids. -/
theorem bids_unique {hs : List (Int × Int × Int)} (ho : housesOk hs) {p : Int} (hk : bidOk hs p = true) {Q : List Int} (fQ : fits hs Q) (hQ : Still hs Q) (h : Q.sum = p) : Q = bidPs hs p :=
  still_unique ho fQ (bidPs_fits ho p) hQ (bidPs_still ho p) (by rw [h, bidPs_sum hk])
theorem housesOk_reval {hs : List (Int × Int × Int)} (ho : housesOk hs) {j : Nat} (hj : j < hs.length) {v : Int} (h1 : 0 ≤ v) (h2 : v ≤ 1000) : housesOk (revalue hs j v) := by
  refine ⟨by rw [revalue_length]; exact ho.1, fun x hx => ?_⟩
  rcases List.mem_or_eq_of_mem_set hx with h | h
  · exact ho.2 x h
  · subst h
    rw [List.getD_eq_getElem?_getD, List.getElem?_eq_getElem hj, Option.getD_some]
    have := ho.2 hs[j] (List.getElem_mem _)
    exact ⟨h1, h2, this.2.2⟩
theorem revalue_getD {hs : List (Int × Int × Int)} {j : Nat} (hj : j < hs.length) (v : Int) (i : Nat) : (revalue hs j v).getD i (0, 0, 0) = if i = j then (v, hL hs j, hM hs j) else hs.getD i (0, 0, 0) := by
  unfold revalue hL hM
  rw [List.getD_eq_getElem?_getD, List.getElem?_set]
  by_cases e : j = i
  · subst e; simp [hj]
  · rw [if_neg e, if_neg (fun h => e h.symm)]; simp [List.getD_eq_getElem?_getD]
/-- A house with a greater Value pays no less. -/
theorem bids_mono {hs : List (Int × Int × Int)} (ho : housesOk hs) {j : Nat} (hj : j < hs.length) {p v v' : Int} (h1 : 0 ≤ v) (hvv : v ≤ v') (h2 : v' ≤ 1000) (hk : bidOk hs p = true) :
    (bidPs (revalue hs j v) p).getD j 0 ≤ (bidPs (revalue hs j v') p).getD j 0 := by
  have o1 := housesOk_reval ho hj h1 (show v ≤ 1000 by omega)
  have o2 := housesOk_reval ho hj (show 0 ≤ v' by omega) h2
  have k0 := (bidOk_iff ho p).1 hk
  have k1 : bidOk (revalue hs j v) p = true := (bidOk_iff o1 p).2 (by rw [leastSum_revalue _ _ _ hj, mostSum_revalue _ _ _ hj]; exact k0)
  have k2 : bidOk (revalue hs j v') p = true := (bidOk_iff o2 p).2 (by rw [leastSum_revalue _ _ _ hj, mostSum_revalue _ _ _ hj]; exact k0)
  have f1 := bidPs_fits o1 p
  have f2 := bidPs_fits o2 p
  have s1 := bidPs_sum k1
  have s2 := bidPs_sum k2
  have t1 := bidPs_still o1 p
  have t2 := bidPs_still o2 p
  revert f1 f2 s1 s2 t1 t2
  generalize bidPs (revalue hs j v) p = P
  generalize bidPs (revalue hs j v') p = Q
  intro f1 f2 s1 s2 t1 t2
  by_cases hle : P.getD j 0 ≤ Q.getD j 0
  · exact hle
  · exfalso
    have hne : P ≠ Q := by rintro rfl; omega
    obtain ⟨k, hk⟩ := some_more (by rw [f1.1, f2.1]) (by rw [s1, s2]) (fun e => hne e.symm)
    have hkj : k ≠ j := by rintro rfl; omega
    have hkl : k < hs.length := by
      by_cases hh : k < hs.length
      · exact hh
      · rw [fits_out o1 f1 k (by rw [revalue_length]; omega), fits_out o2 f2 k (by rw [revalue_length]; omega)] at hk; omega
    have e1 := revalue_getD (hs := hs) hj v
    have e2 := revalue_getD (hs := hs) hj v'
    refine still_cross o1 o2 (by rw [revalue_length, revalue_length]) t1 t2 f1 f2 (i := j) (k := k) (by rw [revalue_length]; exact hj) (by rw [revalue_length]; exact hkl) (by omega) hk ?_ ?_ ?_ ?_ ?_ ?_ <;> simp only [hL, hM, hV, e1, e2] <;> simp [hkj, hvv]
/-- No other house pays more. -/
theorem bids_mono_other {hs : List (Int × Int × Int)} (ho : housesOk hs) {j : Nat} (hj : j < hs.length) {p v v' : Int} (h1 : 0 ≤ v) (hvv : v ≤ v') (h2 : v' ≤ 1000) (hk : bidOk hs p = true) {i : Nat} (hij : i ≠ j) :
    (bidPs (revalue hs j v') p).getD i 0 ≤ (bidPs (revalue hs j v) p).getD i 0 := by
  have hm := bids_mono ho hj h1 hvv h2 hk
  have o1 := housesOk_reval ho hj h1 (show v ≤ 1000 by omega)
  have o2 := housesOk_reval ho hj (show 0 ≤ v' by omega) h2
  have k0 := (bidOk_iff ho p).1 hk
  have k1 : bidOk (revalue hs j v) p = true := (bidOk_iff o1 p).2 (by rw [leastSum_revalue _ _ _ hj, mostSum_revalue _ _ _ hj]; exact k0)
  have k2 : bidOk (revalue hs j v') p = true := (bidOk_iff o2 p).2 (by rw [leastSum_revalue _ _ _ hj, mostSum_revalue _ _ _ hj]; exact k0)
  have f1 := bidPs_fits o1 p
  have f2 := bidPs_fits o2 p
  have s1 := bidPs_sum k1
  have s2 := bidPs_sum k2
  have t1 := bidPs_still o1 p
  have t2 := bidPs_still o2 p
  revert hm f1 f2 s1 s2 t1 t2
  generalize bidPs (revalue hs j v) p = P
  generalize bidPs (revalue hs j v') p = Q
  intro hm f1 f2 s1 s2 t1 t2
  by_cases hle : Q.getD i 0 ≤ P.getD i 0
  · exact hle
  · exfalso
    have hne : P ≠ Q := by rintro rfl; omega
    obtain ⟨k, hk⟩ := some_more (by rw [f1.1, f2.1]) (by rw [s1, s2]) hne
    have hkj : k ≠ j := by rintro rfl; omega
    have hkl : k < hs.length := by
      by_cases hh : k < hs.length
      · exact hh
      · rw [fits_out o1 f1 k (by rw [revalue_length]; omega), fits_out o2 f2 k (by rw [revalue_length]; omega)] at hk; omega
    have hil : i < hs.length := by
      by_cases hh : i < hs.length
      · exact hh
      · rw [fits_out o1 f1 i (by rw [revalue_length]; omega), fits_out o2 f2 i (by rw [revalue_length]; omega)] at hle; omega
    have e1 := revalue_getD (hs := hs) hj v
    have e2 := revalue_getD (hs := hs) hj v'
    refine still_cross o1 o2 (by rw [revalue_length, revalue_length]) t1 t2 f1 f2 (i := k) (k := i) (by rw [revalue_length]; exact hkl) (by rw [revalue_length]; exact hil) hk (by omega) ?_ ?_ ?_ ?_ ?_ ?_ <;> simp only [hL, hM, hV, e1, e2] <;> simp [hkj, hij]
end Go.Proofs.Ytfojjecnmfkcfaa
