/- What is due: who pays it has no further charge late on the next day; with a penny less some charge is; who pays it each day has none late. Plain mathematics. -/
import Derived.Test.YtfojjecnmfkcfaaGreatP21
namespace Go.Proofs.YtfojjecnmfkcfaaGreat
open Go.RowKit
set_option linter.unusedVariables false
section
variable {cs ps : List (Int × Int)} {g l day : Int}
theorem late_iff (hc : ∀ e ∈ cs, 0 ≤ e.1 ∧ 1 ≤ e.2) (hg : 0 ≤ g) (hps : Up ps) (hp : ∀ e ∈ ps, 0 ≤ e.2) {i : Nat} (hi : i < cs.length) : lateB cs ps g day i = true ↔ cs[i].1 + g < day ∧ uptoF ps (cs[i].1 + g) < allOf cs (i + 1) := by
  have hgd : cs.getD i (0, 0) = cs[i] := by simp [List.getD_eq_getElem?_getD, List.getElem?_eq_getElem hi]
  rw [lateB_iff, hgd, paidAt_le hc hps hp hi (show cs[i].1 ≤ cs[i].1 + g by omega)]
  omega
/-- What is due is what is missing up to the last charge that would be late. -/
theorem due_is (hc : ∀ e ∈ cs, 0 ≤ e.1 ∧ 1 ≤ e.2) (hcs : Up cs) (hg : 0 ≤ g) {p : Int} (h0 : 0 ≤ p) : ∀ k, k ≤ cs.length →
    (dueK cs g day p k = 0 ∧ ∀ i (hi : i < cs.length), i < k → cs[i].1 + g = day → allOf cs (i + 1) ≤ p) ∨
    (∃ i, ∃ hi : i < cs.length, i < k ∧ cs[i].1 + g = day ∧ p < allOf cs (i + 1) ∧ dueK cs g day p k = allOf cs (i + 1) - p ∧ ∀ j (hj : j < cs.length), j < k → cs[j].1 + g = day → j ≤ i)
  | 0, _ => .inl ⟨rfl, fun i hi h => by omega⟩
  | k + 1, hk => by
    have hgd : cs.getD k (0, 0) = cs[k] := by simp [List.getD_eq_getElem?_getD, List.getElem?_eq_getElem (show k < cs.length by omega)]
    have hc2 : ∀ e ∈ cs, 0 ≤ e.2 := fun e he => by have := hc e he; omega
    have ih := due_is hc hcs hg h0 k (by omega)
    have hx := hc cs[k] (List.getElem_mem _)
    have hs := allOf_succ cs k (by omega)
    simp only [dueK, hgd]
    by_cases hd : cs[k].1 + g = day
    · have hro := restOf_eq hcs hc2 (show k < cs.length by omega) day p h0 (by omega)
      by_cases hr : allOf cs (k + 1) ≤ p
      · rw [if_pos hr] at hro
        rw [if_neg (by rw [hro]; omega)]
        have hm : ∀ i, i ≤ k → allOf cs (i + 1) ≤ p := fun i hi => Int.le_trans (allOf_mono hc2 (by omega) (by omega)) hr
        rcases ih with ⟨h1, h2⟩ | ⟨i, hi, h1, h2, h3, h4, h5⟩
        · exact .inl ⟨h1, fun i hi _ _ => hm i (by omega)⟩
        · have := hm i (by omega); omega
      · have hro2 : 0 < restOf cs day p k := by
          rw [hro, if_neg hr]; split <;> omega
        rw [if_pos ⟨hd, hro2⟩]
        refine .inr ⟨k, by omega, by omega, hd, by omega, ?_, fun j _ hj _ => by omega⟩
        rw [restSum_eq hc2 day p h0 (k + 1) (by omega), (uptoF_first hcs (show k < cs.length by omega) (show cs[k].1 ≤ day by omega)).1]
        omega
    · rw [if_neg (fun h => hd h.1)]
      rcases ih with ⟨h1, h2⟩ | ⟨i, hi, h1, h2, h3, h4, h5⟩
      · refine .inl ⟨h1, fun i hi hik he => ?_⟩
        by_cases e : i = k
        · subst e; exact absurd he hd
        · exact h2 i hi (by omega) he
      · refine .inr ⟨i, hi, by omega, h2, h3, h4, fun j hj hjk he => ?_⟩
        by_cases e : j = k
        · subst e; exact absurd he hd
        · exact h5 j hj (by omega) he
theorem due_nonneg (hc : ∀ e ∈ cs, 0 ≤ e.1 ∧ 1 ≤ e.2) (hcs : Up cs) (hg : 0 ≤ g) {p : Int} (h0 : 0 ≤ p) : 0 ≤ dueK cs g day p cs.length := by
  rcases due_is (day := day) hc hcs hg h0 cs.length (Nat.le_refl _) with ⟨h, _⟩ | ⟨i, hi, _, _, h3, h4, _⟩ <;> omega
/-- With the payment of so many pence on the day: which charges are late on the next day that were not. -/
def Fresh (cs ps qs : List (Int × Int)) (g day : Int) : Prop := ∃ i, i < cs.length ∧ lateB cs qs g (day + 1) i = true ∧ lateB cs ps g day i = false
theorem fresh_iff (hc : ∀ e ∈ cs, 0 ≤ e.1 ∧ 1 ≤ e.2) (hcs : Up cs) (hg : 0 ≤ g) {qs : List (Int × Int)} (hps : Up ps) (hp : ∀ e ∈ ps, 0 ≤ e.2) (hqs : Up qs) (hq : ∀ e ∈ qs, 0 ≤ e.2) {n : Int} (h0 : 0 ≤ n) (hn : ∀ d, uptoF qs d = uptoF ps d + if day ≤ d then n else 0) :
    Fresh cs ps qs g day ↔ n < dueK cs g day (uptoF ps day) cs.length := by
  have hc2 : ∀ e ∈ cs, 0 ≤ e.2 := fun e he => by have := hc e he; omega
  have hd := due_is (day := day) hc hcs hg (uptoF_nonneg hp day) cs.length (Nat.le_refl _)
  constructor
  · rintro ⟨i, hi, h1, h2⟩
    have h3 : ¬ lateB cs ps g day i = true := by rw [h2]; simp
    rw [late_iff hc hg hqs hq hi, hn] at h1
    rw [late_iff hc hg hps hp hi] at h3
    by_cases hday : cs[i].1 + g = day
    · rw [hday, if_pos (Int.le_refl _)] at h1
      rcases hd with ⟨_, k2⟩ | ⟨k, hk, _, k2, k3, k4, k5⟩
      · have := k2 i hi hi hday; omega
      · have := allOf_mono hc2 (show i + 1 ≤ k + 1 by have := k5 i hi hi hday; omega) (by omega)
        omega
    · rw [if_neg (by omega)] at h1
      omega
  · intro h
    rcases hd with ⟨k1, _⟩ | ⟨i, hi, _, k2, k3, k4, k5⟩
    · omega
    · refine ⟨i, hi, ?_, ?_⟩
      · rw [late_iff hc hg hqs hq hi, hn, k2, if_pos (Int.le_refl _)]; omega
      · cases hx : lateB cs ps g day i with
        | false => rfl
        | true => rw [late_iff hc hg hps hp hi] at hx; omega
/-- What is paid is what is due, day by day: the first t charges are paid in time. -/
structure Duly (cs qs : List (Int × Int)) (g : Int) (t : Nat) : Prop where
  le : t ≤ cs.length
  len : qs.length ≤ t
  up : Up qs
  all : ∀ e ∈ qs, 0 ≤ e.1 ∧ 1 ≤ e.2 ∧ e.2 ≤ allOf cs cs.length
  sum : (qs.map (·.2)).sum = allOf cs t
  paid : ∀ i (hi : i < cs.length), i < t → allOf cs (i + 1) ≤ uptoF qs (cs[i].1 + g)
  far : ∀ e ∈ qs, ∀ i (hi : i < cs.length), t ≤ i → e.1 < cs[i].1 + g
  past : ∀ e ∈ qs, ∃ i, ∃ hi : i < cs.length, e.1 = cs[i].1 + g
theorem duly_none : Duly cs [] g 0 := ⟨Nat.zero_le _, by simp, List.Pairwise.nil, by simp, by simp [allOf], fun i hi h => by omega, by simp, by simp⟩
variable {qs : List (Int × Int)} {t : Nat}
theorem Duly.upto (h : Duly cs qs g t) {i : Nat} (hi : i < cs.length) (hti : t ≤ i) {d : Int} (hd : cs[i].1 + g ≤ d + 1) : uptoF qs d = allOf cs t := by
  rw [uptoF_full fun e he => by have := h.far e he i hi hti; omega, h.sum]
/-- Nothing is due on a day: later charges' days come later. -/
theorem Duly.zero (h : Duly cs qs g t) (hc : ∀ e ∈ cs, 0 ≤ e.1 ∧ 1 ≤ e.2) (hcs : Up cs) (hg : 0 ≤ g) (hz : dueK cs g day (uptoF qs day) cs.length ≤ 0) (hd : ∀ i (hi : i < cs.length), t ≤ i → day ≤ cs[i].1 + g) : ∀ i (hi : i < cs.length), t ≤ i → day + 1 ≤ cs[i].1 + g := by
  intro i hi hti
  have hc2 : ∀ e ∈ cs, 0 ≤ e.2 := fun e he => by have := hc e he; omega
  have h1 := hd i hi hti
  by_cases e : cs[i].1 + g = day
  · exfalso
    have hq : ∀ e ∈ qs, 0 ≤ e.2 := fun e he => by have := h.all e he; omega
    have hu := h.upto hi hti (d := day) (by omega)
    have hm := allOf_mono hc2 hti (show i ≤ cs.length by omega)
    have hs := allOf_succ cs i hi
    have hx := hc cs[i] (List.getElem_mem _)
    rcases due_is (day := day) hc hcs hg (uptoF_nonneg hq day) cs.length (Nat.le_refl _) with ⟨_, k2⟩ | ⟨k, hk, _, k2, k3, k4, k5⟩
    · have := k2 i hi hi e; omega
    · omega
  · omega
/-- Something is due on a day, and paid. -/
theorem Duly.pay (h : Duly cs qs g t) (hc : ∀ e ∈ cs, 0 ≤ e.1 ∧ 1 ≤ e.2) (hcs : Up cs) (hg : 0 ≤ g) (hz : 0 < dueK cs g day (uptoF qs day) cs.length) (hd : ∀ i (hi : i < cs.length), t ≤ i → day ≤ cs[i].1 + g) : ∃ t', t < t' ∧ Duly cs (qs ++ [(day, dueK cs g day (uptoF qs day) cs.length)]) g t' := by
  have hc2 : ∀ e ∈ cs, 0 ≤ e.2 := fun e he => by have := hc e he; omega
  have hq : ∀ e ∈ qs, 0 ≤ e.2 := fun e he => by have := h.all e he; omega
  rcases due_is (day := day) hc hcs hg (uptoF_nonneg hq day) cs.length (Nat.le_refl _) with ⟨k1, _⟩ | ⟨i, hi, _, k2, k3, k4, k5⟩
  · omega
  · have hti : t ≤ i := by
      by_cases hlt : i < t
      · have := h.paid i hi hlt; rw [k2] at this; omega
      · omega
    have hu := h.upto hi hti (d := day) (by omega)
    rw [k4, hu]
    rw [hu] at k3
    have hall := allOf_mono hc2 (show i + 1 ≤ cs.length by omega) (Nat.le_refl _)
    have ht0 := allOf_mono hc2 (Nat.zero_le t) h.le
    have h00 : allOf cs 0 = 0 := by simp [allOf]
    have hday0 : 0 ≤ day := by have := hc cs[i] (List.getElem_mem _); omega
    have hlt : ∀ e ∈ qs, e.1 < day := fun e he => by have := h.far e he i hi hti; omega
    refine ⟨i + 1, by omega, ⟨by omega, by have := h.len; simp; omega, ?_, ?_, ?_, ?_, ?_, ?_⟩⟩
    · refine List.pairwise_append.2 ⟨h.up, by simp, fun a ha b hb => ?_⟩
      simp at hb; subst hb
      have := hlt a ha
      show a.1 ≤ day; omega
    · intro e he
      rcases List.mem_append.1 he with he | he
      · exact h.all e he
      · simp at he; subst he
        show 0 ≤ day ∧ 1 ≤ allOf cs (i + 1) - allOf cs t ∧ allOf cs (i + 1) - allOf cs t ≤ allOf cs cs.length
        omega
    · rw [List.map_append, List.sum_append, h.sum]; simp; omega
    · intro j hj hji
      rw [uptoF_app, uptoF_cons, uptoF_nil]
      by_cases hjt : j < t
      · have h1 := h.paid j hj hjt
        split
        · show _ ≤ _ + (allOf cs (i + 1) - allOf cs t + 0); omega
        · omega
      · have h1 := hd j hj (by omega)
        have h2 := hcs.le (show j ≤ i by omega) hi
        have h3 : cs[j].1 + g = day := by omega
        have h4 := h.upto hj (by omega) (d := cs[j].1 + g) (by omega)
        have h5 := allOf_mono hc2 (show j + 1 ≤ i + 1 by omega) (by omega)
        rw [h4, if_pos (show day ≤ cs[j].1 + g by omega)]
        show _ ≤ _ + (allOf cs (i + 1) - allOf cs t + 0); omega
    · intro e he j hj hij
      have h1 : day < cs[j].1 + g := by
        have h2 := hcs.le (show i ≤ j by omega) hj
        by_cases e : cs[j].1 + g = day
        · have := k5 j hj hj e; omega
        · omega
      rcases List.mem_append.1 he with he | he
      · have := hlt e he; omega
      · simp at he; subst he; exact h1
    · intro e he
      rcases List.mem_append.1 he with he | he
      · exact h.past e he
      · simp at he; subst he; exact ⟨i, hi, k2.symm⟩
/-- All is paid in time. -/
theorem Duly.done (h : Duly cs qs g t) (hM : ∀ i (hi : i < cs.length), cs[i].1 + g < day) (hd : ∀ i (hi : i < cs.length), t ≤ i → day ≤ cs[i].1 + g) : t = cs.length := by
  have := h.le
  by_cases e : t < cs.length
  · have h1 := hd t e (Nat.le_refl _)
    have h2 := hM t e
    omega
  · omega
theorem Duly.late (h : Duly cs qs g cs.length) (hc : ∀ e ∈ cs, 0 ≤ e.1 ∧ 1 ≤ e.2) (hg : 0 ≤ g) : ∀ k, k ≤ cs.length → lateK cs qs g day k = [] ∧ lateC cs qs g l day k = 0
  | 0, _ => ⟨rfl, rfl⟩
  | k + 1, hk => by
    obtain ⟨h1, h2⟩ := Duly.late h hc hg k (by omega)
    have hq : ∀ e ∈ qs, 0 ≤ e.2 := fun e he => by have := h.all e he; omega
    have hf : ¬ lateB cs qs g day k = true := by
      rw [late_iff hc hg h.up hq (show k < cs.length by omega)]
      have := h.paid k (by omega) (by omega)
      omega
    rw [lateK_succ, lateC_succ, h1, h2, if_neg hf, if_neg hf]
    exact ⟨rfl, rfl⟩
theorem Duly.owing (h : Duly cs qs g cs.length) (hc : ∀ e ∈ cs, 0 ≤ e.1 ∧ 1 ≤ e.2) (hg : 0 ≤ g) (hM : ∀ i (hi : i < cs.length), cs[i].1 + g ≤ day) : restSum cs day (uptoF qs day) cs.length = 0 ∧ leftK cs day (uptoF qs day) cs.length = 0 := by
  have hc2 : ∀ e ∈ cs, 0 ≤ e.2 := fun e he => by have := hc e he; omega
  have hq : ∀ e ∈ qs, 0 ≤ e.2 := fun e he => by have := h.all e he; omega
  have h1 : uptoF qs day = allOf cs cs.length := by
    rw [uptoF_full fun e he => ?_, h.sum]
    obtain ⟨i, hi, e1⟩ := h.past e he
    have := hM i hi; omega
  have h2 : uptoF (cs.take cs.length) day = allOf cs cs.length := by
    rw [uptoF_full fun e he => ?_, ← allOf_take]
    obtain ⟨i, hi, rfl⟩ := List.mem_iff_getElem.1 (List.mem_of_mem_take he)
    have := hM i hi; omega
  rw [restSum_eq hc2 day _ (uptoF_nonneg hq day) _ (Nat.le_refl _), leftK_eq hc2 day _ (uptoF_nonneg hq day) _ (Nat.le_refl _), h1, h2]
  omega
end
end Go.Proofs.YtfojjecnmfkcfaaGreat
