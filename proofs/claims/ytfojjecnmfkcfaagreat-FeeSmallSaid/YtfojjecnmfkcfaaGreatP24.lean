/- The shares by remainders: which houses' shares are rounded up. Plain mathematics. Fractions in lowest terms, by Euclid's way and by dividing out. Plain mathematics. 'lowest': a fraction in lowest terms. Facts that outlast whatever is made: for regions that draw their order, by wp_inv. A region that draws its order ahead of a tail: an invariant of what is done, of its values, and of the world. -/
import Derived.Test.YtfojjecnmfkcfaaGreatP9
import Derived.Test.YtfojjecnmfkcfaaGreatP11
import Derived.Test.YtfojjecnmfkcfaaGreatP22
import Derived.Deep.AppendLies
namespace Go.Proofs.YtfojjecnmfkcfaaGreat
open Go.RowKit
set_option linter.unusedVariables false
theorem insI_split (lt : Int → Int → Bool) (x : Int) : ∀ (n : Nat) (pre post : List Int), pre.length = n → ∃ q1 q2, pre = q1 ++ q2 ∧ insI lt n (pre ++ x :: post) = q1 ++ x :: (q2 ++ post) ∧ (∀ y ∈ q2, lt x y = true) ∧ (∀ r y, q1 = r ++ [y] → lt x y = false)
  | 0, pre, post, h => by
    obtain rfl : pre = [] := List.length_eq_zero_iff.1 h
    exact ⟨[], [], rfl, rfl, by simp, fun r y e => by simp at e⟩
  | n + 1, pre, post, h => by
    have hne : pre ≠ [] := by intro e; rw [e] at h; simp at h
    obtain ⟨q, y, rfl⟩ : ∃ q y, pre = q ++ [y] := ⟨pre.dropLast, pre.getLast hne, (List.dropLast_concat_getLast hne).symm⟩
    have hq : q.length = n := by simp at h; omega
    have e1 : (q ++ [y] ++ x :: post).getD (n + 1) 0 = x := by
      rw [List.getD_eq_getElem?_getD, List.getElem?_append_right (by simp; omega)]
      simp [hq]
    have e2 : (q ++ [y] ++ x :: post).getD n 0 = y := by
      rw [List.getD_eq_getElem?_getD, List.append_assoc, List.getElem?_append_right (by omega)]
      simp [hq]
    rw [insI, e1, e2]
    by_cases hl : lt x y = true
    · have e3 : swapL (q ++ [y] ++ x :: post) n = q ++ x :: (y :: post) := by
        unfold swapL
        rw [e1, e2, List.append_assoc, List.set_append_right _ _ (by omega), List.set_append_right _ _ (by omega), hq]
        have : n + 1 - n = 1 := by omega
        rw [this, Nat.sub_self]; rfl
      rw [if_pos hl, e3]
      obtain ⟨q1, q2, rfl, e, h1, h2⟩ := insI_split lt x n q (y :: post) hq
      refine ⟨q1, q2 ++ [y], by simp, by rw [e]; simp, fun z hz => ?_, h2⟩
      rcases List.mem_append.1 hz with hz | hz
      · exact h1 z hz
      · simp at hz; subst hz; exact hl
    · rw [if_neg hl]
      refine ⟨q ++ [y], [], by simp, by simp, by simp, fun r z e => ?_⟩
      have := List.append_inj_right' e rfl
      injection this with e _
      subst e
      simpa using hl
/-- One house's remainder comes before another one's. -/
def Bef (rm : Int → Int) (k i : Int) : Prop := rm i < rm k ∨ rm k = rm i ∧ k < i
theorem bef_trans {rm : Int → Int} {a b c : Int} (h1 : Bef rm a b) (h2 : Bef rm b c) : Bef rm a c := by unfold Bef at *; omega
theorem bef_asymm {rm : Int → Int} {a b : Int} (h1 : Bef rm a b) : ¬ Bef rm b a := by unfold Bef at *; omega
theorem bef_total {rm : Int → Int} {a b : Int} (h : a ≠ b) : Bef rm a b ∨ Bef rm b a := by unfold Bef; omega
theorem ins_sorted {lt : Int → Int → Bool} {rm : Int → Int} (hlt : ∀ a b, lt a b = decide (rm b < rm a)) {q1 q2 : List Int} {x : Int} (hp : (q1 ++ q2).Pairwise (Bef rm)) (hx : ∀ y ∈ q1 ++ q2, y < x) (h1 : ∀ y ∈ q2, lt x y = true) (h2 : ∀ r y, q1 = r ++ [y] → lt x y = false) : (q1 ++ x :: q2).Pairwise (Bef rm) := by
  obtain ⟨p1, p2, p3⟩ := List.pairwise_append.1 hp
  have hb : ∀ a ∈ q1, Bef rm a x := by
    by_cases hn : q1 = []
    · subst hn; simp
    · obtain ⟨r, z, rfl⟩ : ∃ q y, q1 = q ++ [y] := ⟨q1.dropLast, q1.getLast hn, (List.dropLast_concat_getLast hn).symm⟩
      have hz := h2 r z rfl
      rw [hlt, decide_eq_false_iff_not] at hz
      have hzx := hx z (by simp)
      have hb : Bef rm z x := by unfold Bef; omega
      intro a ha
      rcases List.mem_append.1 ha with ha | ha
      · exact bef_trans ((List.pairwise_append.1 p1).2.2 a ha z (by simp)) hb
      · simp at ha; subst ha; exact hb
  refine List.pairwise_append.2 ⟨p1, List.pairwise_cons.2 ⟨fun y hy => ?_, p2⟩, fun a ha b hb' => ?_⟩
  · have := h1 y hy
    rw [hlt, decide_eq_true_iff] at this
    exact .inl this
  · rcases List.mem_cons.1 hb' with rfl | hb'
    · exact hb a ha
    · exact p3 a ha b hb'
theorem insO_sorted {lt : Int → Int → Bool} {rm : Int → Int} (hlt : ∀ a b, lt a b = decide (rm b < rm a)) : ∀ (f i : Nat) (pre post : List Int), pre.length = i → post.length = f → pre.Pairwise (Bef rm) → (∀ a ∈ pre, ∀ b ∈ post, a < b) → post.Pairwise (· < ·) → (insO lt f i (pre ++ post)).Pairwise (Bef rm) ∧ (insO lt f i (pre ++ post)).Perm (pre ++ post)
  | 0, i, pre, post, h1, h2, h3, h4, h5 => by
    obtain rfl : post = [] := List.length_eq_zero_iff.1 h2
    simp only [insO, List.append_nil]
    exact ⟨h3, List.Perm.refl _⟩
  | f + 1, i, pre, x :: post, h1, h2, h3, h4, h5 => by
    obtain ⟨q1, q2, rfl, e, g1, g2⟩ := insI_split lt x i pre post h1
    obtain ⟨r1, r2⟩ := List.pairwise_cons.1 h5
    have hs := ins_sorted hlt h3 (fun y hy => h4 y hy x List.mem_cons_self) g1 g2
    simp only [insO]
    rw [e]
    have e2 : q1 ++ x :: (q2 ++ post) = (q1 ++ x :: q2) ++ post := by simp
    rw [e2]
    have hpm : (q1 ++ x :: q2).Perm (q1 ++ q2 ++ [x]) := by
      have := (List.perm_append_comm (l₁ := [x]) (l₂ := q2)).append_left q1
      simpa using this
    obtain ⟨k1, k2⟩ := insO_sorted hlt f (i + 1) (q1 ++ x :: q2) post (by simp at h1 ⊢; omega) (by simpa using h2) hs (fun a ha b hb => by
      rcases List.mem_append.1 ((hpm.mem_iff).1 ha) with ha | ha
      · exact h4 a ha b (List.mem_cons_of_mem _ hb)
      · simp at ha; subst ha; exact r1 b hb) r2
    refine ⟨k1, k2.trans ?_⟩
    have := hpm.append_right post
    simpa using this
theorem idxL_rises (n : Nat) : (idxL n).Pairwise (· < ·) := by
  unfold idxL
  refine List.pairwise_map.2 ?_
  exact (List.pairwise_lt_range (n := n)).imp fun h => by omega
theorem byRem_sorted (p : Int) (hs : List (Int × Int × Int)) (h1 : 1 ≤ hs.length) : (byRem p hs).Pairwise (Bef (remOf p hs)) ∧ (byRem p hs).Perm (idxL hs.length) := by
  have hl : (idxL hs.length).length = hs.length := by simp [idxL]
  have hr := idxL_rises hs.length
  unfold byRem insSort
  match hd : idxL hs.length with
  | [] => rw [hd] at hl; simp at hl; omega
  | x :: t =>
    rw [hd] at hr
    obtain ⟨r1, r2⟩ := List.pairwise_cons.1 hr
    exact insO_sorted (lt := ltRem p hs) (rm := remOf p hs) (fun a b => by unfold ltRem cmpRem; rw [decide_eq_decide]; omega) ((x :: t).length - 1) 1 [x] t rfl (by simp) (by simp) (by simpa using r1) r2
/-- Who is among the first so many: who has fewer before. -/
theorem rank_take {R : Int → Int → Prop} {L : List Int} (hs : L.Pairwise R) (ha : ∀ a b, R a b → ¬ R b a) {x : Int} (hx : x ∈ L) (c : Int → Bool) (hc : ∀ k, c k = true ↔ R k x) (M : Nat) : x ∈ L.take M ↔ L.countP c < M := by
  obtain ⟨l1, l2, rfl⟩ := List.append_of_mem hx
  obtain ⟨p1, p2, p3⟩ := List.pairwise_append.1 hs
  obtain ⟨p4, p5⟩ := List.pairwise_cons.1 p2
  have hirr : ¬ R x x := fun h => ha x x h h
  have c1 : l1.countP c = l1.length := List.countP_eq_length.2 fun a h => (hc a).2 (p3 a h x List.mem_cons_self)
  have c2 : (x :: l2).countP c = 0 := by
    refine List.countP_eq_zero.2 fun a h => ?_
    rw [hc]
    rcases List.mem_cons.1 h with rfl | h
    · exact hirr
    · exact ha _ _ (p4 a h)
  rw [List.countP_append, c1, c2]
  constructor
  · intro h
    by_cases hM : l1.length < M
    · omega
    · exfalso
      rw [List.take_append_of_le_length (by omega)] at h
      exact hirr (p3 x (List.mem_of_mem_take h) x List.mem_cons_self)
  · intro h
    refine List.mem_take_iff_getElem.2 ⟨l1.length, by simp; omega, ?_⟩
    simp
theorem bumps_get {M : Nat} : ∀ (l : List Int) (ps : List Int), ps.length = 6 → l.Nodup → (∀ x ∈ l, ∃ i : Nat, x = i ∧ i < 6) → ∀ i, i < 6 → (bumps ps l).getD i 0 = ps.getD i 0 + if (i : Int) ∈ l then 1 else 0
  | [], ps, _, _, _, i, _ => by simp [bumps]
  | x :: l, ps, h6, hn, hl, i, hi => by
    obtain ⟨k, rfl, hk⟩ := hl x List.mem_cons_self
    obtain ⟨n1, n2⟩ := List.nodup_cons.1 hn
    show (bumps (bump ps (k : Int).toNat) l).getD i 0 = _
    rw [bumps_get (M := M) l (bump ps (k : Int).toNat) (by simp [bump, h6]) n2 (fun y hy => hl y (List.mem_cons_of_mem _ hy)) i hi, Int.toNat_natCast, bump_getD _ _ _ (by omega)]
    by_cases hik : i = k
    · subst hik
      rw [if_pos rfl, if_neg n1, if_pos List.mem_cons_self]; omega
    · have : ((i : Int) ∈ (k : Int) :: l) ↔ (i : Int) ∈ l := by
        rw [List.mem_cons]; constructor
        · rintro (h | h)
          · omega
          · exact h
        · exact .inr
      rw [if_neg hik]
      simp only [this]
theorem bumps_sum : ∀ (l : List Int) (ps : List Int), ps.length = 6 → (∀ x ∈ l, ∃ i : Nat, x = i ∧ i < 6) → (bumps ps l).sum = ps.sum + l.length
  | [], ps, _, _ => by simp [bumps]
  | x :: l, ps, h6, hl => by
    obtain ⟨k, rfl, hk⟩ := hl x List.mem_cons_self
    show (bumps (bump ps (k : Int).toNat) l).sum = _
    rw [bumps_sum l (bump ps (k : Int).toNat) (by simp [bump, h6]) (fun y hy => hl y (List.mem_cons_of_mem _ hy)), Int.toNat_natCast, bump_sum ps k (by omega), List.length_cons]
    omega
def befB (rm : Int → Int) (k i : Int) : Bool := decide (rm i < rm k) || (decide (rm k = rm i) && decide (k < i))
theorem befB_iff {rm : Int → Int} {k i : Int} : befB rm k i = true ↔ Bef rm k i := by unfold befB Bef; simp
/-- How many houses come before one, and whether its share is rounded up. -/
def befN (p : Int) (hs : List (Int × Int × Int)) (i : Nat) : Nat := (List.range hs.length).countP fun (k : Nat) => befB (remOf p hs) k i
def upB (p : Int) (hs : List (Int × Int × Int)) (i : Nat) : Bool := decide ((befN p hs i : Int) < p - (floorsK p hs hs.length).sum)
section
variable {p : Int} {hs : List (Int × Int × Int)}
theorem byRem_nat (h1 : 1 ≤ hs.length) (h6 : hs.length ≤ 6) (M : Nat) : ∀ x ∈ (byRem p hs).take M, ∃ i : Nat, x = i ∧ i < 6 := fun x hx => by
  obtain ⟨i, rfl, hi⟩ := idxL_mem x ((byRem_sorted p hs h1).2.mem_iff.1 (List.mem_of_mem_take hx))
  exact ⟨i, rfl, by omega⟩
theorem byRem_nodup (h1 : 1 ≤ hs.length) (M : Nat) : ((byRem p hs).take M).Nodup := by
  have h : (idxL hs.length).Nodup := (idxL_rises hs.length).imp fun h => by omega
  exact ((byRem_sorted p hs h1).2.nodup_iff.2 h).sublist (List.take_sublist _ _)
theorem sharesPs_up (ho : housesOk hs) (h0 : valueSum hs ≠ 0) (hp : 0 ≤ p) (h1 : 1 ≤ hs.length) {i : Nat} (hi : i < hs.length) : (sharesPs p hs).getD i 0 = floorOf p hs i + if upB p hs i then 1 else 0 := by
  have h6 := ho.1
  obtain ⟨b1, b2, b3⟩ := floors_bd ho h0 hp
  obtain ⟨s1, s2⟩ := byRem_sorted p hs h1
  have hx : (i : Int) ∈ byRem p hs := s2.mem_iff.2 (by unfold idxL; exact List.mem_map.2 ⟨i, List.mem_range.2 hi, rfl⟩)
  have hr := rank_take s1 (fun a b => bef_asymm) hx (fun k => befB (remOf p hs) k i) (fun k => befB_iff) (p - (floorsK p hs hs.length).sum).toNat
  have hcnt : (byRem p hs).countP (fun k => befB (remOf p hs) k i) = befN p hs i := by
    rw [s2.countP_eq]
    unfold idxL befN
    rw [List.countP_map]
    rfl
  rw [hcnt] at hr
  unfold sharesPs
  rw [bumps_get (M := 0) _ _ (floorsK_len _ _ _) (byRem_nodup h1 _) (byRem_nat h1 h6 _) i (by omega), floorsK_get, if_pos ⟨by omega, hi⟩]
  have e : ((i : Int) ∈ (byRem p hs).take (p - (floorsK p hs hs.length).sum).toNat) ↔ upB p hs i = true := by
    rw [hr]; unfold upB; rw [decide_eq_true_iff]; omega
  simp only [e]
theorem sum_zero : ∀ l : List Int, (∀ x ∈ l, x = 0) → l.sum = 0
  | [], _ => rfl
  | a :: l, h => by rw [List.sum_cons, h a List.mem_cons_self, sum_zero l fun x hx => h x (List.mem_cons_of_mem _ hx)]; rfl
theorem sharesL_sum (ho : housesOk hs) (h0 : valueSum hs ≠ 0) (hp : 0 ≤ p) (h1 : 1 ≤ hs.length) : ((sharesPs p hs).take hs.length).sum = p := by
  have h6 := ho.1
  obtain ⟨b1, b2, b3⟩ := floors_bd ho h0 hp
  obtain ⟨s1, s2⟩ := byRem_sorted p hs h1
  have hlen : (byRem p hs).length = hs.length := by rw [s2.length_eq]; simp [idxL]
  have hs1 : (sharesPs p hs).sum = p := by
    unfold sharesPs
    rw [bumps_sum _ _ (floorsK_len _ _ _) (byRem_nat h1 h6 _), List.length_take, hlen]
    omega
  have hl6 : (sharesPs p hs).length = 6 := by unfold sharesPs; rw [bumps_len, floorsK_len]
  have hz : ((sharesPs p hs).drop hs.length).sum = 0 := by
    refine sum_zero _ fun x hx => ?_
    obtain ⟨j, hj, rfl⟩ := List.mem_iff_getElem.1 hx
    rw [List.length_drop] at hj
    rw [List.getElem_drop]
    have e : (sharesPs p hs)[hs.length + j]'(by omega) = (sharesPs p hs).getD (hs.length + j) 0 := by simp [List.getD_eq_getElem?_getD, List.getElem?_eq_getElem (show hs.length + j < (sharesPs p hs).length by omega)]
    rw [e]
    unfold sharesPs
    rw [bumps_get (M := 0) _ _ (floorsK_len _ _ _) (byRem_nodup h1 _) (byRem_nat h1 h6 _) _ (by omega), floorsK_get, if_neg (by omega), if_neg]
    · rfl
    · intro h
      obtain ⟨i, hi, hl⟩ := idxL_mem _ (s2.mem_iff.1 (List.mem_of_mem_take h))
      omega
  have := congrArg List.sum (List.take_append_drop hs.length (sharesPs p hs))
  rw [List.sum_append] at this
  omega
theorem rems_le (T : Int) (r : Nat → Int) (hr : ∀ k, 0 ≤ r k ∧ r k ≤ T - 1) : ∀ l : List Nat, (l.map r).sum ≤ (T - 1) * (l.countP fun k => decide (0 < r k))
  | [] => by simp
  | k :: l => by
    have ih := rems_le T r hr l
    obtain ⟨h1, h2⟩ := hr k
    rw [List.map_cons, List.sum_cons, List.countP_cons]
    by_cases h : 0 < r k
    · rw [if_pos (by simpa using h)]
      have : (T - 1) * (((l.countP fun k => decide (0 < r k)) + 1 : Nat) : Int) = (T - 1) * (l.countP fun k => decide (0 < r k)) + (T - 1) := by rw [Int.natCast_add, Int.mul_add]; simp
      omega
    · rw [if_neg (by simpa using h), Nat.add_zero]; omega
/-- Who is rounded up has a remainder. -/
theorem up_rem (ho : housesOk hs) (h0 : valueSum hs ≠ 0) (hp : 0 ≤ p) {i : Nat} (hu : upB p hs i = true) : remOf p hs i ≠ 0 := by
  intro hz
  obtain ⟨hT, _⟩ := valueSum_pos ho h0
  obtain ⟨b1, b2, b3⟩ := floors_bd ho h0 hp
  obtain ⟨a1, _, _, _⟩ := floors_list p (valueSum hs) hT hp hs (fun x hx => (ho.2 x hx).1)
  rw [← floors_sum p hs ho.1] at a1
  have e : (hs.map (·.1)).sum = valueSum hs := rfl
  rw [e] at a1
  have e2 : (hs.map fun x => p * x.1 % valueSum hs) = (List.range hs.length).map fun k => remOf p hs (k : Nat) := by
    apply List.ext_getElem
    · simp
    · intro k k1 k2
      simp at k1
      simp [remOf, List.getD_eq_getElem?_getD, List.getElem?_eq_getElem k1]
  rw [e2] at a1
  have hrb : ∀ k : Nat, 0 ≤ remOf p hs k ∧ remOf p hs k ≤ valueSum hs - 1 := fun k => by
    unfold remOf
    have h2 := Int.emod_nonneg (p * (hs.getD (k : Int).toNat (0, 0, 0)).1) (Int.ne_of_gt hT)
    have h3 := Int.emod_lt_of_pos (p * (hs.getD (k : Int).toNat (0, 0, 0)).1) hT
    omega
  have hle := rems_le (valueSum hs) (fun k => remOf p hs (k : Nat)) hrb (List.range hs.length)
  have hcnt : (List.range hs.length).countP (fun k => decide (0 < remOf p hs (k : Nat))) ≤ befN p hs i := by
    unfold befN
    refine List.countP_mono_left fun k _ hk => ?_
    rw [befB_iff]
    simp at hk
    left; rw [hz]; exact hk
  unfold upB at hu
  rw [decide_eq_true_iff] at hu
  generalize (List.range hs.length).countP (fun k => decide (0 < remOf p hs (k : Nat))) = C at *
  generalize befN p hs i = N at *
  generalize ((List.range hs.length).map fun k => remOf p hs (k : Nat)).sum = R at *
  generalize (floorsK p hs hs.length).sum = S at *
  generalize valueSum hs = T at *
  have q1 : T * (p - S) = R := by rw [Int.mul_sub, Int.mul_comm T p]; omega
  have q2 : (T - 1) * (C : Int) ≤ (T - 1) * (p - S) := Int.mul_le_mul_of_nonneg_left (by omega) (by omega)
  have q3 : (T - 1) * (p - S) = T * (p - S) - (p - S) := by rw [Int.sub_mul]; omega
  omega
/-- Who comes before one that is rounded up is, too. -/
theorem up_before {i : Nat} (h : upB p hs i = true) {k : Nat} (hb : Bef (remOf p hs) k i) : upB p hs k = true := by
  unfold upB at *
  rw [decide_eq_true_iff] at *
  have : befN p hs k ≤ befN p hs i := by
    unfold befN
    refine List.countP_mono_left fun j _ hj => ?_
    rw [befB_iff] at hj ⊢
    exact bef_trans hj hb
  omega
end
end Go.Proofs.YtfojjecnmfkcfaaGreat
namespace Go.Proofs.YtfojjecnmfkcfaaGreat
open Go.RowKit
set_option linter.unusedVariables false
structure Red (N D d a b : Nat) : Prop where
  ex : ∃ c, 1 ≤ c ∧ N = c * a ∧ D = c * b
  b1 : 1 ≤ b
  no : ∀ e, 2 ≤ e → e < d → ¬ (e ∣ a ∧ e ∣ b)
theorem Red.start {N D : Nat} (h : 1 ≤ D) : Red N D 2 N D := ⟨⟨1, Nat.le_refl _, by simp, by simp⟩, h, fun e h1 h2 => by omega⟩
theorem Red.divide {N D d a b : Nat} (h : Red N D d a b) (hd : 2 ≤ d) (h1 : a % d = 0) (h2 : b % d = 0) : Red N D d (a / d) (b / d) ∧ b / d < b := by
  obtain ⟨c, c1, e1, e2⟩ := h.ex
  have da := Nat.dvd_of_mod_eq_zero h1
  have db := Nat.dvd_of_mod_eq_zero h2
  have ea := Nat.mul_div_cancel' da
  have eb := Nat.mul_div_cancel' db
  have hb := h.b1
  refine ⟨⟨⟨c * d, Nat.mul_pos c1 (by omega), by rw [Nat.mul_assoc, ea]; exact e1, by rw [Nat.mul_assoc, eb]; exact e2⟩, Nat.div_pos (Nat.le_of_dvd hb db) (by omega), fun e h3 h4 h5 => h.no e h3 h4 ⟨?_, ?_⟩⟩, Nat.div_lt_self hb (by omega)⟩
  · rw [← ea]; exact Nat.dvd_trans h5.1 (Nat.dvd_mul_left _ _)
  · rw [← eb]; exact Nat.dvd_trans h5.2 (Nat.dvd_mul_left _ _)
theorem Red.step {N D d a b : Nat} (h : Red N D d a b) (hn : ¬ (a % d = 0 ∧ b % d = 0)) : Red N D (d + 1) a b :=
  ⟨h.ex, h.b1, fun e h1 h2 h3 => by
    by_cases e2 : e = d
    · subst e2; exact hn ⟨Nat.mod_eq_zero_of_dvd h3.1, Nat.mod_eq_zero_of_dvd h3.2⟩
    · exact h.no e h1 (by omega) h3⟩
theorem Red.done {N D d a b : Nat} (h : Red N D d a b) (hb : b < d) : a = N / Nat.gcd N D ∧ b = D / Nat.gcd N D := by
  obtain ⟨c, c1, e1, e2⟩ := h.ex
  have hb1 := h.b1
  have hg : Nat.gcd a b = 1 := by
    have g1 := Nat.gcd_dvd_left a b
    have g2 := Nat.gcd_dvd_right a b
    have g3 := Nat.le_of_dvd hb1 g2
    have g4 : 0 < Nat.gcd a b := Nat.gcd_pos_of_pos_right a hb1
    by_cases h2 : 2 ≤ Nat.gcd a b
    · exact absurd ⟨g1, g2⟩ (h.no _ h2 (by omega))
    · omega
  have hG : Nat.gcd N D = c := by rw [e1, e2, Nat.gcd_mul_left, hg, Nat.mul_one]
  rw [hG]
  constructor
  · rw [e1, Nat.mul_div_cancel_left _ c1]
  · rw [e2, Nat.mul_div_cancel_left _ c1]
/-- The numbers of a fraction in lowest terms. -/
def lowN (N D : Nat) : Int := ((N / Nat.gcd N D : Nat) : Int)
def lowD (N D : Nat) : Int := ((D / Nat.gcd N D : Nat) : Int)
theorem low_bd {N D : Nat} (h : 1 ≤ D) : 0 ≤ lowN N D ∧ lowN N D ≤ N ∧ 1 ≤ lowD N D ∧ lowD N D ≤ D := by
  unfold lowN lowD
  have g2 := Nat.gcd_dvd_right N D
  have g3 := Nat.le_of_dvd h g2
  have g4 : 0 < Nat.gcd N D := Nat.gcd_pos_of_pos_right N h
  have h1 := Nat.div_le_self N (Nat.gcd N D)
  have h2 := Nat.div_le_self D (Nat.gcd N D)
  have h3 : 0 < D / Nat.gcd N D := Nat.div_pos g3 g4
  clear g2 g3 g4
  generalize N / Nat.gcd N D = x at *
  generalize D / Nat.gcd N D = y at *
  omega
theorem low_cross {N D : Nat} : lowN N D * D = N * lowD N D := by
  unfold lowN lowD
  have g1 := Nat.gcd_dvd_left N D
  have g2 := Nat.gcd_dvd_right N D
  have e : N / Nat.gcd N D * D = N * (D / Nat.gcd N D) := by rw [Nat.div_mul_right_comm g1, Nat.mul_div_assoc _ g2]
  have := congrArg (fun n : Nat => (n : Int)) e
  simpa using this
end Go.Proofs.YtfojjecnmfkcfaaGreat
namespace Go.Proofs.YtfojjecnmfkcfaaGreat
open Go.RowKit
set_option linter.unusedVariables false
theorem gcd_next {x y : Int} {G : Nat} (hx : 0 ≤ x) (hy : 0 < y) (h : Nat.gcd x.toNat y.toNat = G) : ∃ r : Int, x.tmod y = r ∧ 0 ≤ r ∧ r < y ∧ Nat.gcd y.toNat r.toNat = G := by
  refine ⟨x % y, Int.tmod_eq_emod_of_nonneg hx, Int.emod_nonneg _ (by omega), Int.emod_lt_of_pos _ hy, ?_⟩
  have e : (x % y).toNat = x.toNat % y.toNat := Int.toNat_emod hx (by omega)
  rw [e, Nat.gcd_comm, ← Nat.gcd_rec, Nat.gcd_comm]
  exact h
theorem gcd_last {N D G : Nat} {x : Int} (hx : 0 ≤ x) (hD : 1 ≤ D) (hG : G = Nat.gcd N D) (h : Nat.gcd x.toNat (0 : Int).toNat = G) : 0 < x ∧ (N : Int).tdiv x = lowN N D ∧ (D : Int).tdiv x = lowD N D := by
  have h0 : 0 < Nat.gcd N D := Nat.gcd_pos_of_pos_right N hD
  have e : x.toNat = G := by simpa using h
  have e2 : x = (G : Int) := by omega
  subst hG
  rw [e2]
  refine ⟨by omega, ?_, ?_⟩
  · unfold lowN; exact (Int.ofNat_tdiv _ _).symm
  · unfold lowD; exact (Int.ofNat_tdiv _ _).symm
set_option maxRecDepth 100000 in
set_option maxHeartbeats 1000000 in
theorem lowest_any (N D : Nat) (hN : N ≤ 1000000000) (hD : 1 ≤ D) (hD2 : D ≤ 1000000000) (w : World) :
    Calls Tryz.prog 77 #[.int .i64 (N : Int), .int .i64 (D : Int)] w fun e w' => e = .returned (.agg #[.int .i64 (lowN N D), .int .i64 (lowD N D)]) ∧ Below w.heap.size w w' := by
  obtain ⟨G, HG⟩ : ∃ G, Hid (G = Nat.gcd N D) := ⟨_, rfl⟩
  obtain ⟨n, hn⟩ : ∃ n : Int, n = (N : Int) := ⟨_, rfl⟩
  obtain ⟨m, hm⟩ : ∃ m : Int, m = (D : Int) := ⟨_, rfl⟩
  have HS : Hid (Nat.gcd n.toNat m.toNat = G) := by rw [hn, hm]; exact HG.out.symm
  obtain ⟨n0, n1, m0, m1⟩ : 0 ≤ n ∧ n ≤ 1000000000 ∧ 1 ≤ m ∧ m ≤ 1000000000 := by omega
  have HN := Lib.hid hn
  have HM := Lib.hid hm
  rw [← hn, ← hm]
  clear hn hm
  go_enter Tryz.func77, Tryz.ntmps77
  go_wp2_with fail
  generalize hW1 : World.alloc w _ = W1
  have x0 : W1.cell? ⟨w.heap.size, 0, none⟩ = some (.int .i64 0) := by rw [← hW1]; exact news_new w [.int .i64 0, .int .i64 0] _ rfl 0 _ rfl
  have x1 : W1.cell? ⟨w.heap.size, 1, none⟩ = some (.int .i64 0) := by rw [← hW1]; exact news_new w [.int .i64 0, .int .i64 0] _ rfl 1 _ rfl
  have xf : ∀ o, W1.frozen? ⟨w.heap.size, o, none⟩ = false := by rw [← hW1]; simp
  have xb : Below w.heap.size w W1 := by rw [← hW1]; exact below_new _ _
  have xl : w.heap.size < W1.heap.size := by rw [← hW1]; simp
  clear hW1
  go_loopw [5, 6] (fun a b wr => ∃ x y : Int, a = .int .i64 x ∧ b = .int .i64 y ∧ Hid (Nat.gcd x.toNat y.toNat = G) ∧ 0 ≤ x ∧ x ≤ 1000000000 ∧ 0 ≤ y ∧ y ≤ 1000000000 ∧ Hid (Below W1.heap.size W1 wr)) (fun _ b _ => (intOf b).toNat)
  case atStart => exact ⟨n, m, rfl, rfl, HS, by omega, by omega, by omega, by omega, Below.refl _ _⟩
  case round =>
    obtain ⟨x, y, rfl, rfl, HX, hx, hx2, hy, hy2, HB⟩ := hrel
    by_cases hy0 : 0 < y
    · obtain ⟨r, q1, q2, q3, q4⟩ := gcd_next hx hy0 HX.out
      have HG2 := Lib.hid q4
      have q5 : ¬ y = 0 := by omega
      clear q4
      go_wp2_with fail
      go_quiet (fail)
      go_wp2_with fail
      go_roundw
      case rel => exact ⟨y, r, rfl, rfl, HG2, by omega, by omega, by omega, by omega, below_drewN HB.out _⟩
      case measure => simp [intOf]; omega
    · obtain rfl : y = 0 := by omega
      obtain ⟨z0, z1, z2⟩ := gcd_last hx hD HG.out HX.out
      rw [← HN.out] at z1
      rw [← HM.out] at z2
      have z3 : ¬ x = 0 := by omega
      obtain ⟨b1, b2, b3, b4⟩ := low_bd (N := N) hD
      have b5 : lowN N D ≤ 1000000000 := by omega
      have b6 : lowD N D ≤ 1000000000 := by omega
      obtain ⟨u, hu⟩ : ∃ u, lowN N D = u := ⟨_, rfl⟩
      obtain ⟨v, hv⟩ : ∃ v, lowD N D = v := ⟨_, rfl⟩
      rw [hu] at z1 b1 b5
      rw [hv] at z2 b3 b6
      have HU := Lib.hid hu
      have HV := Lib.hid hv
      clear b2 b4 hu hv
      have z4 : IntKind.i64.wrap u = u := IntWalk.i64_in _ (by omega)
      have z5 : IntKind.i64.wrap v = v := IntWalk.i64_in _ (by omega)
      go_upto_region 4 with fail
      go_still_tail 7, (by kernel_rfl)
      change wpList _ _ _ _ _ wr.drew
      obtain ⟨w3, hw3⟩ : ∃ x, x = wr.drew := ⟨_, rfl⟩
      rw [← hw3]
      have hb3 : Below W1.heap.size W1 w3 := by rw [hw3]; exact HB.out.drew
      have hb4 := Lib.hid (xb.trans (hb3.mono xb.size))
      have y0 := hb3.at_ xl x0
      have y1 := hb3.at_ xl x1
      have yf : w3.frozen? ⟨w.heap.size, 0, none⟩ = false := (hb3.frozen (p := ⟨w.heap.size, 0, none⟩) xl).trans (xf 0)
      have yf1 : w3.frozen? ⟨w.heap.size, 1, none⟩ = false := (hb3.frozen (p := ⟨w.heap.size, 1, none⟩) xl).trans (xf 1)
      have yl := Nat.lt_of_lt_of_le xl hb3.size
      clear hw3 hb3 HB
      go_wp2_with fail
      refine bodyPost_ret (v := .agg #[.int .i64 u, .int .i64 v]) (by simp [results, Tryz.results77, go_sem, y0, y1]) rfl ⟨by rw [HU.out, HV.out], ?_⟩
      exact (hb4.out.setCell (p := ⟨w.heap.size, 0, none⟩) (Nat.le_refl _) _).setCell (p := ⟨w.heap.size, 1, none⟩) (Nat.le_refl _) _
end Go.Proofs.YtfojjecnmfkcfaaGreat
namespace Go.Proofs.YtfojjecnmfkcfaaGreat
open Go.RowKit
set_option linter.unusedVariables false
def StbB (p : Value → World → Prop) : Prop := ∀ v w w', p v w → Below w.heap.size w w' → p v w'
theorem FL.keepB {l : List (Value → World → Prop)} (h : ∀ p ∈ l, StbB p) (i : Nat) (v : Value) (w w' : World) (H : FL l i v w) (hb : Below w.heap.size w w') : FL l i v w' := by
  unfold FL at H ⊢
  cases hl : l[i]? with
  | none => trivial
  | some p =>
    rw [hl] at H
    exact h p (List.mem_of_getElem? hl) v w w' H hb
/-- A list of one element, new; a variable, new. -/
def PRow (B : Nat) (xs : List Value) (v : Value) (w : World) : Prop := ∃ k, v = .slice (some ⟨k, 0, none⟩) 1 1 ∧ B ≤ k ∧ k < w.heap.size ∧ ∀ j u, xs[j]? = some u → w.cell? ((⟨k, 0, none⟩ : Addr).add j) = some u
def PNew (B : Nat) (xs : List Value) (v : Value) (w : World) : Prop := ∃ k, v = .pointer (some ⟨k, 0, none⟩) ∧ B ≤ k ∧ k < w.heap.size ∧ (∀ j u, xs[j]? = some u → w.cell? ⟨k, j, none⟩ = some u) ∧ ∀ o, w.frozen? ⟨k, o, none⟩ = false
theorem stbB_eq (x : Value) : StbB (PEq x) := fun _ _ _ h _ => h
theorem stbB_row (B : Nat) (xs : List Value) : StbB (PRow B xs) := by
  rintro v w w' ⟨k, e, h1, h2, h3⟩ hb
  exact ⟨k, e, h1, Nat.lt_of_lt_of_le h2 hb.size, fun j u hu => (hb.cell (p := (⟨k, 0, none⟩ : Addr).add j) (by rw [addr_add]; exact h2)).trans (h3 j u hu)⟩
theorem stbB_new (B : Nat) (xs : List Value) : StbB (PNew B xs) := by
  rintro v w w' ⟨k, e, h1, h2, h3, h4⟩ hb
  exact ⟨k, e, h1, Nat.lt_of_lt_of_le h2 hb.size, fun j u hu => (hb.cell (p := ⟨k, j, none⟩) h2).trans (h3 j u hu), fun o => (hb.frozen (p := ⟨k, o, none⟩) h2).trans (h4 o)⟩
theorem below_drew (w : World) : Below w.heap.size w w.drew := (Below.refl _ _).drew
end Go.Proofs.YtfojjecnmfkcfaaGreat
namespace Go.Proofs.YtfojjecnmfkcfaaGreat
open Go.RowKit
theorem gen_steps {P : Program} {ops : Array Oper} {Q : Exit → Act → World → Prop} {n : Nat} {a0 : Act} (hh : headOk ops n a0.tmps.size = true) (ht : tailOkW ops n = true) (hn : n ≤ ops.size)
    (G : (Nat → Bool) → (Nat → Value) → World → Prop)
    (step : ∀ i o, i < n → ops[i]? = some o → ∀ listed vals a w, listed.getD i false = false → (∀ e ∈ o.after, Region.binds .any e = true → listed.getD e.on false = true) → G (fun j => listed.getD j false) vals w → ActAt ops n a0 a listed vals →
      ∀ K : Act → World → Prop, (∀ v w', G (fun j => if j = i then true else listed.getD j false) (fun j => if j = i then v else vals j) w' → K (a.put o.dst v) w') → o.wp P a w K Q)
    (tail : ∀ vals w, G (fun j => (maskOf ops.size n).getD j false) vals w → wpAny P .any ops Q (ops.size - n) (maskOf ops.size n) (putAll ops vals a0 n) w) :
    ∀ (m : Nat) (listed : Array Bool) (vals : Nat → Value) (a : Act) (w : World), listed.size = ops.size → (∀ i, n ≤ i → listed.getD i false = false) → (∀ k o, k < n → listed.getD k false = true → ops[k]? = some o → ∀ e ∈ o.after, Region.binds .any e = true → listed.getD e.on false = true) → cnt listed n = m → G (fun j => listed.getD j false) vals w → ActAt ops n a0 a listed vals →
      wpAny P .any ops Q (m + (ops.size - n)) listed a w
  | 0, listed, vals, a, w, hs, hr, hcl, hc, hM, hA => by
    have hl := cnt_zero listed n hc
    have e : listed = maskOf ops.size n := by
      refine Array.ext_getElem? fun i => ?_
      by_cases h1 : i < ops.size
      · have h2 : i < listed.size := by omega
        have h3 : (maskOf ops.size n)[i]? = some (decide (i < n)) := by simp [maskOf, h1]
        rw [h3, Array.getElem?_eq_getElem h2]
        by_cases h4 : i < n
        · have := hl i h4
          rw [Array.getD_eq_getD_getElem?, Array.getElem?_eq_getElem h2] at this
          simpa [h4] using this
        · have := hr i (by omega)
          rw [Array.getD_eq_getD_getElem?, Array.getElem?_eq_getElem h2] at this
          simpa [h4] using this
      · rw [Array.getElem?_eq_none (by omega), Array.getElem?_eq_none (by simp [maskOf]; omega)]
    rw [act_eq hh hA hl, Nat.zero_add]
    subst e
    exact tail vals w hM
  | m + 1, listed, vals, a, w, hs, hr, hcl, hc, hM, hA => by
    obtain ⟨x, hx, hx1, hx2⟩ := cnt_pos listed n (by omega)
    have hxd : listed.getD x true = false := by
      rw [Array.getD_eq_getD_getElem?] at hx1 ⊢
      rw [Array.getElem?_eq_getElem (by omega)] at hx1 ⊢
      exact hx1
    rw [Nat.add_right_comm]
    refine ⟨fun h0 => ?_, fun i hi' => ?_⟩
    · obtain ⟨o, d, ho, _, he, _⟩ := head_at hh hx
      have : x ∈ Region.ready .any ops listed := mem_ready.2 ⟨by omega, hxd, o, ho, fun e hm _ => hx2 _ (he e hm)⟩
      rw [h0] at this; cases this
    · obtain ⟨hi1, hi2, o, ho, he⟩ := mem_ready.1 hi'
      have hi3 : listed.getD i false = false := by
        rw [Array.getD_eq_getD_getElem?] at hi2 ⊢
        rw [Array.getElem?_eq_getElem (by omega)] at hi2 ⊢
        exact hi2
      have hin : i < n := by
        rcases Nat.lt_or_ge i n with h | h
        · exact h
        · have h1 := List.all_eq_true.1 ht i (List.mem_range.2 hi1)
          simp only [Bool.or_eq_true, decide_eq_true_eq, List.all_eq_true, List.mem_range] at h1
          rcases h1 with h1 | h1 | h1
          · omega
          · exact (waitsTail_no ho hr he h1).elim
          · have := waits_listed hcl (n + 1) i x (fun o2 ho2 => by rw [ho] at ho2; injection ho2 with ho2; subst ho2; exact he) (h1 x hx)
            rw [hx1] at this; cases this
      obtain ⟨o', d, ho', hg, _, hd, hds, _⟩ := head_at hh hin
      rw [ho] at ho'; injection ho' with ho'; subst ho'
      have hdi : dstOf ops i = some d := by unfold dstOf; rw [ho]; exact hd
      unfold wpOp
      rw [ho]
      show if Region.wanted o (yielded ops a.tmps) = true then _ else _
      rw [if_pos (by simp [Region.wanted, hg])]
      refine .inl (step i o hin ho listed vals a w hi3 he hM hA _ fun v w' hg' => ?_)
      refine gen_steps hh ht hn G step tail m _ (fun j => if j = i then v else vals j) _ _ (by simpa using hs) (fun j hj => ?_) (fun k o3 hk hl ho3 e3 he3 hb3 => ?_) ?_ ?_ ?_
      · rw [getD_set _ _ _ (by omega), if_neg (by omega)]; exact hr j hj
      · have key : listed.getD e3.on false = true := by
          rw [getD_set _ _ _ (by omega)] at hl
          by_cases e : k = i
          · subst e
            rw [ho] at ho3; injection ho3 with ho3; subst ho3
            exact he e3 he3 hb3
          · rw [if_neg e] at hl
            exact hcl k o3 hk hl ho3 e3 he3 hb3
        rw [getD_set _ _ _ (by omega)]
        by_cases e : e3.on = i
        · rw [if_pos e]
        · rw [if_neg e]; exact key
      · have := cnt_set listed i (by omega) hi3 n
        rw [if_pos hin] at this; omega
      · have e : (fun j => (listed.setIfInBounds i true).getD j false) = fun j => if j = i then true else listed.getD j false := funext fun j => by rw [getD_set _ _ _ (by omega)]
        rw [e]; exact hg'
      · have hsd : d < a.tmps.size := by rw [hA.size]; exact hds
        refine ⟨by rw [hd]; exact hA.defers, by rw [hd]; simpa [Act.put] using hA.size, fun j d' hj hl hd' => ?_, fun t htt => ?_⟩
        · rw [hd, put_at _ _ _ _ hsd]
          rw [getD_set _ _ _ (by omega)] at hl
          by_cases e : j = i
          · subst e
            rw [hdi] at hd'; injection hd' with hd'
            simp [hd']
          · rw [if_neg e] at hl
            rw [if_neg (by rintro rfl; exact e (dst_inj hh hj hin hd' hdi)), if_neg e]
            exact hA.done j d' hj hl hd'
        · have hti : t ≠ d := by
            rintro rfl
            exact htt i hin (by rw [getD_set _ _ _ (by omega), if_pos rfl]) hdi
          rw [hd, put_at _ _ _ _ hsd, if_neg hti]
          refine hA.rest t fun j hj hl => htt j hj ?_
          rw [getD_set _ _ _ (by omega)]
          by_cases e : j = i
          · rw [if_pos e]
          · rw [if_neg e]; exact hl
/-- The rule. -/
theorem wp_gen {P : Program} {id : Nat} {ops : Array Oper} {Q : Exit → Act → World → Prop} {a0 : Act} {W1 : World} (n : Nat) (hm : P.follows .mixedOrders = true) (hh : headOk ops n a0.tmps.size = true) (ht : tailOkW ops n = true) (hn : n ≤ ops.size)
    (G : (Nat → Bool) → (Nat → Value) → World → Prop) (hG : ∀ vals, G (fun _ => false) vals W1.drew)
    (step : ∀ i o, i < n → ops[i]? = some o → ∀ listed vals a w, listed.getD i false = false → (∀ e ∈ o.after, Region.binds .any e = true → listed.getD e.on false = true) → G (fun j => listed.getD j false) vals w → ActAt ops n a0 a listed vals →
      ∀ K : Act → World → Prop, (∀ v w', G (fun j => if j = i then true else listed.getD j false) (fun j => if j = i then v else vals j) w' → K (a.put o.dst v) w') → o.wp P a w K Q)
    (tail : ∀ vals w, G (fun j => (maskOf ops.size n).getD j false) vals w → wpAny P .any ops Q (ops.size - n) (maskOf ops.size n) (putAll ops vals a0 n) w) : (Code.region id ops true).wp P Q a0 W1 := by
  refine wp_region_any hm ?_
  have hz : ∀ i, (Array.replicate ops.size false).getD i false = false := by
    intro i
    rw [Array.getD_eq_getD_getElem?]
    by_cases h : i < ops.size
    · simp [h]
    · simp [h]
  have hc : ∀ k, cnt (Array.replicate ops.size false) k = k := by
    intro k
    induction k with
    | zero => rfl
    | succ k ih => simp only [cnt, ih, hz]; simp
  have := gen_steps (Q := Q) (a0 := a0) hh ht hn G step tail n (Array.replicate ops.size false) (fun _ => undef) a0 W1.drew (by simp) (fun i _ => hz i) (fun k _ _ h => (by rw [hz] at h; cases h)) (hc n)
    (by have e : (fun j => (Array.replicate ops.size false).getD j false) = fun _ => false := funext hz
        rw [e]; exact hG _) ⟨rfl, rfl, fun i _ _ h => (by rw [hz] at h; cases h), fun _ _ => rfl⟩
  rw [show n + (ops.size - n) = ops.size by omega] at this
  exact this
end Go.Proofs.YtfojjecnmfkcfaaGreat
