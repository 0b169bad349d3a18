/- MadeTariff. FeeCosts' mathematics. -/
import Derived.Test.YtfojjecnmfkcfaaP15
import Derived.Test.YtfojjecnmfkcfaaP1
import Derived.Test.YtfojjecnmfkcfaaP3
import Derived.Test.YtfojjecnmfkcfaaP2
namespace Go.Proofs.Ytfojjecnmfkcfaa
open Go.RowKit
set_option linter.unusedVariables false
/-- Where 'MadeTariff' stands: its steps so far are a row of the call's own. -/
structure TS (W wr : World) (g : Nat) (L : Option Addr) (c : Nat) (zs : List Int) (t : List (Int × Int)) (v : Value) : Prop where
  own : wr.ownsRow W.heap.size 26 2 v t.length (pairs t)
  ch : ChE wr g L c zs
  gr : W.grownBy wr (some g)
  gW : g < W.heap.size
section
variable {W wr w1 : World} {g : Nat} {L : Option Addr} {c : Nat} {zs : List Int} {t : List (Int × Int)} {v : Value}
theorem TS.pull (h : TS W wr g L c zs t v) (hg : wr.grownBy w1 (some g)) (hC : ChE w1 g L c zs) : TS W w1 g L c zs t v := by
  have k1 := h.gW
  refine ⟨h.own.kept hg (.inr fun e => ?_), hC, grownBy_trans h.gr hg, k1⟩
  have := (h.own.lt g e).1
  omega
theorem TS.alloc (h : TS W wr g L c zs t v) (o : Obj) : TS W (wr.alloc o) g L c zs t v := by
  have hb := below_new wr o
  refine ⟨h.own.kept (grown_below (grownBy_self wr none) hb) ?_, h.ch.below hb, grown_below h.gr hb, h.gW⟩
  cases hv : v.ownBlock with
  | none => exact .inl rfl
  | some x => exact .inr (by intro e; cases e)
theorem pairs_append (t : List (Int × Int)) (x : Int × Int) : pairs (t ++ [x]) = pairs t ++ [.int .i64 x.1, .int .i64 x.2] := by
  unfold pairs; rw [List.flatMap_append]; simp
theorem TS.app (h : TS W wr g L c zs t v) {v1 : Value} {x : Int × Int} (ho : w1.ownsRow W.heap.size 26 2 v1 (t.length + 1) (pairs t ++ [.int .i64 x.1, .int .i64 x.2])) (hg : wr.grownBy w1 v.ownBlock) : TS W w1 g L c zs (t ++ [x]) v1 := by
  have k1 := h.gW
  have hz := hg.size
  have hzw := h.gr.size
  have hne : ∀ b, b < W.heap.size → some b ≠ v.ownBlock := fun b hb e => by have := (h.own.lt b e.symm).1; omega
  refine ⟨by rw [pairs_append, List.length_append]; exact ho, h.ch.keep hz fun k hk => hg.block k (by omega) (hne k (by omega)), grown_row h.gr hg fun x e => (h.own.lt x e).1, k1⟩
end
/-- What is true of the steps made so far. -/
structure MT (t : List (Int × Int)) (u : Int) : Prop where
  up : ∀ i, i < t.length → 1 ≤ (t.getD i (0, 0)).1 ∧ (t.getD i (0, 0)).1 ≤ 900 * (i + 1) ∧ 0 ≤ (t.getD i (0, 0)).2 ∧ (t.getD i (0, 0)).2 ≤ 59
  rise : ∀ i, i + 1 < t.length → (t.getD i (0, 0)).1 < (t.getD (i + 1) (0, 0)).1
  last : (t = [] ∧ u = 0) ∨ (∃ k, t.length = k + 1 ∧ u = (t.getD k (0, 0)).1)
theorem MT.bd {t : List (Int × Int)} {u : Int} (h : MT t u) : 0 ≤ u ∧ u ≤ 900 * t.length := by
  rcases h.last with ⟨rfl, rfl⟩ | ⟨k, hk, rfl⟩
  · simp
  · have := h.up k (by omega)
    rw [hk]; omega
theorem MT.snoc {t : List (Int × Int)} {u d q : Int} (h : MT t u) (h1 : 1 ≤ d) (h2 : d ≤ 900) (h3 : 0 ≤ q) (h4 : q ≤ 59) : MT (t ++ [(u + d, q)]) (u + d) := by
  have hb := h.bd
  have e1 : ∀ i, i < t.length → (t ++ [(u + d, q)]).getD i (0, 0) = t.getD i (0, 0) := fun i hi => by simp [List.getD_eq_getElem?_getD, List.getElem?_append_left hi]
  have e2 : (t ++ [(u + d, q)]).getD t.length (0, 0) = (u + d, q) := by simp [List.getD_eq_getElem?_getD]
  refine ⟨fun i hi => ?_, fun i hi => ?_, .inr ⟨t.length, by simp, by rw [e2]⟩⟩
  · rw [List.length_append] at hi
    by_cases h5 : i < t.length
    · rw [e1 i h5]; exact h.up i h5
    · have : i = t.length := by simp at hi; omega
      subst this
      rw [e2]
      exact ⟨by show 1 ≤ u + d; omega, by show u + d ≤ _; omega, h3, h4⟩
  · rw [List.length_append] at hi
    simp at hi
    by_cases h5 : i + 1 < t.length
    · rw [e1 i (by omega), e1 (i + 1) h5]; exact h.rise i h5
    · have h6 : i + 1 = t.length := by omega
      rw [e1 i (by omega), h6, e2]
      rcases h.last with ⟨rfl, _⟩ | ⟨k, hk, rfl⟩
      · simp at h6
      · have : i = k := by omega
        subst this
        show _ < _ + d
        omega
def MadeTPost (g : Nat) (L : Option Addr) (c : Nat) (zs : List Int) (W : World) (e : Ending) (w' : World) : Prop :=
  ∃ t v u, e = .returned v ∧ 1 ≤ t.length ∧ t.length ≤ 4 ∧ MT t u ∧ w'.ownsRow W.heap.size 26 2 v t.length (pairs t) ∧ ChE w' g L c zs ∧ W.grownBy w' (some g)
set_option maxRecDepth 100000 in
set_option maxHeartbeats 4000000 in
theorem madeTariff_any (g : Nat) (L : Option Addr) (c : Nat) (zs : List Int) (w : World) (hC : ChE w g L c zs) :
    Calls Try.prog 42 #[.pointer (some ⟨g, 0, none⟩)] w (MadeTPost g L c zs w) := by
  obtain ⟨i0, hi, hz0, hz1, hz2⟩ := info_parts infoStep
  have gl := hC.lt
  go_enter Try.func42, Try.ntmps42
  go_wp2_with fail
  refine (betweenE_any g L c zs 1 4 w hC (by omega) (by omega) (by omega)).mono ?_
  rintro e w1 ⟨nn, rfl, n0, n1, hC1, hg1⟩
  have M0 : Hid (TS w w1 g L c zs [] (.slice none 0 0)) := ⟨⟨rfl, .inl ⟨rfl, rfl⟩⟩, hC1, hg1, gl⟩
  have HB0 : Hid (MT [] 0) := ⟨fun i hi => absurd hi (Nat.not_lt_zero _), fun i hi => absurd hi (Nat.not_lt_zero _), .inl ⟨rfl, rfl⟩⟩
  clear hC1 hg1 hC
  go_wp2_with fail
  go_loopw [3, 4, 7] (fun v us iv wr => ∃ (t : List (Int × Int)) (u : Int), iv = .int .i64 t.length ∧ (t.length : Int) ≤ nn ∧ us = .int .i64 u ∧ Hid (TS w wr g L c zs t v) ∧ Hid (MT t u)) (fun _ _ i _ => nn.toNat - (intOf i).toNat)
  case atStart => exact ⟨[], 0, rfl, by simp; omega, rfl, M0, HB0⟩
  case round =>
    clear M0 HB0
    obtain ⟨t, u, rfl, ht, rfl, HM, HB⟩ := hrel
    obtain ⟨s1, s2⟩ := HB.out.bd
    have ht6 : (t.length : Int) ≤ 4 := by omega
    by_cases hlt : (t.length : Int) < nn
    · go_wp2_with fail
      refine (betweenE_any g L c zs 1 900 _ HM.out.ch (by omega) (by omega) (by omega)).mono ?_
      rintro e w3 ⟨d, rfl, d0, d1, hC3, hg3⟩
      have HM3 := Lib.hid (HM.out.pull hg3 hC3)
      clear hC3 hg3 HM
      go_wp2_with fail
      refine (pullE_any g L c zs 60 _ HM3.out.ch (by omega)).mono ?_
      rintro e w4 ⟨q, rfl, _, hq, hC4, hg4⟩
      obtain ⟨q0, q1⟩ := hq (by omega)
      have HM4 := Lib.hid (HM3.out.pull hg4 hC4)
      have HB2 := Lib.hid (HB.out.snoc (d := d) (q := q) (by omega) (by omega) (by omega) (by omega))
      clear hq hC4 hg4 HM3
      have hz4 := HM4.out.gr.size
      have HA := Lib.hid (HM4.out.alloc (.cells #[.int .i64 (u + d), .int .i64 q] 26))
      go_wp2_with (at_builtin; refine wpList_append_own_at _ rfl _ _ 22 rfl w.heap.size 26 i0 _ 2 16 Try.underlying22 hi hz0 hz1 hz2 rfl (by decide) _ _ _ rfl HA.out.own ⟨w4.heap.size, 0, none⟩ 1 1 [.int .i64 (u + d), .int .i64 q] rfl rfl (news_new _ _ _ rfl) (by simp [Value.oneCell']) (by simp only [maxLen]; omega) (by omega) (by simp; omega) ?_; intro v1 w8 hown1 hgrow1 _ hat1; obtain ⟨B1, cc1, rfl, _, _⟩ := own_slice hown1; have M2 := Lib.hid (HA.out.app (x := (u + d, q)) hown1 hgrow1); clear hown1 hgrow1 hat1)
      go_roundw
      case rel =>
        refine ⟨t ++ [(u + d, q)], u + d, ?_, ?_, rfl, ?_, HB2⟩
        · rw [List.length_append]; go_num
        · rw [List.length_append]; simp; omega
        · exact M2.out
      case measure => simp [intOf]; omega
    · have hlen : (t.length : Int) = nn := by omega
      have hown := HM.out
      go_wp2_with fail
      go_ret
      exact ⟨t, _, u, rfl, by omega, by omega, HB.out, hown.own, hown.ch, hown.gr⟩
end Go.Proofs.Ytfojjecnmfkcfaa
namespace Go.Proofs.Ytfojjecnmfkcfaa
open Go.RowKit
set_option linter.unusedVariables false
theorem costF_zero (t : List (Int × Int)) (hs : stepsOk t) : costF t 0 = 0 := by
  unfold costF; rw [costK_zero t hs t.length (Nat.le_refl _)]; rfl
theorem lastOk_spec (q : Int → Bool) (h0 : q 0 = true) : ∀ k : Nat, q (lastOk q k) = true ∧ ∀ x : Int, lastOk q k < x → x ≤ k → q x = false := by
  intro k
  induction k with
  | zero => exact ⟨h0, fun x h1 h2 => by simp only [lastOk] at h1; omega⟩
  | succ k ih =>
    simp only [lastOk]
    by_cases h : q ((k + 1 : Nat) : Int) = true
    · rw [if_pos h]
      exact ⟨h, fun x h1 h2 => by omega⟩
    · rw [if_neg h]
      refine ⟨ih.1, fun x h1 h2 => ?_⟩
      by_cases e : x = ((k + 1 : Nat) : Int)
      · rw [e]; simpa using h
      · exact ih.2 x h1 (by omega)
theorem pounds_says (t : List (Int × Int)) (hs : stepsOk t) (p : Int) (hp : 0 ≤ p) : costF t (poundsF t p) ≤ p ∧ 0 ≤ poundsF t p ∧ poundsF t p ≤ 20000 ∧ ∀ n, 0 ≤ n → n ≤ 20000 → (n ≤ poundsF t p ↔ costF t n ≤ p) := by
  have hz := costF_zero t hs
  have hb := lastOk_bd (fun n => decide (costF t n ≤ p)) 20000
  obtain ⟨a, b⟩ := lastOk_spec (fun n => decide (costF t n ≤ p)) (by simp [hz, hp]) 20000
  change decide (costF t (poundsF t p) ≤ p) = true at a
  change ∀ x : Int, poundsF t p < x → x ≤ 20000 → _ at b
  change 0 ≤ poundsF t p ∧ poundsF t p ≤ 20000 at hb
  have a' := of_decide_eq_true a
  refine ⟨a', hb.1, hb.2, fun n n0 n1 => ⟨fun h => ?_, fun h => ?_⟩⟩
  · have := costF_mono t hs n _ h; omega
  · by_cases hx : n ≤ poundsF t p
    · exact hx
    · have := b n (by omega) n1
      simp only [decide_eq_false_iff_not] at this
      exact absurd h this
theorem costF_one (s : Int × Int) (n : Int) (h : 0 ≤ n) : costF [s] n = (n * s.2 + 99) / 100 := by
  have e : max 0 n = n := by omega
  simp [costF, costK, e]
theorem flat_split (s : Int × Int) (n : Int) (h : 0 ≤ n) : costF [s] n ≤ costF [s] (n / 3) + costF [s] (n - n / 3) ∧ costF [s] (n / 3) + costF [s] (n - n / 3) ≤ costF [s] n + 1 := by
  rw [costF_one s n h, costF_one s (n / 3) (by omega), costF_one s (n - n / 3) (by omega)]
  have e : n * s.2 = (n / 3) * s.2 + (n - n / 3) * s.2 := by rw [← Int.add_mul]; congr 1; omega
  rw [e]
  generalize (n / 3) * s.2 = x
  generalize (n - n / 3) * s.2 = y
  omega
theorem costK_app (t : List (Int × Int)) (s : Int × Int) (n : Int) : ∀ k, k < t.length → costK (t ++ [s]) n k = costK t n k := by
  intro k
  induction k with
  | zero => intro _; rfl
  | succ k ih =>
    intro hk
    have e : (t ++ [s]).getD k (0, 0) = t.getD k (0, 0) := by simp [List.getD_eq_getElem?_getD, List.getElem?_append_left (show k < t.length by omega)]
    have h1 : ¬ k + 1 = (t ++ [s]).length := by simp; omega
    have h2 : ¬ k + 1 = t.length := by omega
    simp only [costK, e, ih (by omega), if_neg h1, if_neg h2]
theorem costF_app (t : List (Int × Int)) (s : Int × Int) (n : Int) {m : Nat} (hm : t.length = m + 1) (hn : n ≤ (t.getD m (0, 0)).1) : costF (t ++ [s]) n = costF t n := by
  have e : (t ++ [s]).getD m (0, 0) = t.getD m (0, 0) := by simp [List.getD_eq_getElem?_getD, List.getElem?_append_left (show m < t.length by omega)]
  have h1 : (t ++ [s]).length = m + 1 + 1 := by simp [hm]
  have h2 : ¬ m + 1 = m + 1 + 1 := by omega
  have hmin : min n (t.getD m (0, 0)).1 = n := by omega
  unfold costF
  rw [h1, hm]
  have k1 := costK_app t s n m (by omega)
  have a : costK (t ++ [s]) n (m + 1) = costK t n (m + 1) := by
    simp only [costK, e, k1, h1, hm, if_neg h2, if_true, hmin]
  have b : (costK t n (m + 1)).2 = (t.getD m (0, 0)).1 := by simp only [costK]
  have c : (costK (t ++ [s]) n (m + 1 + 1)).1 = (costK t n (m + 1)).1 := by
    show (costK (t ++ [s]) n (m + 1)).1 + max 0 (_ - (costK (t ++ [s]) n (m + 1)).2) * _ = _
    rw [a, b, if_pos h1.symm]
    have : max 0 (n - (t.getD m (0, 0)).1) = 0 := by omega
    rw [this, Int.zero_mul, Int.add_zero]
  rw [c]
theorem rises_of (b : Int) : ∀ l : List Int, (∀ k (h : k + 1 < l.length), l[k] + b ≤ l[k + 1]) → risesB b l = true
  | [], _ => rfl
  | [_], _ => rfl
  | x :: y :: l, h => by
    simp only [risesB, Bool.and_eq_true, decide_eq_true_eq]
    refine ⟨h 0 (by simp), rises_of b (y :: l) fun k hk => ?_⟩
    exact h (k + 1) (by simp at hk ⊢; omega)
theorem ckTariff_of {t : List (Int × Int)} (h1 : 1 ≤ t.length) (h2 : t.length ≤ 4) (h3 : ∀ i, i < t.length → 1 ≤ (t.getD i (0, 0)).1 ∧ (t.getD i (0, 0)).1 ≤ 20000 ∧ 0 ≤ (t.getD i (0, 0)).2 ∧ (t.getD i (0, 0)).2 ≤ 500)
    (h4 : ∀ i, i + 1 < t.length → (t.getD i (0, 0)).1 < (t.getD (i + 1) (0, 0)).1) : ckTariff t = 0 := by
  have e1 : t.any notOk = false := List.any_eq_false.2 fun x hx => by
    obtain ⟨i, hi, rfl⟩ := List.mem_iff_getElem.1 hx
    have := h3 i hi
    simp only [List.getD_eq_getElem?_getD, List.getElem?_eq_getElem hi, Option.getD_some] at this
    simp [notOk, stepOk, inB]; omega
  have e2 : risesB 1 (t.map (·.1)) = true := rises_of 1 _ fun k hk => by
    simp only [List.length_map] at hk
    have := h4 k hk
    simp only [List.getD_eq_getElem?_getD, List.getElem?_eq_getElem hk, List.getElem?_eq_getElem (show k < t.length by omega), Option.getD_some] at this
    simp only [List.getElem_map]; omega
  unfold ckTariff
  rw [if_neg (by omega), e1, e2]; rfl
theorem made_ok {t : List (Int × Int)} {u : Int} (h : MT t u) (h1 : 1 ≤ t.length) (h2 : t.length ≤ 4) : ckTariff t = 0 :=
  ckTariff_of h1 h2 (fun i hi => by have := h.up i hi; omega) h.rise
theorem made_more {t : List (Int × Int)} {u : Int} (h : MT t u) {m : Nat} (h1 : t.length = m + 1) (h2 : t.length < 4) : ckTariff (t ++ [((t.getD m (0, 0)).1 + 7, 500)]) = 0 := by
  have e1 : ∀ i, i < t.length → (t ++ [((t.getD m (0, 0)).1 + 7, 500)]).getD i (0, 0) = t.getD i (0, 0) := fun i hi => by simp [List.getD_eq_getElem?_getD, List.getElem?_append_left hi]
  have e2 : (t ++ [((t.getD m (0, 0)).1 + 7, 500)]).getD t.length (0, 0) = ((t.getD m (0, 0)).1 + 7, 500) := by simp [List.getD_eq_getElem?_getD]
  have hm := h.up m (by omega)
  refine ckTariff_of (by simp) (by simp; omega) (fun i hi => ?_) fun i hi => ?_
  · rw [List.length_append] at hi
    simp at hi
    by_cases h5 : i < t.length
    · rw [e1 i h5]; have := h.up i h5; omega
    · have : i = t.length := by omega
      subst this
      rw [e2]
      show 1 ≤ (t.getD m (0, 0)).1 + 7 ∧ (t.getD m (0, 0)).1 + 7 ≤ 20000 ∧ (0 : Int) ≤ 500 ∧ (500 : Int) ≤ 500
      omega
  · rw [List.length_append] at hi
    simp at hi
    by_cases h5 : i + 1 < t.length
    · rw [e1 i (by omega), e1 (i + 1) h5]; exact h.rise i h5
    · have h6 : i + 1 = t.length := by omega
      rw [e1 i (by omega), h6, e2]
      have : i = m := by omega
      subst this
      show _ < _ + 7
      omega
theorem made_one {t : List (Int × Int)} {u : Int} (h : MT t u) (h1 : 1 ≤ t.length) : ckTariff [t.getD 0 (0, 0)] = 0 := by
  have := h.up 0 (by omega)
  refine ckTariff_of (by simp) (by simp) (fun i hi => ?_) fun i hi => ?_
  · have : i = 0 := by simp at hi; omega
    subst this
    simp only [List.getD_cons_zero]; omega
  · simp at hi
theorem costG_any (A : Option Addr) (c : Nat) (t : List (Int × Int)) (p : Int) (w : World) (hr : Rd w w.heap.size A (pairs t)) (hc : t.length ≤ c) (hk : ckTariff t = 0) (h0 : 0 ≤ p) (h1 : p ≤ 20000) :
    Calls Try.prog 21 #[.slice A t.length c, .int .i64 p] w fun e w' => e = .returned (.tuple #[.int .i64 (costF t p), .int .i64 0]) ∧ Below w.heap.size w w' := by
  have e1 : costCode t p = 0 := by unfold costCode; rw [if_pos hk, if_pos ⟨h0, h1⟩]
  have e2 : costRes t p = costF t p := by unfold costRes; rw [if_pos e1]
  have := Cost_any A c t p w hr (by have := (ckTariff_ok hk).2.1; omega) hc
  rw [e1, e2] at this
  exact this
theorem poundsG_any (A : Option Addr) (c : Nat) (t : List (Int × Int)) (p : Int) (w : World) (hr : Rd w w.heap.size A (pairs t)) (hc : t.length ≤ c) (hk : ckTariff t = 0) (h0 : 0 ≤ p) :
    Calls Try.prog 23 #[.slice A t.length c, .int .i64 p] w fun e w' => e = .returned (.tuple #[.int .i64 (poundsF t p), .int .i64 0]) ∧ Below w.heap.size w w' := by
  have e1 : poundsCode t p = 0 := by unfold poundsCode; rw [if_pos hk, if_neg (by omega)]
  have e2 : poundsRes t p = poundsF t p := by unfold poundsRes; rw [if_pos e1]
  have := Pounds_any A c t p w hr (by have := (ckTariff_ok hk).2.1; omega) hc
  rw [e1, e2] at this
  exact this
theorem checkG_any (A : Option Addr) (c : Nat) (t : List (Int × Int)) (w : World) (hr : Rd w w.heap.size A (pairs t)) (hc : t.length ≤ c) (hk : ckTariff t = 0) :
    Calls Try.prog 19 #[.slice A t.length c] w fun e w' => e = .returned (.int .i64 0) ∧ Below w.heap.size w w' := by
  have := checkTariff_any A c t w hr (by have := (ckTariff_ok hk).2.1; omega) hc
  rw [hk] at this
  exact this
theorem costF_bd (t : List (Int × Int)) (hk : ckTariff t = 0) (p : Int) (h0 : 0 ≤ p) (h1 : p ≤ 20000) : 0 ≤ costF t p ∧ costF t p ≤ 1000000 := by
  obtain ⟨l1, l4, hs, _⟩ := ckTariff_ok hk
  have := costK_bd t p hs h0 h1 t.length (Nat.le_refl _)
  unfold costF
  omega
theorem rd_one {w W : World} {a b : Int} {t : TypeId} (h : w.alloc (.cells #[.int .i64 a, .int .i64 b] t) = W) : Rd W W.heap.size (some ⟨w.heap.size, 0, none⟩) (pairs [(a, b)]) ∧ Below w.heap.size w W := by
  subst h
  refine ⟨fun _ => ⟨w.heap.size, 0, rfl, by simp, fun j u hu => ?_⟩, below_new w _⟩
  have := news_new w [.int .i64 a, .int .i64 b] t rfl j u hu
  rwa [addr_add] at this
end Go.Proofs.Ytfojjecnmfkcfaa
