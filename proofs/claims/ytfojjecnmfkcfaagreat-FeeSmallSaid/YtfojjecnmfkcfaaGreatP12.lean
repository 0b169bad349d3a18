/- The reference's shares by bids: filling from the first house on, and passes over all pairs; plain mathematics. The reference: whether a house outbids another one, at every bill of at most six houses that are right, and shares from 0 to 500. The reference: the error of a bill, at every bill of at most 1000 houses. The reference: the shares by bids, or nothing if there are none, at every bill of one to six houses that are right, and from 0 to 500 pence. -/
import Derived.Test.YtfojjecnmfkcfaaGreatP8
import Derived.Test.YtfojjecnmfkcfaaGreatP7
import Derived.Test.YtfojjecnmfkcfaaGreatP3
import Derived.Test.YtfojjecnmfkcfaaGreatP11
import Derived.Deep.LoopGhost
namespace Go.Proofs.YtfojjecnmfkcfaaGreat
set_option linter.unusedVariables false
/-- Filled from the first house on: the houses before i are full as long as something is left. -/
structure Fill (hs : List (Int × Int × Int)) (p : Int) (qs : List Int) (left : Int) (i : Nat) : Prop where
  fit : fitsN hs qs
  sum : qs.sum + left = p
  full : 0 < left → ∀ j, j < i → qs.getD j 0 = hM hs j
  low : ∀ j, i ≤ j → j < hs.length → qs.getD j 0 = hL hs j
  neg : left < 0 → leastSum hs + left = p
theorem leastsN_getD (hs : List (Int × Int × Int)) (j : Nat) (hj : j < hs.length) : (hs.map (·.2.1)).getD j 0 = hL hs j := by
  unfold hL; simp [List.getD_eq_getElem?_getD, List.getElem?_eq_getElem hj]
theorem fill_start {hs : List (Int × Int × Int)} (ho : housesOk hs) (p : Int) : Fill hs p (hs.map (·.2.1)) (p - leastSum hs) 0 := by
  refine ⟨⟨by simp, fun i hi => ?_⟩, by unfold leastSum; omega, fun _ j hj => by omega, fun j _ hj => leastsN_getD hs j hj, fun _ => by omega⟩
  rw [leastsN_getD hs i hi]
  have := hL_bd ho i
  omega
theorem fill_part {hs : List (Int × Int × Int)} {p : Int} {qs : List Int} {left : Int} {i : Nat} (h : Fill hs p qs left i) (hi : i < hs.length) (h0 : 0 < left) (hl : left < hM hs i - qs.getD i 0) : Fill hs p (qs.set i (qs.getD i 0 + left)) 0 (i + 1) := by
  have hil : i < qs.length := by rw [h.fit.1]; exact hi
  refine ⟨⟨by rw [List.length_set]; exact h.fit.1, fun j hj => ?_⟩, ?_, fun h => by omega, fun j hj hj2 => ?_, fun h => by omega⟩
  · rw [set_getD _ _ _ _ hil]
    have h1 := h.fit.2 j hj
    by_cases e : j = i
    · subst e
      rw [if_pos rfl]; omega
    · rw [if_neg e]; exact h1
  · rw [sum_set _ _ _ hil]
    have := h.sum
    omega
  · rw [set_getD _ _ _ _ hil, if_neg (by omega)]
    exact h.low j (by omega) hj2
theorem fill_full {hs : List (Int × Int × Int)} {p : Int} {qs : List Int} {left : Int} {i : Nat} (h : Fill hs p qs left i) (hi : i < hs.length) (h0 : 0 < left) (hl : hM hs i - qs.getD i 0 ≤ left) : Fill hs p (qs.set i (hM hs i)) (left - (hM hs i - qs.getD i 0)) (i + 1) := by
  have hil : i < qs.length := by rw [h.fit.1]; exact hi
  have hb := h.fit.2 i hi
  refine ⟨⟨by rw [List.length_set]; exact h.fit.1, fun j hj => ?_⟩, ?_, fun hp j hj => ?_, fun j hj hj2 => ?_, fun h => by omega⟩
  · rw [set_getD _ _ _ _ hil]
    have h1 := h.fit.2 j hj
    by_cases e : j = i
    · subst e
      rw [if_pos rfl]; omega
    · rw [if_neg e]; exact h1
  · rw [sum_set _ _ _ hil]
    have := h.sum
    omega
  · rw [set_getD _ _ _ _ hil]
    by_cases e : j = i
    · rw [if_pos e, e]
    · rw [if_neg e]
      exact h.full h0 j (by omega)
  · rw [set_getD _ _ _ _ hil, if_neg (by omega)]
    exact h.low j (by omega) hj2
theorem most_sum_of {hs : List (Int × Int × Int)} {qs : List Int} (hl : qs.length = hs.length) (h : ∀ j, j < hs.length → qs.getD j 0 = hM hs j) : qs.sum = mostSum hs := by
  have e : qs = hs.map (·.2.2) := by
    refine ext_of _ _ (by simp [hl]) fun i => ?_
    by_cases hi : i < hs.length
    · rw [h i hi]
      unfold hM
      simp [List.getD_eq_getElem?_getD, List.getElem?_eq_getElem hi]
    · rw [List.getD_eq_getElem?_getD, List.getD_eq_getElem?_getD, List.getElem?_eq_none (by omega), List.getElem?_eq_none (by simp; omega)]
  rw [e]; rfl
theorem fitsN_sum {hs : List (Int × Int × Int)} {qs : List Int} (h : fitsN hs qs) : leastSum hs ≤ qs.sum ∧ qs.sum ≤ mostSum hs := by
  have key : ∀ j, (hs.map (·.2.1)).getD j 0 ≤ qs.getD j 0 ∧ qs.getD j 0 ≤ (hs.map (·.2.2)).getD j 0 := by
    intro j
    by_cases hj : j < hs.length
    · have := h.2 j hj
      rw [leastsN_getD hs j hj]
      refine ⟨this.1, ?_⟩
      have e : (hs.map (·.2.2)).getD j 0 = hM hs j := by unfold hM; simp [List.getD_eq_getElem?_getD, List.getElem?_eq_getElem hj]
      rw [e]; exact this.2
    · have e1 : qs.getD j 0 = 0 := by rw [List.getD_eq_getElem?_getD, List.getElem?_eq_none (by rw [h.1]; omega)]; rfl
      have e2 : (hs.map (·.2.1)).getD j 0 = 0 := by rw [List.getD_eq_getElem?_getD, List.getElem?_eq_none (by simp; omega)]; rfl
      have e3 : (hs.map (·.2.2)).getD j 0 = 0 := by rw [List.getD_eq_getElem?_getD, List.getElem?_eq_none (by simp; omega)]; rfl
      rw [e1, e2, e3]; omega
  exact ⟨sum_le_of _ _ (by simp [h.1]) fun i => (key i).1, sum_le_of _ _ (by simp [h.1]) fun i => (key i).2⟩
/-- Nothing is left: there are shares. Else there are none. -/
theorem fill_end {hs : List (Int × Int × Int)} (ho : housesOk hs) {p : Int} {qs : List Int} {left : Int} {i : Nat} (h : Fill hs p qs left i) (he : hs.length ≤ i ∨ left ≤ 0) : bidOk hs p = decide (left = 0) := by
  by_cases h0 : left = 0
  · subst h0
    rw [decide_eq_true rfl, bidOk_iff ho]
    have h1 := fitsN_sum h.fit
    have h2 := h.sum
    omega
  · rw [decide_eq_false h0]
    have : ¬ bidOk hs p = true := by
      rw [bidOk_iff ho]
      intro hb
      rcases Int.lt_or_le 0 left with hp | hp
      · have hf := most_sum_of h.fit.1 (fun j hj => h.full hp j (by omega))
        have := h.sum
        omega
      · have := h.neg (by omega)
        omega
    simpa using this
/-- A pass over pairs, up to (i, k). -/
structure Pass (hs : List (Int × Int × Int)) (p : Int) (q0 qs : List Int) (b : Bool) (i k : Nat) : Prop where
  fit : fitsN hs qs
  sum : qs.sum = p
  still : b = false → qs = q0 ∧ ∀ i' k', (i' < i ∨ (i' = i ∧ k' < k)) → i' < hs.length → k' < hs.length → outB hs q0 i' k' = false
  less : b = true → phi hs qs < phi hs q0
theorem pass_start {hs : List (Int × Int × Int)} {p : Int} {qs : List Int} (h1 : fitsN hs qs) (h2 : qs.sum = p) : Pass hs p qs qs false 0 0 :=
  ⟨h1, h2, fun _ => ⟨rfl, fun i' k' h => by omega⟩, fun h => by cases h⟩
theorem pass_row {hs : List (Int × Int × Int)} {p : Int} {q0 qs : List Int} {b : Bool} {i : Nat} (h : Pass hs p q0 qs b i hs.length) : Pass hs p q0 qs b (i + 1) 0 :=
  ⟨h.fit, h.sum, fun hb => ⟨(h.still hb).1, fun i' k' hi h1 h2 => (h.still hb).2 i' k' (by omega) h1 h2⟩, h.less⟩
theorem pass_skip {hs : List (Int × Int × Int)} {p : Int} {q0 qs : List Int} {b : Bool} {i k : Nat} (h : Pass hs p q0 qs b i k) (ho : outB hs qs i k = false) : Pass hs p q0 qs b i (k + 1) := by
  refine ⟨h.fit, h.sum, fun hb => ⟨(h.still hb).1, fun i' k' hi h1 h2 => ?_⟩, h.less⟩
  by_cases e : i' = i ∧ k' = k
  · obtain ⟨rfl, rfl⟩ := e
    rw [(h.still hb).1] at ho
    exact ho
  · exact (h.still hb).2 i' k' (by omega) h1 h2
theorem outB_of {hs : List (Int × Int × Int)} {qs : List Int} {i k : Nat} (h : outB hs qs i k = true) : i ≠ k ∧ qs.getD i 0 < hM hs i ∧ hL hs k < qs.getD k 0 ∧ slotLt (hV hs i) i (qs.getD i 0 + 1) (hV hs k) k (qs.getD k 0) := by
  unfold outB at h
  simpa only [Bool.and_eq_true, decide_eq_true_eq] using h
theorem pass_move {hs : List (Int × Int × Int)} (hh : housesOk hs) {p : Int} {q0 qs : List Int} {b : Bool} {i k : Nat} (h : Pass hs p q0 qs b i k) (hi : i < hs.length) (hk : k < hs.length) (ho : outB hs qs i k = true) : Pass hs p q0 (move qs i k) true i (k + 1) := by
  obtain ⟨hne, h1, h2, h3⟩ := outB_of ho
  have hl6 := hh.1
  have il : i < qs.length := by rw [h.fit.1]; exact hi
  have kl : k < qs.length := by rw [h.fit.1]; exact hk
  have bi := h.fit.2 i hi
  have li := hL_bd hh i
  have lk := hL_bd hh k
  have hp := phi_move hh il kl (by omega) (by omega) hne (by omega) (by omega) (by omega) h3
  refine ⟨fitsN_move h.fit hi hk hne h1 h2, by rw [move_sum qs i k il kl hne]; exact h.sum, fun hb => (by cases hb), fun _ => ?_⟩
  cases b with
  | true => exact Nat.lt_trans hp (h.less rfl)
  | false => rw [(h.still rfl).1] at hp ⊢; exact hp
theorem pass_end {hs : List (Int × Int × Int)} (hh : housesOk hs) {p : Int} {q0 qs : List Int} (h : Pass hs p q0 qs false hs.length 0) (hk : bidOk hs p = true) : qs = (bidPs hs p).take hs.length := by
  refine bids_unique_n hh hk h.fit ?_ h.sum
  intro i k hi hk' hne h1 h2 h3
  have e := (h.still rfl).2 i k (by omega) hi hk'
  rw [← (h.still rfl).1] at e
  rw [outB_yes hne h1 h2 h3] at e
  cases e
theorem fitsN_bd {hs : List (Int × Int × Int)} (hh : housesOk hs) {qs : List Int} (h : fitsN hs qs) : ∀ z ∈ qs, 0 ≤ z ∧ z ≤ 500 := by
  intro z hz
  obtain ⟨i, hi, rfl⟩ := List.mem_iff_getElem.1 hz
  have hi' : i < hs.length := by rw [← h.1]; exact hi
  have h1 := h.2 i hi'
  have h2 := hL_bd hh i
  rw [List.getD_eq_getElem?_getD, List.getElem?_eq_getElem hi] at h1
  simp at h1
  omega
end Go.Proofs.YtfojjecnmfkcfaaGreat
namespace Go.Proofs.YtfojjecnmfkcfaaGreat
open Go.RowKit
set_option linter.unusedVariables false
set_option maxHeartbeats 4000000 in
theorem rOutbids_any (A : Option Addr) (c : Nat) (p : Int) (hs : List (Int × Int × Int)) (L : Option Addr) (cl : Nat) (qs : List Int) (i k : Nat) (w : World) (hr : Rd w w.heap.size A (trips hs)) (ho : housesOk hs) (hq : Rd w w.heap.size L (ints qs)) (hql : qs.length = hs.length)
    (hqb : ∀ z ∈ qs, 0 ≤ z ∧ z ≤ 500) (hi : i < hs.length) (hk : k < hs.length) :
    Calls Tryz.prog 89 #[.agg #[.int .i64 p, .slice A hs.length c], .slice L qs.length cl, .int .i64 i, .int .i64 k] w fun e w' => e = .returned (.bool (outB hs qs i k)) ∧ Below w.heap.size w w' := by
  have ei : qs.getD i 0 = qs[i]'(by omega) := by simp [List.getD_eq_getElem?_getD, List.getElem?_eq_getElem (show i < qs.length by omega)]
  have ek : qs.getD k 0 = qs[k]'(by omega) := by simp [List.getD_eq_getElem?_getD, List.getElem?_eq_getElem (show k < qs.length by omega)]
  have eM : hM hs i = hs[i].2.2 := by unfold hM; simp [List.getD_eq_getElem?_getD, List.getElem?_eq_getElem hi]
  have eL : hL hs k = hs[k].2.1 := by unfold hL; simp [List.getD_eq_getElem?_getD, List.getElem?_eq_getElem hk]
  have eVi : hV hs i = hs[i].1 := by unfold hV; simp [List.getD_eq_getElem?_getD, List.getElem?_eq_getElem hi]
  have eVk : hV hs k = hs[k].1 := by unfold hV; simp [List.getD_eq_getElem?_getD, List.getElem?_eq_getElem hk]
  have hO : outB hs qs i k = (decide (i ≠ k) && (decide (qs[i]'(by omega) < hs[i].2.2) && (decide (hs[k].2.1 < qs[k]'(by omega)) && decide (slotLt hs[i].1 i (qs[i]'(by omega) + 1) hs[k].1 k (qs[k]'(by omega)))))) := by
    unfold outB; rw [ei, ek, eM, eL, eVi, eVk]
  have HO := Lib.hid hO
  clear hO ei ek eM eL eVi eVk
  obtain ⟨v1, v2, _, _, _⟩ := ho.2 hs[i] (List.getElem_mem _)
  obtain ⟨v3, v4, _, _, _⟩ := ho.2 hs[k] (List.getElem_mem _)
  obtain ⟨u1, u2⟩ := hqb (qs[i]'(by omega)) (List.getElem_mem _)
  obtain ⟨u3, u4⟩ := hqb (qs[k]'(by omega)) (List.getElem_mem _)
  obtain ⟨m1, m2⟩ := mul_bd v1 v2 u3 u4 (by omega)
  obtain ⟨m3, m4⟩ := mul_bd (b := qs[i]'(by omega) + 1) (N := 501) v3 v4 (by omega) (by omega) (by omega)
  obtain ⟨bh, oh, rfl, hbh, x1, x2, x3⟩ := hr.trip hi
  obtain ⟨y1, y2, y3⟩ := hr.trip' hk
  obtain ⟨bq, oq, rfl, hbq, s1⟩ := hq.int (k := i) (by omega)
  have s2 := hq.int' (k := k) (by omega)
  have hil : (i : Int) < hs.length := by omega
  have hkl : (k : Int) < hs.length := by omega
  have hiq : (i : Int) < qs.length := by omega
  have hkq : (k : Int) < qs.length := by omega
  have hi0 : (0 : Int) ≤ (i : Int) := by omega
  have hk0 : (0 : Int) ≤ (k : Int) := by omega
  generalize qs[i]'(by omega) = qi at *
  generalize qs[k]'(by omega) = qk at *
  generalize hs[i].1 = vi at *
  generalize hs[i].2.1 = li at *
  generalize hs[i].2.2 = mi at *
  generalize hs[k].1 = vk at *
  generalize hs[k].2.1 = lk at *
  generalize hs[k].2.2 = mk at *
  go_enter Tryz.func89, Tryz.ntmps89
  go_wp2_with fail
  obtain ⟨W1, hW1⟩ : ∃ W1, W1 = w.alloc (.cells #[.int .i64 p, .slice (some ⟨bh, oh, none⟩) hs.length c] 56) := ⟨_, rfl⟩
  rw [← hW1]
  have k1 : W1.cell? ⟨w.heap.size, 1, none⟩ = some (.slice (some ⟨bh, oh, none⟩) hs.length c) := by rw [hW1]; exact news_new w [.int .i64 p, .slice (some ⟨bh, oh, none⟩) hs.length c] 56 rfl 1 _ rfl
  have bw : Below w.heap.size w W1 := by rw [hW1]; exact below_new _ _
  have z1 : w.heap.size < W1.heap.size := by rw [hW1]; simp
  have X1 := bw.at_ hbh x1
  have X2 := bw.at_ hbh x2
  have X3 := bw.at_ hbh x3
  have Y1 := bw.at_ hbh y1
  have Y2 := bw.at_ hbh y2
  have Y3 := bw.at_ hbh y3
  have S1 := bw.at_ hbq s1
  have S2 := bw.at_ hbq s2
  have hbh1 : bh < W1.heap.size := by omega
  have hbq1 : bq < W1.heap.size := by omega
  clear hW1 x1 x2 x3 y1 y2 y3 s1 s2 hr hq
  go_region
  all_goals
    by_cases e0 : i = k
    · have d0 : ((i : Int) == (k : Int)) = true := by rw [beq_iff_eq]; omega
      have HE := Lib.hid e0
      clear e0
      go_wp2_with fail
      go_quiet (fail)
      go_wp2_with fail
      go_ret
      exact ⟨ret_bool (by rw [HO.out]; simp [HE.out]), below_drewN (by go_grown) _⟩
    · have d0 : ((i : Int) == (k : Int)) = false := by rw [beq_eq_false_iff_ne]; omega
      have HE := Lib.hid e0
      clear e0
      by_cases e1 : mi ≤ qi
      · go_wp2_with fail
        go_quiet (fail)
        go_wp2_with fail
        go_ret
        exact ⟨ret_bool (by rw [HO.out, decide_eq_false (show ¬ qi < mi by omega)]; simp), below_drewN (by go_grown) _⟩
      · have d1 : decide (mi ≤ qi) = false := decide_eq_false e1
        by_cases e2 : qk ≤ lk
        · go_wp2_with fail
          go_quiet (fail)
          go_wp2_with fail
          go_ret
          exact ⟨ret_bool (by rw [HO.out, decide_eq_false (show ¬ lk < qk by omega)]; simp), below_drewN (by go_grown) _⟩
        · have d2 : decide (qk ≤ lk) = false := decide_eq_false e2
          have hR : outB hs qs i k = decide (slotLt vi i (qi + 1) vk k qk) := by
            rw [HO.out, decide_eq_true (show i ≠ k from HE.out), decide_eq_true (show qi < mi by omega), decide_eq_true (show lk < qk by omega)]; rfl
          have HR := Lib.hid hR
          clear hR
          have g0 : IntKind.i64.wrap (qi + 1) = qi + 1 := IntWalk.i64_in _ (by omega)
          by_cases f1 : vk * (qi + 1) < vi * qk
          · go_wp2_with fail
            go_quiet (fail)
            go_wp2_with fail
            go_quiet (fail)
            clear g0
            go_wp2_with fail
            go_ret
            exact ⟨ret_bool (by rw [HR.out]; exact (decide_eq_true (.inl f1)).symm), below_drewN (by go_grown) _⟩
          · by_cases f2 : vi * qk = vk * (qi + 1)
            · have f2' : ((vi * qk) == (vk * (qi + 1))) = true := by rw [beq_iff_eq]; exact f2
              have F2 := Lib.hid f2
              clear f2
              by_cases f3 : (i : Int) < (k : Int)
              · go_wp2_with fail
                go_quiet (fail)
                go_wp2_with fail
                go_quiet (fail)
                clear g0
                go_wp2_with fail
                go_ret
                exact ⟨ret_bool (by rw [HR.out]; have := F2.out; exact (decide_eq_true (.inr ⟨this.symm, by omega⟩)).symm), below_drewN (by go_grown) _⟩
              · go_wp2_with fail
                go_quiet (fail)
                go_wp2_with fail
                go_quiet (fail)
                clear g0
                go_wp2_with fail
                go_ret
                exact ⟨ret_bool (by rw [HR.out]; have := F2.out; rw [decide_eq_false (Int.not_lt.2 f1), decide_eq_false (show ¬ i < k by omega)]; exact (decide_eq_false (fun h => h.elim (Int.not_lt.2 f1) (fun h => by omega))).symm), below_drewN (by go_grown) _⟩
            · have f2' : ((vi * qk) == (vk * (qi + 1))) = false := by rw [beq_eq_false_iff_ne]; exact f2
              have F2 := Lib.hid f2
              clear f2
              go_wp2_with fail
              go_quiet (fail)
              go_wp2_with fail
              go_quiet (fail)
              clear g0
              go_wp2_with fail
              go_ret
              exact ⟨ret_bool (by rw [HR.out]; have := F2.out; rw [decide_eq_false (Int.not_lt.2 f1)]; exact (decide_eq_false (fun h => h.elim (Int.not_lt.2 f1) (fun h => this h.1.symm))).symm), below_drewN (by go_grown) _⟩
end Go.Proofs.YtfojjecnmfkcfaaGreat
namespace Go.Proofs.YtfojjecnmfkcfaaGreat
open Go.RowKit
set_option linter.unusedVariables false
set_option maxHeartbeats 4000000 in
theorem refCheck_any (A : Option Addr) (c : Nat) (p : Int) (hs : List (Int × Int × Int)) (w : World) (hr : Rd w w.heap.size A (trips hs)) (hl : hs.length ≤ 1000) :
    Calls Tryz.prog 19 #[.agg #[.int .i64 p, .slice A hs.length c]] w fun e w' => e = .returned (.int .i64 (ckBill p hs)) ∧ Below w.heap.size w w' := by
  by_cases h1 : inB p 0 500 = true
  · have h1' : (!inB p 0 500) = false := by rw [h1]; rfl
    by_cases h2 : inB hs.length 1 6 = true
    · have h2' : (!inB hs.length 1 6) = false := by rw [h2]; rfl
      have hF : ckBill p hs = if hs.any houseOkP = true then 4 else 0 := by unfold ckBill; rw [if_neg (by simp [h1]), if_neg (by simp [h2])]
      have HF := Lib.hid hF
      have hpos := (inB_iff.1 h2).1
      obtain ⟨b, off, rfl, hbb⟩ := hr.addr (k := 0) (by rw [trips_length]; omega)
      clear hF h1 h2 hpos
      go_enter Tryz.func19, Tryz.ntmps19
      go_wp2_with fail
      refine (off_any _ _ _ _).mono ?_
      rintro e w1 ⟨rfl, rfl⟩
      go_wp2_with fail
      refine (off_any _ _ _ _).mono ?_
      rintro e w1 ⟨rfl, rfl⟩
      go_wp2_with fail
      go_loopw [3] (fun i wr => ∃ k : Nat, k ≤ hs.length ∧ i = .int .i64 k ∧ (hs.take k).any houseOkP = false ∧ Below w.heap.size w wr ∧ wr.cell? ⟨w.heap.size, 1, none⟩ = some (.slice (some ⟨b, off, none⟩) hs.length c) ∧ w.heap.size < wr.heap.size) (fun i _ => hs.length - (intOf i).toNat)
      case atStart => exact ⟨0, by omega, rfl, by simp, below_new _ _, by simp, by simp⟩
      case round =>
        obtain ⟨k, hk, rfl, hno, hbw, hbox, hbz⟩ := hrel
        by_cases hlt : k < hs.length
        · obtain ⟨x1, x2, x3⟩ := (hr.below hbw).trip' hlt
          have hs' := any_take_succ houseOkP hs k hlt
          rw [hno, Bool.false_or] at hs'
          have Hs := Lib.hid hs'
          have hkz : (k : Int) < hs.length := by omega
          have hbw2 : ∀ o, Below w.heap.size w (wr.alloc o) := fun o => hbw.alloc hbw.size _
          have HB := Lib.hid hbw2
          have hbox2 : ∀ o, (wr.alloc o).cell? ⟨w.heap.size, 1, none⟩ = some (.slice (some ⟨b, off, none⟩) hs.length c) := fun o => by rw [World.cell?_alloc_lt _ _ _ hbz]; exact hbox
          have HX := Lib.hid hbox2
          have hFn : houseOkP hs[k] = true → ckBill p hs = 4 := fun h => by rw [HF.out, if_pos (List.any_eq_true.2 ⟨hs[k], List.getElem_mem _, h⟩)]
          have HFn := Lib.hid hFn
          have hP : houseOkP hs[k] = !houseOk hs[k].1 hs[k].2.1 hs[k].2.2 := rfl
          have HP := Lib.hid hP
          have hbr : b < wr.heap.size := Nat.lt_of_lt_of_le hbb hbw.size
          clear hs' hno hbw2 hbox2 hFn hP
          generalize hs[k].1 = v at *
          generalize hs[k].2.1 = l at *
          generalize hs[k].2.2 = m at *
          by_cases a1 : inB v 0 1000 = true
          · have a1' : (!inB v 0 1000) = false := by rw [a1]; rfl
            have A1 := Lib.hid a1
            clear a1
            by_cases a2 : inB l 0 500 = true
            · have a2' : (!inB l 0 500) = false := by rw [a2]; rfl
              have A2 := Lib.hid a2
              clear a2
              by_cases a3 : inB m 0 500 = true
              · have a3' : (!inB m 0 500) = false := by rw [a3]; rfl
                have A3 := Lib.hid a3
                clear a3
                by_cases a4 : m < l
                · go_wp2_with fail
                  refine (off_any _ _ _ _).mono ?_
                  rintro e w1 ⟨rfl, rfl⟩
                  go_wp2_with fail
                  refine (off_any _ _ _ _).mono ?_
                  rintro e w1 ⟨rfl, rfl⟩
                  go_wp2_with fail
                  refine (off_any _ _ _ _).mono ?_
                  rintro e w1 ⟨rfl, rfl⟩
                  go_wp2_with fail
                  go_ret
                  exact ⟨ret_int (HFn.out (by rw [HP.out]; have := inB_iff.1 A2.out; simp [houseOk, inB]; omega)).symm, HB.out _⟩
                · go_wp2_with fail
                  refine (off_any _ _ _ _).mono ?_
                  rintro e w1 ⟨rfl, rfl⟩
                  go_wp2_with fail
                  refine (off_any _ _ _ _).mono ?_
                  rintro e w1 ⟨rfl, rfl⟩
                  go_wp2_with fail
                  refine (off_any _ _ _ _).mono ?_
                  rintro e w1 ⟨rfl, rfl⟩
                  go_wp2_with fail
                  go_roundw
                  case rel => exact ⟨k + 1, by omega, by go_num, by rw [Hs.out, HP.out]; have q2 := inB_iff.1 A2.out; have q3 := inB_iff.1 A3.out; simp [houseOk, A1.out]; simp [inB]; omega, HB.out _, HX.out _, by simp; omega⟩
                  case measure => simp [intOf]; omega
              · have a3' : (!inB m 0 500) = true := by simpa using a3
                go_wp2_with fail
                refine (off_any _ _ _ _).mono ?_
                rintro e w1 ⟨rfl, rfl⟩
                go_wp2_with fail
                refine (off_any _ _ _ _).mono ?_
                rintro e w1 ⟨rfl, rfl⟩
                go_wp2_with fail
                refine (off_any _ _ _ _).mono ?_
                rintro e w1 ⟨rfl, rfl⟩
                go_wp2_with fail
                go_ret
                exact ⟨ret_int (HFn.out (by rw [HP.out]; have q2 := inB_iff.1 A2.out; have q3 := inB_no.1 (by simpa using a3 : inB m 0 500 = false); simp [houseOk, inB]; omega)).symm, HB.out _⟩
            · have a2' : (!inB l 0 500) = true := by simpa using a2
              go_wp2_with fail
              refine (off_any _ _ _ _).mono ?_
              rintro e w1 ⟨rfl, rfl⟩
              go_wp2_with fail
              refine (off_any _ _ _ _).mono ?_
              rintro e w1 ⟨rfl, rfl⟩
              go_wp2_with fail
              go_ret
              exact ⟨ret_int (HFn.out (by rw [HP.out]; have q2 := inB_no.1 (by simpa using a2 : inB l 0 500 = false); simp [houseOk, inB]; omega)).symm, HB.out _⟩
          · have a1' : (!inB v 0 1000) = true := by simpa using a1
            go_wp2_with fail
            refine (off_any _ _ _ _).mono ?_
            rintro e w1 ⟨rfl, rfl⟩
            go_wp2_with fail
            go_ret
            exact ⟨ret_int (HFn.out (by rw [HP.out]; simp [houseOk, (by simpa using a1 : inB v 0 1000 = false)])).symm, HB.out _⟩
        · have hE : ckBill p hs = 0 := by
            rw [List.take_of_length_le (by omega)] at hno
            rw [HF.out, hno]; rfl
          have HE := Lib.hid hE
          have hkz : ¬ (k : Int) < hs.length := by omega
          clear hE hno
          go_wp2_with fail
          go_ret
          exact ⟨ret_int HE.out.symm, hbw⟩
    · have h2' : (!inB hs.length 1 6) = true := by simpa using h2
      have hF : ckBill p hs = 3 := by unfold ckBill; rw [if_neg (by simp [h1]), if_pos h2]
      have HF := Lib.hid hF
      clear hF h1 h2
      go_enter Tryz.func19, Tryz.ntmps19
      go_wp2_with fail
      refine (off_any _ _ _ _).mono ?_
      rintro e w1 ⟨rfl, rfl⟩
      go_wp2_with fail
      refine (off_any _ _ _ _).mono ?_
      rintro e w1 ⟨rfl, rfl⟩
      go_wp2_with fail
      go_ret
      exact ⟨ret_int HF.out.symm, by go_grown⟩
  · have h1' : (!inB p 0 500) = true := by simpa using h1
    have hF : ckBill p hs = 4 := by unfold ckBill; rw [if_pos h1]
    have HF := Lib.hid hF
    clear hF h1
    go_enter Tryz.func19, Tryz.ntmps19
    go_wp2_with fail
    refine (off_any _ _ _ _).mono ?_
    rintro e w1 ⟨rfl, rfl⟩
    go_wp2_with fail
    go_ret
    exact ⟨ret_int HF.out.symm, by go_grown⟩
end Go.Proofs.YtfojjecnmfkcfaaGreat
namespace Go.Proofs.YtfojjecnmfkcfaaGreat
open Go.RowKit
set_option linter.unusedVariables false
/-- The call has the shares by bids in a block of its own, or nothing. -/
def RBids (p : Int) (hs : List (Int × Int × Int)) (W : World) (e : Ending) (w' : World) : Prop :=
  (bidOk hs p = true ∧ ∃ b cap, e = .returned (.slice (some ⟨b, 0, none⟩) hs.length cap) ∧ W.heap.size ≤ b ∧ hs.length ≤ cap ∧ Lst w' b ((bidPs hs p).take hs.length) ∧ Below W.heap.size W w') ∨
  (bidOk hs p = false ∧ e = .returned (.slice none 0 0) ∧ Below W.heap.size W w')
theorem leastsN_snoc (hs : List (Int × Int × Int)) (i : Nat) (h : i < hs.length) : ints ((hs.map (·.2.1)).take (i + 1)) = ints ((hs.map (·.2.1)).take i) ++ [.int .i64 hs[i].2.1] := by
  rw [List.take_succ_eq_append_getElem (by simpa using h)]
  simp [ints]
theorem leastsN_sum (hs : List (Int × Int × Int)) (i : Nat) (h : i < hs.length) : ((hs.map (·.2.1)).take (i + 1)).sum = ((hs.map (·.2.1)).take i).sum + hs[i].2.1 := by
  rw [take_sum _ _ (by simpa using h)]; simp
theorem leastsN_bd {hs : List (Int × Int × Int)} (ho : housesOk hs) (i : Nat) : 0 ≤ ((hs.map (·.2.1)).take i).sum ∧ ((hs.map (·.2.1)).take i).sum ≤ 3000 := by
  have h := sum_le 500 ((hs.map (·.2.1)).take i) (fun z hz => by
    obtain ⟨x, hx, rfl⟩ := List.mem_map.1 (List.mem_of_mem_take hz)
    have := ho.2 x hx
    omega)
  have h2 : 0 ≤ ((hs.map (·.2.1)).take i).sum := by
    have : ∀ l : List Int, (∀ x ∈ l, 0 ≤ x) → 0 ≤ l.sum := fun l => by
      induction l with
      | nil => simp
      | cons a l ih => intro h; have := ih (fun x hx => h x (List.mem_cons_of_mem _ hx)); have := h a List.mem_cons_self; simp only [List.sum_cons]; omega
    refine this _ fun z hz => ?_
    obtain ⟨x, hx, rfl⟩ := List.mem_map.1 (List.mem_of_mem_take hz)
    exact (ho.2 x hx).2.2.1
  have h3 := ho.1
  have h4 : ((hs.map (·.2.1)).take i).length ≤ 6 := by rw [List.length_take, List.length_map]; omega
  omega
set_option maxRecDepth 100000 in
set_option maxHeartbeats 8000000 in
theorem rBids_any (A : Option Addr) (c : Nat) (p : Int) (hs : List (Int × Int × Int)) (w : World) (hr : Rd w w.heap.size A (trips hs)) (ho : housesOk hs) (l1 : 1 ≤ hs.length) (p0 : 0 ≤ p) (p1 : p ≤ 500) :
    Calls Tryz.prog 83 #[.agg #[.int .i64 p, .slice A hs.length c]] w (RBids p hs w) := by
  obtain ⟨i0, ihi, ihz0, ihz1, ihz2⟩ := info_parts infoIntP
  obtain ⟨bh, oh, rfl, hbh⟩ := hr.addr (k := 0) (by rw [trips_length]; omega)
  have hl6 := ho.1
  go_enter Tryz.func83, Tryz.ntmps83
  go_wp2_with fail
  obtain ⟨W1, hW1⟩ : ∃ W1, W1 = w.alloc (.cells #[.int .i64 p, .slice (some ⟨bh, oh, none⟩) hs.length c] 56) := ⟨_, rfl⟩
  rw [← hW1]
  have c0 : W1.cell? ⟨w.heap.size, 0, none⟩ = some (.int .i64 p) := by rw [hW1]; exact news_new w [.int .i64 p, .slice (some ⟨bh, oh, none⟩) hs.length c] 56 rfl 0 _ rfl
  have c1 : W1.cell? ⟨w.heap.size, 1, none⟩ = some (.slice (some ⟨bh, oh, none⟩) hs.length c) := by rw [hW1]; exact news_new w [.int .i64 p, .slice (some ⟨bh, oh, none⟩) hs.length c] 56 rfl 1 _ rfl
  have k3 : Below w.heap.size w W1 := by rw [hW1]; exact below_new _ _
  have k4 : w.heap.size < W1.heap.size := by rw [hW1]; simp
  clear hW1
  go_wp2_with fail
  go_loopw [3, 4, 5] (fun v lv iv wr => ∃ i : Nat, i ≤ hs.length ∧ iv = .int .i64 i ∧ lv = .int .i64 (p - ((hs.map (·.2.1)).take i).sum) ∧ wr.ownsRow W1.heap.size 3 1 v i (ints ((hs.map (·.2.1)).take i)) ∧ Below W1.heap.size W1 wr) (fun _ _ i _ => hs.length - (intOf i).toNat)
  case atStart => exact ⟨0, Nat.zero_le _, rfl, by simp, World.ownsRow_nil _ _ _ _, Below.refl _ _⟩
  case round =>
    obtain ⟨i, hi, rfl, rfl, hown, hbw⟩ := hrel
    have hbww := k3.trans (hbw.mono k3.size)
    have d1 := hbw.at_ k4 c1
    by_cases hlt : i < hs.length
    · obtain ⟨x1, x2, x3⟩ := (hr.below hbww).trip' hlt
      have hbh' : bh < wr.heap.size := Nat.lt_of_lt_of_le hbh hbww.size
      have hwr : w.heap.size < wr.heap.size := Nat.lt_of_lt_of_le k4 hbw.size
      have HSN := Lib.hid (leastsN_snoc hs i hlt)
      have HSS := Lib.hid (leastsN_sum hs i hlt)
      obtain ⟨s1, s2⟩ := leastsN_bd ho i
      obtain ⟨_, _, u3, u4, u5⟩ := ho.2 hs[i] (List.getElem_mem _)
      have HO := Lib.hid hown
      have hiz : (i : Int) < hs.length := by omega
      clear hown
      go_wp2_with (at_builtin; refine wpList_append_own_at _ rfl _ _ 22 rfl W1.heap.size 3 i0 _ 1 8 Tryz.underlying22 ihi ihz0 ihz1 ihz2 rfl (by decide) _ _ _ rfl (HO.out.alloc _) ⟨wr.heap.size, 0, none⟩ 1 1 [.int .i64 hs[i].2.1] rfl rfl (news_new _ _ _ rfl) (by simp [Value.oneCell']) (by simp only [maxLen]; omega) (by omega) (by have h1 := hbw.size; simp; omega) ?_; intro v1 w1 hown1 hgrow1 _ hat1; rw [← HSN.out] at hown1; have HO1 := Lib.hid hown1; obtain ⟨b1, cc1, rfl, hb1, hc1, hL1⟩ := own_lst' hown1 (by simp; omega) (by omega); have hci := hL1.at_ (j := i) (by simp; omega); rw [List.getElem_take, List.getElem_map] at hci; have hl1 := hL1.lt; clear hown1 hL1)
      go_roundw
      case rel => exact ⟨i + 1, by omega, by go_num, by rw [HSS.out]; congr 1; omega, HO1.out, (hbw.alloc hbw.size _).grown hgrow1 (by have := hbw.size; simp; omega) (fun q hq => (HO.out.lt q hq).1)⟩
      case measure => simp [intOf]; omega
    · obtain rfl : i = hs.length := by omega
      rw [List.take_of_length_le (by simp)] at hown
      have e1 : p - ((hs.map (·.2.1)).take hs.length).sum = p - leastSum hs := by rw [List.take_of_length_le (by simp)]; rfl
      rw [e1]
      obtain ⟨b, cap, rfl, hb2, hcap, hLst⟩ := own_lst' hown (by simp) l1
      have HLs := Lib.hid hLst
      have hbl := hLst.lt
      obtain ⟨W2, hW2⟩ : ∃ x, x = wr := ⟨_, rfl⟩
      subst hW2
      have hbW2 : Below w.heap.size w W2 := hbww
      have KEEP : Hid (∀ W, W2.grownBy W (some b) → W.cell? ⟨w.heap.size, 0, none⟩ = some (.int .i64 p) ∧ W.cell? ⟨w.heap.size, 1, none⟩ = some (.slice (some ⟨bh, oh, none⟩) hs.length c)) := by
        show ∀ W, _ → _
        intro W hW
        have hz : w.heap.size < W2.heap.size := Nat.lt_of_lt_of_le k4 hbw.size
        have hk := hW.block w.heap.size hz (by intro e; injection e; omega)
        exact ⟨(World.cell?_of_block (a := ⟨w.heap.size, 0, none⟩) hk).trans (hbw.at_ k4 c0), (World.cell?_of_block (a := ⟨w.heap.size, 1, none⟩) hk).trans d1⟩
      have HRD : Hid (∀ W, W2.grownBy W (some b) → Rd W W.heap.size (some ⟨bh, oh, none⟩) (trips hs)) := by
        show ∀ W, _ → _
        intro W hW
        refine ((hr.below hbW2).keep (w' := W) fun b' o hlt' => World.cell?_of_block (a := ⟨b', o, none⟩) (hW.block b' ?_ ?_)).more ?_
        · exact Nat.lt_of_lt_of_le hlt' hbW2.size
        · intro e; injection e; omega
        · exact Nat.le_trans hbW2.size hW.size
      have HF0 := Lib.hid (fill_start ho p)
      have hb3 := k4
      clear hown hLst e1 hlt
      go_wp2_with fail
      clear d1
      go_loopw [4, 6, 7] (fun lv iv _ wr => ∃ (i : Nat) (qs : List Int) (left : Int), i ≤ hs.length ∧ iv = .int .i64 i ∧ lv = .int .i64 left ∧ Hid (Fill hs p qs left i) ∧ Hid (Lst wr b qs) ∧ W2.grownBy wr (some b) ∧ -4000 ≤ left ∧ left ≤ 500) (fun _ i _ _ => hs.length - (intOf i).toNat)
      case atStart => exact ⟨0, _, _, Nat.zero_le _, rfl, rfl, HF0, HLs, grownBy_self _ _, by
        have := leastsN_bd ho hs.length
        rw [List.take_of_length_le (by simp)] at this
        unfold leastSum; omega, by
        have := leastsN_bd ho hs.length
        rw [List.take_of_length_le (by simp)] at this
        unfold leastSum; omega⟩
      case round =>
        obtain ⟨i, qs, left, hi, rfl, rfl, HF, HL, hgr, lf1, lf2⟩ := hrel
        by_cases hgo : i < hs.length ∧ 0 < left
        · obtain ⟨hil, hl0⟩ := hgo
          have hbox := KEEP.out _ hgr
          have d0 := hbox.1
          have d1 := hbox.2
          obtain ⟨x1, x2, x3⟩ := (HRD.out _ hgr).trip' hil
          have hbh' : bh < wr.heap.size := Nat.lt_of_lt_of_le hbh (Nat.le_trans hbW2.size hgr.size)
          have hbz : w.heap.size < wr.heap.size := Nat.lt_of_lt_of_le k4 (Nat.le_trans hbw.size hgr.size)
          have ql : i < qs.length := by rw [HF.out.fit.1]; exact hil
          have ci := HL.out.at_ ql
          have fi := HL.out.free i
          have lz := HL.out.lt
          have eq1 : qs.getD i 0 = qs[i] := by simp [List.getD_eq_getElem?_getD, List.getElem?_eq_getElem ql]
          have eM : hM hs i = hs[i].2.2 := by unfold hM; simp [List.getD_eq_getElem?_getD, List.getElem?_eq_getElem hil]
          obtain ⟨_, _, u3, u4, u5⟩ := ho.2 hs[i] (List.getElem_mem _)
          have hfit := HF.out.fit.2 i hil
          rw [eq1, eM] at hfit
          obtain ⟨t1, t2⟩ := fitsN_bd ho HF.out.fit qs[i] (List.getElem_mem _)
          obtain ⟨_, hfit2⟩ := hfit
          have hiz : (i : Int) < hs.length := by omega
          have hi0 : (0 : Int) ≤ (i : Int) := by omega
          have q1 : IntKind.i64.wrap (hs[i].2.2 - qs[i]) = hs[i].2.2 - qs[i] := IntWalk.i64_in _ (by omega)
          by_cases hmore : left < hs[i].2.2 - qs[i]
          · have HF2 := fill_part HF.out hil hl0 (by rw [eM, eq1]; exact hmore)
            rw [eq1] at HF2
            have HFN := Lib.hid HF2
            clear HF2 eq1 eM
            go_wp2_with fail
            go_quiet (fail)
            clear q1
            go_wp2_with fail
            go_roundw
            case rel => exact ⟨i + 1, _, 0, by omega, by go_num, rfl, HFN, (HL.out.drewN _).put ql _, grownBy_trans (only_drewN hgr _) (grownBy_setCell _ _ _ _), by omega, by omega⟩
            case measure => simp [intOf]; omega
          · have HF2 := fill_full HF.out hil hl0 (by rw [eM, eq1]; omega)
            rw [eq1, eM] at HF2
            have HFN := Lib.hid HF2
            clear HF2 eq1 eM
            go_wp2_with fail
            go_quiet (fail)
            clear q1
            go_wp2_with fail
            go_roundw
            case rel =>
              refine ⟨i + 1, _, _, by omega, by go_num, rfl, HFN, ?_, grownBy_trans (only_drewN hgr _) (grownBy_setCell _ _ _ _), by omega, by omega⟩
              rw [show qs[i] + (hs[i].2.2 - qs[i]) = hs[i].2.2 by omega]
              exact (HL.out.drewN _).put ql _
            case measure => simp [intOf]; omega
        · have hEnd := fill_end ho HF.out (by omega)
          by_cases hl0 : left = 0
          · subst hl0
            have hbok : bidOk hs p = true := by rw [hEnd]; rfl
            have HFS : Hid (fitsN hs qs ∧ qs.sum = p) := ⟨HF.out.fit, by have := HF.out.sum; omega⟩
            clear hEnd
            by_cases hil : i < hs.length
            · have hiz : (i : Int) < hs.length := by omega
              clear hgo
              go_wp2_with fail
              go_loopg [8] (2 * phi hs qs + 1) (fun g1 mv wr => ∃ (q : List Int) (f : Bool), mv = .bool f ∧ g1 = 2 * phi hs q + f.toNat ∧ Hid (fitsN hs q ∧ q.sum = p) ∧ Hid (Lst wr b q) ∧ W2.grownBy wr (some b) ∧ Hid (f = false → Pass hs p q q false hs.length 0))
              case atStart => exact ⟨qs, true, rfl, rfl, HFS, HL, hgr, fun h => by cases h⟩
              case round =>
                obtain ⟨q, f, rfl, rfl, HF, HLq, hgq, HP⟩ := hrel
                cases f with
                | false =>
                  have HE := Lib.hid (pass_end ho (HP.out rfl) hbok)
                  go_wp2_with fail
                  go_ret
                  exact .inl ⟨hbok, b, cap, rfl, Nat.le_trans k3.size hb2, hcap, (show Lst _ _ _ by rw [← HE.out]; exact HLq.out), hbW2.grown hgq hbW2.size (fun j hj => by injection hj with hj; omega)⟩
                | true =>
                  go_wp2_with fail
                  go_loopw [8, 9] (fun mv iv wr => ∃ (i : Nat) (q1 : List Int) (f1 : Bool), iv = .int .i64 i ∧ i ≤ hs.length ∧ mv = .bool f1 ∧ Hid (Pass hs p q q1 f1 i 0) ∧ Hid (Lst wr b q1) ∧ W2.grownBy wr (some b)) (fun _ i _ => hs.length - (intOf i).toNat)
                  case atStart => exact ⟨0, q, false, rfl, Nat.zero_le _, rfl, pass_start HF.out.1 HF.out.2, HLq, hgq⟩
                  case round =>
                    obtain ⟨i, q1, f1, rfl, hi, rfl, HP1, HL1, hg1⟩ := hrel
                    by_cases hil : i < hs.length
                    · have hiz : (i : Int) < hs.length := by omega
                      go_wp2_with fail
                      go_loopw [8, 10] (fun mv kv wr => ∃ (k : Nat) (q2 : List Int) (f2 : Bool), kv = .int .i64 k ∧ k ≤ hs.length ∧ mv = .bool f2 ∧ Hid (Pass hs p q q2 f2 i k) ∧ Hid (Lst wr b q2) ∧ W2.grownBy wr (some b)) (fun _ k _ => hs.length - (intOf k).toNat)
                      case atStart => exact ⟨0, q1, f1, rfl, Nat.zero_le _, rfl, HP1, HL1, hg1⟩
                      case round =>
                        obtain ⟨k, q2, f2, rfl, hk, rfl, HP2, HL2, hg2⟩ := hrel
                        by_cases hkl : k < hs.length
                        · have hkz : (k : Int) < hs.length := by omega
                          have hbox := KEEP.out _ hg2
                          have d0 := hbox.1
                          have d1 := hbox.2
                          have hq2l := HP2.out.fit.1
                          have hlb := HL2.out.lt
                          have hWz := hg2.size
                          have C := rOutbids_any (some ⟨bh, oh, none⟩) c p hs (some ⟨b, 0, none⟩) cap q2 i k wr (HRD.out _ hg2) ho HL2.out.rd hq2l (fitsN_bd ho HP2.out.fit) hil hkl
                          rw [hq2l] at C
                          have HC := Lib.hid C
                          clear C
                          by_cases hout : outB hs q2 i k = true
                          · rw [hout] at HC
                            obtain ⟨hne, o1, o2, _⟩ := outB_of hout
                            have il : i < q2.length := by omega
                            have kl : k < q2.length := by omega
                            have ei : q2.getD i 0 = q2[i] := by simp [List.getD_eq_getElem?_getD, List.getElem?_eq_getElem il]
                            have ek : q2.getD k 0 = q2[k] := by simp [List.getD_eq_getElem?_getD, List.getElem?_eq_getElem kl]
                            obtain ⟨u1, u2⟩ := fitsN_bd ho HP2.out.fit q2[i] (List.getElem_mem _)
                            obtain ⟨u3, u4⟩ := fitsN_bd ho HP2.out.fit q2[k] (List.getElem_mem _)
                            have hmv : move q2 i k = (q2.set i (q2[i] + 1)).set k (q2[k] - 1) := by unfold move; rw [ei, ek]
                            have HMV := Lib.hid hmv
                            have HPM := Lib.hid (pass_move ho HP2.out hil hkl hout)
                            clear hmv hout ei ek o1 o2
                            go_wp2_with fail
                            refine HC.out.mono ?_
                            rintro e w5 ⟨rfl, hb5⟩
                            have hL5 := HL2.out.below hb5
                            have ci := hL5.at_ il
                            have ck := hL5.at_ kl
                            have fi := hL5.free i
                            have fk := hL5.free k
                            have l5 := hL5.lt
                            have HL5 := Lib.hid hL5
                            have i0 : (0 : Int) ≤ (i : Int) := by omega
                            have k0 : (0 : Int) ≤ (k : Int) := by omega
                            have q0 : IntKind.i64.wrap (q2[i] + 1) = q2[i] + 1 := IntWalk.i64_in _ (by omega)
                            have q1' : IntKind.i64.wrap (q2[k] - 1) = q2[k] - 1 := IntWalk.i64_in _ (by omega)
                            clear hL5 HC
                            go_wp2_with fail
                            go_region
                            clear q0 q1'
                            all_goals go_wp2_with fail
                            go_roundw
                            case rel =>
                              refine ⟨k + 1, _, true, by go_num, by omega, rfl, HPM, ?_, ?_⟩
                              · show Lst _ _ _
                                rw [HMV.out]
                                exact ((HL5.out.put il (q2[i] + 1)).put (by rw [List.length_set]; exact kl) (q2[k] - 1)).drewN 1
                              · exact only_drewN (grownBy_trans (grownBy_trans (grownBy_trans hg2 (below_grown _ hb5)) (grownBy_setCell _ _ _ _)) (grownBy_setCell _ _ _ _)) 1
                            case measure => simp [intOf]; omega
                          · have hout' : outB hs q2 i k = false := by simpa using hout
                            rw [hout'] at HC
                            have HPM := Lib.hid (pass_skip HP2.out hout')
                            clear hout hout'
                            go_wp2_with fail
                            refine HC.out.mono ?_
                            rintro e w5 ⟨rfl, hb5⟩
                            go_wp2_with fail
                            go_roundw
                            case rel => exact ⟨k + 1, q2, f2, by go_num, by omega, rfl, HPM, HL2.out.below hb5, grownBy_trans hg2 (below_grown _ hb5)⟩
                            case measure => simp [intOf]; omega
                        · obtain rfl : k = hs.length := by omega
                          have HPR := Lib.hid (pass_row HP2.out)
                          clear hkl
                          go_wp2_with fail
                          go_roundw
                          case rel => exact ⟨i + 1, q2, f2, by go_num, by omega, rfl, HPR, HL2, hg2⟩
                          case measure => simp [intOf]; omega
                    · obtain rfl : i = hs.length := by omega
                      clear hil
                      go_wp2_with fail
                      go_roundg (2 * phi hs q1 + f1.toNat)
                      case measure =>
                        cases f1 with
                        | true => have := HP1.out.less rfl; simp; omega
                        | false => have := (HP1.out.still rfl).1; subst this; simp
                      case rel =>
                        refine ⟨q1, f1, rfl, rfl, ⟨HP1.out.fit, HP1.out.sum⟩, HL1, hg1, ?_⟩
                        show f1 = false → _
                        intro hf
                        subst hf
                        have e := (HP1.out.still rfl).1
                        have h := HP1.out
                        rw [e] at h ⊢
                        exact h
            · have hiz : ¬ (i : Int) < hs.length := by omega
              clear hgo
              go_wp2_with fail
              go_loopg [8] (2 * phi hs qs + 1) (fun g1 mv wr => ∃ (q : List Int) (f : Bool), mv = .bool f ∧ g1 = 2 * phi hs q + f.toNat ∧ Hid (fitsN hs q ∧ q.sum = p) ∧ Hid (Lst wr b q) ∧ W2.grownBy wr (some b) ∧ Hid (f = false → Pass hs p q q false hs.length 0))
              case atStart => exact ⟨qs, true, rfl, rfl, HFS, HL, hgr, fun h => by cases h⟩
              case round =>
                obtain ⟨q, f, rfl, rfl, HF, HLq, hgq, HP⟩ := hrel
                cases f with
                | false =>
                  have HE := Lib.hid (pass_end ho (HP.out rfl) hbok)
                  go_wp2_with fail
                  go_ret
                  exact .inl ⟨hbok, b, cap, rfl, Nat.le_trans k3.size hb2, hcap, (show Lst _ _ _ by rw [← HE.out]; exact HLq.out), hbW2.grown hgq hbW2.size (fun j hj => by injection hj with hj; omega)⟩
                | true =>
                  go_wp2_with fail
                  go_loopw [8, 9] (fun mv iv wr => ∃ (i : Nat) (q1 : List Int) (f1 : Bool), iv = .int .i64 i ∧ i ≤ hs.length ∧ mv = .bool f1 ∧ Hid (Pass hs p q q1 f1 i 0) ∧ Hid (Lst wr b q1) ∧ W2.grownBy wr (some b)) (fun _ i _ => hs.length - (intOf i).toNat)
                  case atStart => exact ⟨0, q, false, rfl, Nat.zero_le _, rfl, pass_start HF.out.1 HF.out.2, HLq, hgq⟩
                  case round =>
                    obtain ⟨i, q1, f1, rfl, hi, rfl, HP1, HL1, hg1⟩ := hrel
                    by_cases hil : i < hs.length
                    · have hiz : (i : Int) < hs.length := by omega
                      go_wp2_with fail
                      go_loopw [8, 10] (fun mv kv wr => ∃ (k : Nat) (q2 : List Int) (f2 : Bool), kv = .int .i64 k ∧ k ≤ hs.length ∧ mv = .bool f2 ∧ Hid (Pass hs p q q2 f2 i k) ∧ Hid (Lst wr b q2) ∧ W2.grownBy wr (some b)) (fun _ k _ => hs.length - (intOf k).toNat)
                      case atStart => exact ⟨0, q1, f1, rfl, Nat.zero_le _, rfl, HP1, HL1, hg1⟩
                      case round =>
                        obtain ⟨k, q2, f2, rfl, hk, rfl, HP2, HL2, hg2⟩ := hrel
                        by_cases hkl : k < hs.length
                        · have hkz : (k : Int) < hs.length := by omega
                          have hbox := KEEP.out _ hg2
                          have d0 := hbox.1
                          have d1 := hbox.2
                          have hq2l := HP2.out.fit.1
                          have hlb := HL2.out.lt
                          have hWz := hg2.size
                          have C := rOutbids_any (some ⟨bh, oh, none⟩) c p hs (some ⟨b, 0, none⟩) cap q2 i k wr (HRD.out _ hg2) ho HL2.out.rd hq2l (fitsN_bd ho HP2.out.fit) hil hkl
                          rw [hq2l] at C
                          have HC := Lib.hid C
                          clear C
                          by_cases hout : outB hs q2 i k = true
                          · rw [hout] at HC
                            obtain ⟨hne, o1, o2, _⟩ := outB_of hout
                            have il : i < q2.length := by omega
                            have kl : k < q2.length := by omega
                            have ei : q2.getD i 0 = q2[i] := by simp [List.getD_eq_getElem?_getD, List.getElem?_eq_getElem il]
                            have ek : q2.getD k 0 = q2[k] := by simp [List.getD_eq_getElem?_getD, List.getElem?_eq_getElem kl]
                            obtain ⟨u1, u2⟩ := fitsN_bd ho HP2.out.fit q2[i] (List.getElem_mem _)
                            obtain ⟨u3, u4⟩ := fitsN_bd ho HP2.out.fit q2[k] (List.getElem_mem _)
                            have hmv : move q2 i k = (q2.set i (q2[i] + 1)).set k (q2[k] - 1) := by unfold move; rw [ei, ek]
                            have HMV := Lib.hid hmv
                            have HPM := Lib.hid (pass_move ho HP2.out hil hkl hout)
                            clear hmv hout ei ek o1 o2
                            go_wp2_with fail
                            refine HC.out.mono ?_
                            rintro e w5 ⟨rfl, hb5⟩
                            have hL5 := HL2.out.below hb5
                            have ci := hL5.at_ il
                            have ck := hL5.at_ kl
                            have fi := hL5.free i
                            have fk := hL5.free k
                            have l5 := hL5.lt
                            have HL5 := Lib.hid hL5
                            have i0 : (0 : Int) ≤ (i : Int) := by omega
                            have k0 : (0 : Int) ≤ (k : Int) := by omega
                            have q0 : IntKind.i64.wrap (q2[i] + 1) = q2[i] + 1 := IntWalk.i64_in _ (by omega)
                            have q1' : IntKind.i64.wrap (q2[k] - 1) = q2[k] - 1 := IntWalk.i64_in _ (by omega)
                            clear hL5 HC
                            go_wp2_with fail
                            go_region
                            clear q0 q1'
                            all_goals go_wp2_with fail
                            go_roundw
                            case rel =>
                              refine ⟨k + 1, _, true, by go_num, by omega, rfl, HPM, ?_, ?_⟩
                              · show Lst _ _ _
                                rw [HMV.out]
                                exact ((HL5.out.put il (q2[i] + 1)).put (by rw [List.length_set]; exact kl) (q2[k] - 1)).drewN 1
                              · exact only_drewN (grownBy_trans (grownBy_trans (grownBy_trans hg2 (below_grown _ hb5)) (grownBy_setCell _ _ _ _)) (grownBy_setCell _ _ _ _)) 1
                            case measure => simp [intOf]; omega
                          · have hout' : outB hs q2 i k = false := by simpa using hout
                            rw [hout'] at HC
                            have HPM := Lib.hid (pass_skip HP2.out hout')
                            clear hout hout'
                            go_wp2_with fail
                            refine HC.out.mono ?_
                            rintro e w5 ⟨rfl, hb5⟩
                            go_wp2_with fail
                            go_roundw
                            case rel => exact ⟨k + 1, q2, f2, by go_num, by omega, rfl, HPM, HL2.out.below hb5, grownBy_trans hg2 (below_grown _ hb5)⟩
                            case measure => simp [intOf]; omega
                        · obtain rfl : k = hs.length := by omega
                          have HPR := Lib.hid (pass_row HP2.out)
                          clear hkl
                          go_wp2_with fail
                          go_roundw
                          case rel => exact ⟨i + 1, q2, f2, by go_num, by omega, rfl, HPR, HL2, hg2⟩
                          case measure => simp [intOf]; omega
                    · obtain rfl : i = hs.length := by omega
                      clear hil
                      go_wp2_with fail
                      go_roundg (2 * phi hs q1 + f1.toNat)
                      case measure =>
                        cases f1 with
                        | true => have := HP1.out.less rfl; simp; omega
                        | false => have := (HP1.out.still rfl).1; subst this; simp
                      case rel =>
                        refine ⟨q1, f1, rfl, rfl, ⟨HP1.out.fit, HP1.out.sum⟩, HL1, hg1, ?_⟩
                        show f1 = false → _
                        intro hf
                        subst hf
                        have e := (HP1.out.still rfl).1
                        have h := HP1.out
                        rw [e] at h ⊢
                        exact h
          · have hbok : bidOk hs p = false := by rw [hEnd]; exact decide_eq_false hl0
            have hl0' : (left == 0) = false := by rw [beq_eq_false_iff_ne]; exact hl0
            have hl0'' : (left != 0) = true := by rw [bne_iff_ne]; exact hl0
            have HX := Lib.hid hgo
            clear hEnd hl0
            by_cases hil : i < hs.length
            · have hiz : (i : Int) < hs.length := by omega
              have hlz : ¬ 0 < left := fun h => HX.out ⟨hil, h⟩
              clear hgo
              go_wp2_with fail
              go_ret
              exact .inr ⟨hbok, rfl, hbW2.grown hgr hbW2.size (fun j hj => by injection hj with hj; omega)⟩
            · have hiz : ¬ (i : Int) < hs.length := by omega
              clear hgo
              go_wp2_with fail
              go_ret
              exact .inr ⟨hbok, rfl, hbW2.grown hgr hbW2.size (fun j hj => by injection hj with hj; omega)⟩
end Go.Proofs.YtfojjecnmfkcfaaGreat
