/- cost: what pounds cost by a tariff that is right, from 0 to 20000 pounds. -/
import Derived.Test.YtfojjecnmfkcfaaTariff
namespace Go.Proofs.Ytfojjecnmfkcfaa
open Go.RowKit
/-- What the first k steps cost, in hundredths, and up to where they are counted. -/
def costK (t : List (Int × Int)) (pounds : Int) : Nat → Int × Int
  | 0 => (0, 0)
  | k + 1 =>
    let s := t.getD k (0, 0)
    let to := if k + 1 = t.length then pounds else min pounds s.1
    ((costK t pounds k).1 + max 0 (to - (costK t pounds k).2) * s.2, s.1)
def costF (t : List (Int × Int)) (pounds : Int) : Int := ((costK t pounds t.length).1 + 99) / 100
def stepsOk (t : List (Int × Int)) : Prop := ∀ s ∈ t, 1 ≤ s.1 ∧ s.1 ≤ 20000 ∧ 0 ≤ s.2 ∧ s.2 ≤ 500
theorem stepsOk_of {t : List (Int × Int)} (h : t.any notOk = false) : stepsOk t := by
  intro s hs
  have := List.any_eq_false.1 h s hs
  simp only [notOk, Bool.not_eq_true', stepOk, Bool.not_eq_false, Bool.and_eq_true, inB_iff] at this
  omega
theorem costK_bd (t : List (Int × Int)) (pounds : Int) (hs : stepsOk t) (h0 : 0 ≤ pounds) (h1 : pounds ≤ 20000) : ∀ k, k ≤ t.length → 0 ≤ (costK t pounds k).1 ∧ (costK t pounds k).1 ≤ 10000000 * k ∧ 0 ≤ (costK t pounds k).2 ∧ (costK t pounds k).2 ≤ 20000 := by
  intro k
  induction k with
  | zero => intro _; simp [costK]
  | succ k ih =>
    intro hk
    obtain ⟨a, b, c, d⟩ := ih (by omega)
    have hm : t.getD k (0, 0) ∈ t := by rw [List.getD_eq_getElem?_getD, List.getElem?_eq_getElem (by omega)]; exact List.getElem_mem _
    obtain ⟨e, f, g, h⟩ := hs _ hm
    simp only [costK]
    generalize t.getD k (0, 0) = s at *
    generalize (costK t pounds k).2 = fr at *
    generalize (costK t pounds k).1 = ou at *
    have hto : (if k + 1 = t.length then pounds else min pounds s.1) ≤ 20000 := by split <;> omega
    generalize (if k + 1 = t.length then pounds else min pounds s.1) = to at *
    have hm0 : 0 ≤ max 0 (to - fr) := by omega
    have hm1 : max 0 (to - fr) ≤ 20000 := by omega
    generalize max 0 (to - fr) = m at *
    have p0 : 0 ≤ m * s.2 := Int.mul_nonneg hm0 g
    have p1 : m * s.2 ≤ 20000 * 500 := Int.mul_le_mul hm1 h g (by omega)
    refine ⟨by omega, by push_cast; omega, by omega, by omega⟩
set_option maxHeartbeats 1000000 in
theorem cost_any (A : Option Addr) (c : Nat) (t : List (Int × Int)) (p : Int) (w : World) (hr : Rd w w.heap.size A (pairs t)) (hl : t.length ≤ 1000) (hs : stepsOk t) (h0 : 0 ≤ p) (h1 : p ≤ 20000) :
    Calls Try.prog 89 #[.slice A t.length c, .int .i64 p] w fun e w' => e = .returned (.int .i64 (costF t p)) ∧ Below w.heap.size w w' := by
  go_enter Try.func89, Try.ntmps89
  go_wp2_with fail
  go_loopw [5, 6, 12] (fun o f i wr => ∃ k : Nat, k ≤ t.length ∧ i = .int .i64 k ∧ o = .int .i64 (costK t p k).1 ∧ f = .int .i64 (costK t p k).2 ∧ Below w.heap.size w wr) (fun _ _ i _ => t.length - (intOf i).toNat)
  case atStart => exact ⟨0, by omega, rfl, rfl, rfl, Below.refl _ _⟩
  case round =>
    obtain ⟨k, hk, rfl, rfl, rfl, hbw⟩ := hrel
    obtain ⟨b1, b2, b3, b4⟩ := costK_bd t p hs h0 h1 k hk
    have b5 : (k : Int) ≤ 1000 := by omega
    by_cases hlt : k < t.length
    · obtain ⟨b, off, rfl, hbb, hc1, hc2⟩ := (hr.below hbw).pair hlt
      obtain ⟨e, f, g, h⟩ := hs _ (List.getElem_mem hlt)
      have hK : costK t p (k + 1) = ((costK t p k).1 + max 0 ((if k + 1 = t.length then p else min p t[k].1) - (costK t p k).2) * t[k].2, t[k].1) := by
        simp only [costK, List.getD_eq_getElem?_getD, List.getElem?_eq_getElem hlt, Option.getD_some]
      have HK := Lib.hid hK
      clear hK
      generalize (costK t p k).2 = fr at *
      generalize (costK t p k).1 = ou at *
      generalize t[k].1 = u at *
      generalize t[k].2 = q at *
      obtain ⟨to, hto⟩ : ∃ to, to = (if k + 1 = t.length then p else min p u) := ⟨_, rfl⟩
      have hto2 : to ≤ 20000 := by rw [hto]; split <;> omega
      have hto3 : 0 ≤ to := by rw [hto]; split <;> omega
      rw [← hto] at HK
      have Hto := Lib.hid hto
      clear hto
      have hm0 : 0 ≤ max 0 (to - fr) := by omega
      have hm1 : max 0 (to - fr) ≤ 20000 := by omega
      have hm2 : 0 ≤ max 0 (to - fr) * q := Int.mul_nonneg hm0 g
      have hm3 : max 0 (to - fr) * q ≤ 20000 * 500 := Int.mul_le_mul hm1 h g (by omega)
      have hw0 : wrap64 0 = 0 := IntWalk.wrap64_in _ (by omega)
      have hcase : (0 < to - fr ∧ 0 ≤ (to - fr) * q ∧ (to - fr) * q ≤ 10000000 ∧ costK t p (k + 1) = (ou + (to - fr) * q, u)) ∨ (to - fr ≤ 0 ∧ costK t p (k + 1) = (ou, u)) := by
        by_cases hsg : 0 < to - fr
        · rw [show max 0 (to - fr) = to - fr from by omega] at hm2 hm3 HK
          exact .inl ⟨hsg, hm2, by omega, HK.out⟩
        · rw [show max 0 (to - fr) = 0 from by omega, Int.zero_mul, Int.add_zero] at HK
          exact .inr ⟨by omega, HK.out⟩
      clear hm0 hm1 hm2 hm3 HK
      have hbw2 : ∀ x y, Below w.heap.size w ((wr.alloc x).alloc y) := fun x y => (hbw.alloc hbw.size _).alloc (by simp; have := hbw.size; omega) _
      have Hbw2 := Lib.hid hbw2
      clear hbw2
      by_cases hla : k + 1 = t.length
      · have hpo : p = to := by rw [Hto.out, if_pos hla]
        subst hpo
        have hla2 : ((k : Int) == (t.length : Int) - 1) = true := by rw [beq_iff_eq]; omega
        have Hla := Lib.hid hla
        clear hla Hto
        by_cases hmn : u < p
        all_goals
          rcases hcase with ⟨s1, s2, s3, s4⟩ | ⟨s1, s4⟩
          all_goals
            have S4 := Lib.hid s4
            clear s4
            go_wp2_with fail
            refine (sum2_any (by simp) _ _ (by omega) (by omega) (by omega) (by omega)).mono ?_
            rintro e w1 ⟨rfl, rfl⟩
            go_wp2_with fail
            go_roundw
            case rel => exact ⟨k + 1, by omega, by go_num, by rw [S4.out], by rw [S4.out], Hbw2.out _ _⟩
            case measure => simp [intOf]; omega
      · have hla2 : ((k : Int) == (t.length : Int) - 1) = false := by rw [beq_eq_false_iff_ne]; omega
        have hto : to = min p u := by rw [Hto.out, if_neg hla]
        clear hla Hto
        by_cases hmn : u < p
        all_goals
          obtain rfl : to = _ := by first | exact hto.trans (Int.min_eq_right (by omega)) | exact hto.trans (Int.min_eq_left (by omega))
          clear hto
          rcases hcase with ⟨s1, s2, s3, s4⟩ | ⟨s1, s4⟩
          all_goals
            have S4 := Lib.hid s4
            clear s4
            go_wp2_with fail
            refine (sum2_any (by simp) _ _ (by omega) (by omega) (by omega) (by omega)).mono ?_
            rintro e w1 ⟨rfl, rfl⟩
            go_wp2_with fail
            go_roundw
            case rel => exact ⟨k + 1, by omega, by go_num, by rw [S4.out], by rw [S4.out], Hbw2.out _ _⟩
            case measure => simp [intOf]; omega
    · have hk2 : Hid (costF t p = ((costK t p k).1 + 99) / 100) := by
        unfold costF; rw [show t.length = k from by omega]; rfl
      go_wp2_with fail
      go_ret
      exact ⟨ret_int hk2.out.symm, hbw⟩
end Go.Proofs.Ytfojjecnmfkcfaa
