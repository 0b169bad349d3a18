/- The reference: Cost and Pounds come to what the program comes to, at every tariff of at most 1000 steps. -/
import Derived.Test.YtfojjecnmfkcfaaTarMath
namespace Go.Proofs.Ytfojjecnmfkcfaa
open Go.RowKit
set_option linter.unusedVariables false
set_option maxHeartbeats 400000 in
theorem refCost_any (A : Option Addr) (c : Nat) (t : List (Int × Int)) (p : Int) (w : World) (hr : Rd w w.heap.size A (pairs t)) (hl : t.length ≤ 1000) :
    Calls Try.prog 22 #[.slice A t.length c, .int .i64 p] w fun e w' => e = .returned (.tuple #[.int .i64 (costRes t p), .int .i64 (costCode t p)]) ∧ Below w.heap.size w w' := by
  have H1 := Lib.hid (refCheckTariff_any A c t w hr hl)
  by_cases h0 : ckTariff t = 0
  · obtain ⟨o1, o2, o3, o4⟩ := ckTariff_ok h0
    rw [h0] at H1
    by_cases hp : inB p 0 20000 = true
    · have hp' := inB_iff.1 hp
      have hF : costCode t p = 0 := by unfold costCode; rw [if_pos h0, if_pos hp']
      have hG : costRes t p = upF100 (rawR t p.toNat) := by
        unfold costRes
        rw [if_pos hF, ← costF_raw t o3 o4 (by omega) _ (by omega), Int.toNat_of_nonneg hp'.1]
      have HF := Lib.hid hF
      have HG := Lib.hid hG
      clear hF hG
      have HB := fun n (hn : n ≤ 20000) => Lib.hid (rawR_bd t o3 o4 (by omega) (by omega) n hn)
      have hpa := hp'.1
      have hpb := hp'.2
      clear h0 o4 hp'
      obtain ⟨pn, rfl⟩ := Int.eq_ofNat_of_zero_le hpa
      have hpn : pn ≤ 20000 := by omega
      rw [Int.toNat_natCast] at HG
      clear hpa hpb
      go_enter Try.func22, Try.ntmps22
      go_wp2_with fail
      refine H1.out.mono ?_
      rintro e w1 ⟨rfl, hb1⟩
      go_wp2_with fail
      refine (off_any _ _ _ _).mono ?_
      rintro e w2 ⟨rfl, rfl⟩
      go_wp2_with fail
      go_loop [7, 8] (fun o i => ∃ k : Nat, k ≤ pn ∧ i = .int .i64 (k + 1 : Nat) ∧ o = .int .i64 (rawR t k)) (fun _ i => pn + 1 - (intOf i).toNat)
      case atStart => exact ⟨0, by omega, rfl, rfl⟩
      case round =>
        obtain ⟨k, hk, rfl, rfl⟩ := hrel
        obtain ⟨g1, g2⟩ := (HB k (by omega)).out
        have e2 : ((k + 1 : Nat) : Int) = (k : Int) + 1 := by omega
        rw [e2]
        by_cases hlt : k < pn
        · have h3 := (HB (k + 1) (by omega)).out
          have h4 : rawR t (k + 1) = rawR t k + rateF t ((k : Int) + 1) := by rw [← e2]; rfl
          rw [h4] at h3
          obtain ⟨g3, g4⟩ := h3
          have H4 := Lib.hid h4
          clear e2 h4
          have hle : (k : Int) + 1 ≤ pn := by omega
          go_wp2_with fail
          refine (rate_any A c t _ _ (hr.next hb1) hl (by omega)).mono ?_
          rintro e w2 ⟨rfl, rfl⟩
          go_wp2_with fail
          go_round
          case rel => exact ⟨k + 1, by omega, by go_num, by rw [H4.out]⟩
          case measure => simp [intOf]; omega
        · clear e2
          have hkp : k = pn := by omega
          have Hkp := Lib.hid hkp
          clear hkp
          have hle : ¬ (k : Int) + 1 ≤ pn := by omega
          go_wp2_with fail
          refine (up_any _ _ (by omega) (by omega)).mono ?_
          rintro e w2 ⟨rfl, rfl⟩
          go_wp2_with fail
          go_ret2
          exact ⟨by rw [HG.out, HF.out, Hkp.out]; rfl, hb1⟩
    · have hp' : ¬(0 ≤ p ∧ p ≤ 20000) := fun h => hp (inB_iff.2 h)
      have hF : costCode t p = 4 := by unfold costCode; rw [if_pos h0, if_neg hp']
      have HF := Lib.hid hF
      clear hF
      clear h0 o4 hp'
      go_enter Try.func22, Try.ntmps22
      go_wp2_with fail
      refine H1.out.mono ?_
      rintro e w1 ⟨rfl, hb1⟩
      go_wp2_with fail
      refine (off_any _ _ _ _).mono ?_
      rintro e w2 ⟨rfl, rfl⟩
      go_wp2_with fail
      go_ret2
      exact ⟨by rw [costRes, HF.out]; rfl, hb1⟩
  · have hF : costCode t p = ckTariff t := by unfold costCode; rw [if_neg h0]
    have HF := Lib.hid hF
    clear hF
    have h0' : (ckTariff t == 0) = false := by simpa using h0
    have h0'' : (ckTariff t != 0) = true := by simpa using h0
    have H0 := Lib.hid h0
    clear h0
    go_enter Try.func22, Try.ntmps22
    go_wp2_with fail
    refine H1.out.mono ?_
    rintro e w1 ⟨rfl, hb1⟩
    go_wp2_with fail
    go_ret2
    exact ⟨by rw [costRes, HF.out, if_neg H0.out]; rfl, hb1⟩
/-- What the reference finds: the last pound before the first one that is too dear. -/
theorem poundsF_first {t : List (Int × Int)} (hs : stepsOk t) (hr : risesB 1 (t.map (·.1)) = true) (hl : 0 < t.length) (p : Int) (k : Nat) (hk : k + 1 ≤ 20000) (h1 : ∀ j, 1 ≤ j → j ≤ k → upF100 (rawR t j) ≤ p) (h2 : p < upF100 (rawR t (k + 1))) : poundsF t p = k := by
  refine (poundsF_of hs ⟨by omega, by omega, ?_, ?_⟩).symm
  · by_cases e : k = 0
    · exact .inl (by omega)
    · refine .inr ?_
      rw [decide_eq_true_eq, costF_raw t hs hr hl k (by omega)]
      exact h1 k (by omega) (Nat.le_refl _)
  · refine .inr ?_
    rw [decide_eq_false_iff_not]
    have e : (k : Int) + 1 = ((k + 1 : Nat) : Int) := by omega
    rw [e, costF_raw t hs hr hl (k + 1) hk]
    omega
theorem poundsF_all {t : List (Int × Int)} (hs : stepsOk t) (hr : risesB 1 (t.map (·.1)) = true) (hl : 0 < t.length) (p : Int) (h1 : ∀ j, 1 ≤ j → j ≤ 20000 → upF100 (rawR t j) ≤ p) : poundsF t p = 20000 := by
  refine (poundsF_of hs ⟨by omega, by omega, .inr ?_, .inl (by omega)⟩).symm
  rw [decide_eq_true_eq, show (20000 : Int) = ((20000 : Nat) : Int) from rfl, costF_raw t hs hr hl 20000 (by omega)]
  exact h1 20000 (by omega) (Nat.le_refl _)
set_option maxHeartbeats 400000 in
set_option maxRecDepth 100000 in
theorem refPounds_any (A : Option Addr) (c : Nat) (t : List (Int × Int)) (p : Int) (w : World) (hr : Rd w w.heap.size A (pairs t)) (hl : t.length ≤ 1000) :
    Calls Try.prog 24 #[.slice A t.length c, .int .i64 p] w fun e w' => e = .returned (.tuple #[.int .i64 (poundsRes t p), .int .i64 (poundsCode t p)]) ∧ Below w.heap.size w w' := by
  have H1 := Lib.hid (refCheckTariff_any A c t w hr hl)
  by_cases h0 : ckTariff t = 0
  · obtain ⟨o1, o2, o3, o4⟩ := ckTariff_ok h0
    rw [h0] at H1
    by_cases hp : p < 0
    · have hF : poundsCode t p = 4 := by unfold poundsCode; rw [if_pos h0, if_pos hp]
      have HF := Lib.hid hF
      clear hF h0 o4
      go_enter Try.func24, Try.ntmps24
      go_wp2_with fail
      refine H1.out.mono ?_
      rintro e w1 ⟨rfl, hb1⟩
      go_wp2_with fail
      go_ret2
      exact ⟨by rw [poundsRes, HF.out]; rfl, hb1⟩
    · have hF : poundsCode t p = 0 := by unfold poundsCode; rw [if_pos h0, if_neg hp]
      have hG : poundsRes t p = poundsF t p := by unfold poundsRes; rw [if_pos hF]
      have HF := Lib.hid hF
      have HG := Lib.hid hG
      have HB := fun n (hn : n ≤ 20000) => Lib.hid (rawR_bd t o3 o4 (by omega) (by omega) n hn)
      have HP := fun k hk h1 h2 => Lib.hid (poundsF_first o3 o4 (by omega) p k hk h1 h2)
      have HA := fun h1 => Lib.hid (poundsF_all o3 o4 (by omega) p h1)
      clear hF hG h0 o4
      go_enter Try.func24, Try.ntmps24
      go_wp2_with fail
      refine H1.out.mono ?_
      rintro e w1 ⟨rfl, hb1⟩
      go_wp2_with fail
      go_loop [7, 8] (fun o i => ∃ k : Nat, k ≤ 20000 ∧ i = .int .i64 (k + 1 : Nat) ∧ o = .int .i64 (rawR t k) ∧ ∀ j, 1 ≤ j → j ≤ k → upF100 (rawR t j) ≤ p) (fun _ i => 20001 - (intOf i).toNat)
      case atStart => exact ⟨0, by omega, rfl, rfl, fun j a b => by omega⟩
      case round =>
        obtain ⟨k, hk, rfl, rfl, hall⟩ := hrel
        have Hall := Lib.hid hall
        clear hall
        obtain ⟨g1, g2⟩ := (HB k (by omega)).out
        have e2 : ((k + 1 : Nat) : Int) = (k : Int) + 1 := by omega
        rw [e2]
        by_cases hlt : k < 20000
        · have h3 := (HB (k + 1) (by omega)).out
          have h4 : rawR t (k + 1) = rawR t k + rateF t ((k : Int) + 1) := by rw [← e2]; rfl
          rw [h4] at h3
          obtain ⟨g3, g4⟩ := h3
          have hle : (k : Int) + 1 ≤ 20000 := by omega
          by_cases hup : upF100 (rawR t (k + 1)) ≤ p
          · have Hup := Lib.hid hup
            rw [h4] at hup
            have H4 := Lib.hid h4
            clear e2 h4
            go_wp2_with fail
            refine (rate_any A c t _ _ (hr.next hb1) hl (by omega)).mono ?_
            rintro e w2 ⟨rfl, rfl⟩
            go_wp2_with fail
            refine (up_any _ _ (by omega) (by omega)).mono ?_
            rintro e w2 ⟨rfl, rfl⟩
            go_wp2_with fail
            go_round
            case rel =>
              refine ⟨k + 1, by omega, by go_num, by rw [H4.out], fun j a b => ?_⟩
              by_cases e : j = k + 1
              · subst e; exact Hup.out
              · exact Hall.out j a (by omega)
            case measure => simp [intOf]; omega
          · have hup : p < upF100 (rawR t (k + 1)) := by omega
            have HF2 := HP k (by omega) Hall.out hup
            rw [h4] at hup
            clear e2 h4
            go_wp2_with fail
            refine (rate_any A c t _ _ (hr.next hb1) hl (by omega)).mono ?_
            rintro e w2 ⟨rfl, rfl⟩
            go_wp2_with fail
            refine (up_any _ _ (by omega) (by omega)).mono ?_
            rintro e w2 ⟨rfl, rfl⟩
            go_wp2_with fail
            go_ret2
            exact ⟨by rw [HG.out, HF.out, HF2.out]; rfl, hb1⟩
        · have hkp : k = 20000 := by omega
          subst hkp
          have HF2 := HA Hall.out
          clear e2
          go_wp2_with fail
          go_ret2
          exact ⟨by rw [HG.out, HF.out, HF2.out]; rfl, hb1⟩
  · have hF : poundsCode t p = ckTariff t := by unfold poundsCode; rw [if_neg h0]
    have HF := Lib.hid hF
    clear hF
    have h0' : (ckTariff t == 0) = false := by simpa using h0
    have h0'' : (ckTariff t != 0) = true := by simpa using h0
    have H0 := Lib.hid h0
    clear h0
    go_enter Try.func24, Try.ntmps24
    go_wp2_with fail
    refine H1.out.mono ?_
    rintro e w1 ⟨rfl, hb1⟩
    go_wp2_with fail
    go_ret2
    exact ⟨by rw [poundsRes, HF.out, if_neg H0.out]; rfl, hb1⟩
end Go.Proofs.Ytfojjecnmfkcfaa
