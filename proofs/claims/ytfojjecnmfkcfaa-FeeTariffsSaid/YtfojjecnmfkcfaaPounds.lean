/- Cost, and the closure of Pounds, at every tariff of at most 1000 steps. -/
import Derived.Test.YtfojjecnmfkcfaaCost
import Derived.Test.YtfojjecnmfkcfaaHalve
namespace Go.Proofs.Ytfojjecnmfkcfaa
open Go.RowKit
theorem keep2 {w0 w1 w2 : World} {b1 o1 b2 o2 : Nat} {v1 v2 : Value} (hB : b1 < w0.heap.size) (hB2 : b2 < w0.heap.size) (h : w1.cell? ⟨b1, o1, none⟩ = some v1 ∧ w1.cell? ⟨b2, o2, none⟩ = some v2 ∧ Below w0.heap.size w0 w1)
    (hb : Below w1.heap.size w1 w2) : w2.cell? ⟨b1, o1, none⟩ = some v1 ∧ w2.cell? ⟨b2, o2, none⟩ = some v2 ∧ Below w0.heap.size w0 w2 := by
  obtain ⟨h1, h2, h5⟩ := h
  exact ⟨(hb.cell (p := ⟨b1, o1, none⟩) (Nat.lt_of_lt_of_le hB h5.size)).trans h1, (hb.cell (p := ⟨b2, o2, none⟩) (Nat.lt_of_lt_of_le hB2 h5.size)).trans h2, h5.trans (hb.mono h5.size)⟩
theorem and3 {a b c : Prop} (h : a ∧ b ∧ c) : c := h.2.2
def costCode (t : List (Int × Int)) (p : Int) : Int := if ckTariff t = 0 then (if 0 ≤ p ∧ p ≤ 20000 then 0 else 4) else ckTariff t
def costRes (t : List (Int × Int)) (p : Int) : Int := if costCode t p = 0 then costF t p else 0
theorem ckTariff_ok {t : List (Int × Int)} (h : ckTariff t = 0) : 1 ≤ t.length ∧ t.length ≤ 4 ∧ stepsOk t ∧ risesB 1 (t.map (·.1)) = true := by
  unfold ckTariff at h
  split at h
  · omega
  · split at h
    · omega
    · split at h
      · rename_i h1 h2 h3
        exact ⟨by omega, by omega, stepsOk_of (by simpa using h2), h3⟩
      · omega
theorem ckTariff_ne {t : List (Int × Int)} : ckTariff t = 0 ∨ ckTariff t = 3 ∨ ckTariff t = 4 ∨ ckTariff t = 6 := by
  unfold ckTariff
  split
  · omega
  · split
    · omega
    · split <;> omega
set_option maxHeartbeats 400000 in
theorem Cost_any (A : Option Addr) (c : Nat) (t : List (Int × Int)) (p : Int) (w : World) (hr : Rd w w.heap.size A (pairs t)) (hl : t.length ≤ 1000) (hc : t.length ≤ c) :
    Calls Try.prog 21 #[.slice A t.length c, .int .i64 p] w fun e w' => e = .returned (.tuple #[.int .i64 (costRes t p), .int .i64 (costCode t p)]) ∧ Below w.heap.size w w' := by
  have H1 := Lib.hid (checkTariff_any A c t w hr hl hc)
  by_cases h0 : ckTariff t = 0
  · obtain ⟨o1, o2, o3, o4⟩ := ckTariff_ok h0
    rw [h0] at H1
    by_cases hp : inB p 0 20000 = true
    · have hp' := inB_iff.1 hp
      have hF : costCode t p = 0 := by unfold costCode; rw [if_pos h0, if_pos hp']
      have HF := Lib.hid hF
      clear hF
      have H2 := fun w1 (hb : Below w.heap.size w w1) => Lib.hid (cost_any A c t p w1 (hr.next hb) hl o3 hp'.1 hp'.2)
      clear h0 o4
      go_enter Try.func21, Try.ntmps21
      go_wp2_with fail
      refine H1.out.mono ?_
      rintro e w1 ⟨rfl, hb1⟩
      go_wp2_with fail
      refine (in_any _ _ _ _).mono ?_
      rintro e w2 ⟨rfl, rfl⟩
      go_wp2_with fail
      refine (H2 _ hb1).out.mono ?_
      rintro e w3 ⟨rfl, hb3⟩
      go_wp2_with fail
      go_ret2
      exact ⟨by rw [costRes, HF.out]; rfl, hb1.trans (hb3.mono hb1.size)⟩
    · have hp' : ¬(0 ≤ p ∧ p ≤ 20000) := fun h => hp (inB_iff.2 h)
      have hF : costCode t p = 4 := by unfold costCode; rw [if_pos h0, if_neg hp']
      have HF := Lib.hid hF
      clear hF
      clear h0 o4 hp'
      go_enter Try.func21, Try.ntmps21
      go_wp2_with fail
      refine H1.out.mono ?_
      rintro e w1 ⟨rfl, hb1⟩
      go_wp2_with fail
      refine (in_any _ _ _ _).mono ?_
      rintro e w2 ⟨rfl, rfl⟩
      go_wp2_with fail
      go_ret2
      exact ⟨by rw [costRes, HF.out]; rfl, hb1⟩
  · have hF : costCode t p = ckTariff t := by unfold costCode; rw [if_neg h0]
    have HF := Lib.hid hF
    clear hF
    have h0' : (ckTariff t == 0) = false := by simpa using h0
    have h0'' : (ckTariff t != 0) = true := by simpa using h0
    have H0 := Lib.hid h0
    clear h0
    go_enter Try.func21, Try.ntmps21
    go_wp2_with fail
    refine H1.out.mono ?_
    rintro e w1 ⟨rfl, hb1⟩
    go_wp2_with fail
    go_ret2
    exact ⟨by rw [costRes, HF.out, if_neg H0.out]; rfl, hb1⟩
set_option maxHeartbeats 400000 in
theorem poundsSo_any (A : Option Addr) (c : Nat) (t : List (Int × Int)) (p n : Int) (b1 b2 : Nat) (w : World) (h1 : w.cell? ⟨b1, 0, none⟩ = some (.slice A t.length c)) (h2 : w.cell? ⟨b2, 0, none⟩ = some (.int .i64 p)) (hb1 : b1 < w.heap.size) (hb2 : b2 < w.heap.size)
    (hr : Rd w w.heap.size A (pairs t)) (hl : t.length ≤ 1000) (hs : stepsOk t) (h0 : 0 ≤ n) (hn : n ≤ 20000) :
    Calls Try.prog 93 #[.int .i64 n, .pointer (some ⟨b1, 0, none⟩), .pointer (some ⟨b2, 0, none⟩)] w fun e w' => e = .returned (.bool (decide (costF t n ≤ p))) ∧ Below w.heap.size w w' := by
  go_enter Try.func93, Try.ntmps93
  go_wp2_with fail
  go_region_held3 (fun w' => w'.cell? ⟨b1, 0, none⟩ = some (.slice A t.length c) ∧ w'.cell? ⟨b2, 0, none⟩ = some (.int .i64 p) ∧ Below w.heap.size w w') (first | exact ⟨h1, h2, (Below.refl _ _).drew⟩ | exact keep2 hb1 hb2 (by assumption) (by assumption))
    (first | (go_at_call 89; refine (cost_any A c t n _ ?_ hl hs h0 hn).mono ?_; exact hr.next (and3 (by assumption)); rintro e w' ⟨rfl, hb⟩))
  all_goals go_wp2_with fail
  all_goals go_ret
  all_goals exact ⟨rfl, and3 (by assumption)⟩
end Go.Proofs.Ytfojjecnmfkcfaa
