/- The reference: the error of a tariff, and the walk of its raw cost, at every tariff of at most 1000 steps. -/
import Derived.Test.YtfojjecnmfkcfaaPounds2
import Derived.Deep.QuietTactic
import Derived.BigQuiet
import Derived.WalkSmall
namespace Go.Proofs.Ytfojjecnmfkcfaa
open Go.RowKit
def upF100 (n : Int) : Int := if n % 100 = 0 then n / 100 else n / 100 + 1
theorem up_any (n : Int) (w : World) (h0 : 0 ≤ n) (h1 : n ≤ 1000000000000) : Calls Try.prog 91 #[.int .i64 n] w fun e w' => e = .returned (.int .i64 (upF100 n)) ∧ w = w' := by
  by_cases h : n % 100 = 0
  · have hb : (n % 100 == 0) = true := by simpa using h
    have hF : upF100 n = n / 100 := by unfold upF100; rw [if_pos h]
    have HF := Lib.hid hF
    clear hF h
    go_enter Try.func91, Try.ntmps91
    go_wp2_with fail
    go_ret
    exact ⟨ret_int HF.out.symm, rfl⟩
  · have hb : (n % 100 == 0) = false := by simpa using h
    have hF : upF100 n = n / 100 + 1 := by unfold upF100; rw [if_neg h]
    have HF := Lib.hid hF
    clear hF h
    go_enter Try.func91, Try.ntmps91
    go_wp2_with fail
    go_ret
    exact ⟨ret_int HF.out.symm, rfl⟩
/-- The rate of a pound: that of the first step that goes up to it, else of the last one. -/
def rateF : List (Int × Int) → Int → Int
  | [], _ => 0
  | [s], _ => s.2
  | s :: s' :: t, n => if n ≤ s.1 then s.2 else rateF (s' :: t) n
theorem rateF_hit (n : Int) : ∀ (t : List (Int × Int)) (k : Nat) (h : k < t.length), (∀ j (hj : j < k), ¬ n ≤ (t[j]'(by omega)).1) → n ≤ t[k].1 → rateF t n = t[k].2
  | [], k, h, _, _ => by simp at h
  | [s], k, h, _, _ => by
    obtain rfl : k = 0 := by simpa using h
    rfl
  | s :: s' :: t, 0, _, _, h2 => by simp only [rateF]; rw [if_pos (by simpa using h2)]; rfl
  | s :: s' :: t, k + 1, h, h1, h2 => by
    have a := h1 0 (by omega)
    simp only [rateF]
    rw [if_neg (by simpa using a), rateF_hit n (s' :: t) k (by simpa using h) (fun j hj => by simpa using h1 (j + 1) (by omega)) (by simpa using h2)]
    rfl
theorem rateF_last (n : Int) : ∀ (t : List (Int × Int)) (h : 0 < t.length), (∀ j (hj : j < t.length), ¬ n ≤ (t[j]).1) → rateF t n = (t[t.length - 1]'(by omega)).2
  | [], h, _ => by simp at h
  | [s], _, _ => rfl
  | s :: s' :: t, _, h1 => by
    have a := h1 0 (by simp)
    simp only [rateF]
    rw [if_neg (by simpa using a), rateF_last n (s' :: t) (by simp) (fun j hj => h1 (j + 1) (Nat.succ_lt_succ hj))]
    simp
set_option maxHeartbeats 400000 in
theorem rate_any (A : Option Addr) (c : Nat) (t : List (Int × Int)) (n : Int) (w : World) (hr : Rd w w.heap.size A (pairs t)) (hl : t.length ≤ 1000) (hn : 0 < t.length) :
    Calls Try.prog 90 #[.slice A t.length c, .int .i64 n] w fun e w' => e = .returned (.int .i64 (rateF t n)) ∧ w = w' := by
  obtain ⟨b, off, rfl, hbb, _, _⟩ := hr.pair (k := 0) hn
  go_enter Try.func90, Try.ntmps90
  go_wp2_with fail
  go_loop [5] (fun i => ∃ k : Nat, k ≤ t.length ∧ i = .int .i64 k ∧ ∀ j (h1 : j < k) (h2 : j < t.length), ¬ n ≤ t[j].1) (fun i => t.length - (intOf i).toNat)
  case atStart => exact ⟨0, by omega, rfl, fun j h => by omega⟩
  case round =>
    obtain ⟨k, hk, rfl, hno⟩ := hrel
    have Hno := Lib.hid hno
    clear hno
    by_cases hlt : k < t.length
    · obtain ⟨hc1, hc2⟩ := hr.pair' hlt
      by_cases hle : n ≤ t[k].1
      · have HF := Lib.hid (rateF_hit n t k hlt (fun j hj => Hno.out j hj (by omega)) hle)
        go_wp2_with fail
        go_ret
        exact ⟨ret_int HF.out.symm, rfl⟩
      · go_wp2_with fail
        go_round
        case rel =>
          refine ⟨k + 1, by omega, by go_num, fun j h1 h2 => ?_⟩
          by_cases e : j = k
          · subst e; exact hle
          · exact Hno.out j (by omega) h2
        case measure => simp [intOf]; omega
    · obtain ⟨hc1, hc2⟩ := hr.pair' (k := t.length - 1) (by omega)
      have HF := Lib.hid (rateF_last n t hn (fun j hj => Hno.out j (by omega) hj))
      go_wp2_with fail
      go_ret
      exact ⟨ret_int HF.out.symm, rfl⟩
theorem and_drew {B : Nat} {a w w' : World} (h : Below B a w) (n : Nat) (e : w' = w.drewN n) : Below B a w' := e ▸ below_drewN h n
set_option maxHeartbeats 1000000 in
theorem refCheckTariff_any (A : Option Addr) (c : Nat) (t : List (Int × Int)) (w : World) (hr : Rd w w.heap.size A (pairs t)) (hl : t.length ≤ 1000) :
    Calls Try.prog 20 #[.slice A t.length c] w fun e w' => e = .returned (.int .i64 (ckTariff t)) ∧ Below w.heap.size w w' := by
  by_cases hL : inB t.length 1 4 = true
  · have hL' := inB_iff.1 hL
    have e1 : ¬(t.length < 1 ∨ 4 < t.length) := by omega
    have hpos : 0 < t.length := by omega
    have h4 : t.length ≤ 4 := by omega
    obtain ⟨b, off, rfl, hbb, _, _⟩ := hr.pair (k := 0) hpos
    go_enter Try.func20, Try.ntmps20
    go_wp2_with fail
    refine (off_any _ _ _ _).mono ?_
    rintro e w1 ⟨rfl, rfl⟩
    go_wp2_with fail
    go_loop [3] (fun i => ∃ k : Nat, k ≤ t.length ∧ i = .int .i64 k ∧ (t.take k).any notOk = false) (fun i => t.length - (intOf i).toNat)
    case atStart => exact ⟨0, by omega, rfl, by simp⟩
    case round =>
      obtain ⟨k, hk, rfl, hno⟩ := hrel
      by_cases hlt : k < t.length
      · obtain ⟨hc1, hc2⟩ := hr.pair' hlt
        have hs := any_take_succ notOk t k hlt
        rw [hno, Bool.false_or] at hs
        have Hs := Lib.hid hs
        clear hs hno
        by_cases hp : inB t[k].1 1 20000 = true
        · by_cases hq : inB t[k].2 0 500 = true
          · have hp2 : (!inB t[k].1 1 20000) = false := by simp [hp]
            have hq2 : (!inB t[k].2 0 500) = false := by simp [hq]
            go_wp2_with fail
            refine (off_any _ _ _ _).mono ?_
            rintro e w1 ⟨rfl, rfl⟩
            go_wp2_with fail
            refine (off_any _ _ _ _).mono ?_
            rintro e w1 ⟨rfl, rfl⟩
            go_wp2_with fail
            go_round
            case rel => exact ⟨k + 1, by omega, by go_num, by rw [Hs.out]; simp [notOk, stepOk, hp, hq]⟩
            case measure => simp [intOf]; omega
          · have hF : ckTariff t = 4 := by
              unfold ckTariff
              rw [if_neg e1, if_pos (List.any_eq_true.2 ⟨t[k], List.getElem_mem _, by simp [notOk, stepOk, hq]⟩)]
            have HF := Lib.hid hF
            clear hF
            go_wp2_with fail
            refine (off_any _ _ _ _).mono ?_
            rintro e w1 ⟨rfl, rfl⟩
            go_wp2_with fail
            refine (off_any _ _ _ _).mono ?_
            rintro e w1 ⟨rfl, rfl⟩
            go_wp2_with fail
            go_ret
            exact ⟨ret_int HF.out.symm, Below.refl _ _⟩
        · have hF : ckTariff t = 4 := by
            unfold ckTariff
            rw [if_neg e1, if_pos (List.any_eq_true.2 ⟨t[k], List.getElem_mem _, by simp [notOk, stepOk, hp]⟩)]
          have HF := Lib.hid hF
          clear hF
          go_wp2_with fail
          refine (off_any _ _ _ _).mono ?_
          rintro e w1 ⟨rfl, rfl⟩
          go_wp2_with fail
          go_ret
          exact ⟨ret_int HF.out.symm, Below.refl _ _⟩
      · have hE' : t.any notOk = false := by rwa [List.take_of_length_le (by omega)] at hno
        have hF : ckTariff t = if risesB 1 (t.map (·.1)) then 0 else 6 := by unfold ckTariff; rw [if_neg e1, hE', if_neg (by simp)]
        have HF := Lib.hid hF
        have HO := Lib.hid (stepsOk_of hE')
        clear hF hE' hno hL' e1
        go_wp2_with fail
        go_loopw [4] (fun i wr => ∃ k : Nat, k + 1 ≤ t.length ∧ i = .int .i64 (k + 1 : Nat) ∧ risesB 1 ((t.map (·.1)).take (k + 1)) = true ∧ Below w.heap.size w wr) (fun i _ => t.length - (intOf i).toNat)
        case atStart => exact ⟨0, by omega, rfl, rises_one _ _, Below.refl _ _⟩
        case round =>
          obtain ⟨k, hk, rfl, hri, hbw⟩ := hrel
          have Hri := Lib.hid hri
          clear hri
          by_cases hlt : k + 1 < t.length
          · obtain ⟨hc1, hc2⟩ := (hr.below hbw).pair' (k := k) (by omega)
            obtain ⟨hc3, hc4⟩ := (hr.below hbw).pair' hlt
            obtain ⟨u1, u2, _, _⟩ := HO.out t[k] (List.getElem_mem _)
            have hS := rises_snoc 1 (t.map (·.1)) k (by simpa using hlt)
            have hN := rises_no 1 (t.map (·.1)) k (by simpa using hlt)
            simp only [List.getElem_map] at hS hN
            rw [Hri.out, Bool.true_and] at hS
            have HS := Lib.hid hS
            have HN := Lib.hid hN
            clear hS hN
            have e2 : ((k + 1 : Nat) : Int) = (k : Int) + 1 := by omega
            rw [e2]
            clear e2
            have hk1 : (k : Int) + 1 < t.length := by omega
            have hk0 : (k : Int) < t.length := by omega
            have q2 : (0 : Int) ≤ (k : Int) + 1 := by omega
            by_cases hle : t[k + 1].1 ≤ t[k].1
            · go_wp2_with fail
              have q1 : IntKind.i64.wrap ((k : Int) + 1 - 1) = (k : Int) := by rw [Int.add_sub_cancel]; exact IntWalk.i64_in _ (by omega)
              have q3 : ((k : Int) + 1).toNat = k + 1 := by omega
              go_quiet (fail)
              clear q1 q2 q3
              go_wp2_with fail
              go_ret
              exact ⟨ret_int (by rw [HF.out, HN.out (by omega)]; rfl), below_drewN hbw _⟩
            · go_wp2_with fail
              have q1 : IntKind.i64.wrap ((k : Int) + 1 - 1) = (k : Int) := by rw [Int.add_sub_cancel]; exact IntWalk.i64_in _ (by omega)
              have q3 : ((k : Int) + 1).toNat = k + 1 := by omega
              go_quiet (fail)
              clear q1 q2 q3
              go_wp2_with fail
              go_roundw
              case rel => exact ⟨k + 1, by omega, by go_num, by rw [HS.out]; simp; omega, below_drewN hbw _⟩
              case measure => simp [intOf]; omega
          · have hfin : risesB 1 (t.map (·.1)) = true := by
              have := Hri.out
              rwa [List.take_of_length_le (by simp; omega)] at this
            have Hfin := Lib.hid hfin
            clear hfin
            have e2 : ((k + 1 : Nat) : Int) = (k : Int) + 1 := by omega
            rw [e2]
            clear e2
            have hge : ¬ (k : Int) + 1 < t.length := by omega
            go_wp2_with fail
            go_ret
            exact ⟨ret_int (by rw [HF.out, Hfin.out]; rfl), hbw⟩
  · have hL' := inB_no.1 (by simpa using hL)
    have hF : ckTariff t = 3 := by unfold ckTariff; rw [if_pos (by omega)]
    have HF := Lib.hid hF
    clear hF hL'
    go_enter Try.func20, Try.ntmps20
    go_wp2_with fail
    refine (off_any _ _ _ _).mono ?_
    rintro e w1 ⟨rfl, rfl⟩
    go_wp2_with fail
    go_ret
    exact ⟨ret_int HF.out.symm, Below.refl _ _⟩
end Go.Proofs.Ytfojjecnmfkcfaa
