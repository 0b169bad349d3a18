/- The reference: the error of a tariff, and the walk of its raw cost, at every tariff of at most 1000 steps. Costs by a tariff, program and reference: plain mathematics. The reference: Cost and Pounds come to what the program comes to, at every tariff of at most 1000 steps. Copies of lists read as the lists, in blocks of their own, at every slice of at most 100000 elements. stepped: the tariff of the reference reads as that of the program, at every slice of at most 100000 steps. -/
import Derived.Test.YtfojjecnmfkcfaaGreatP2
import Derived.Deep.QuietTactic
import Derived.BigQuiet
import Derived.WalkSmall
import Derived.Test.YtfojjecnmfkcfaaGreatProg
import Derived.Test.YtfojjecnmfkcfaaGreatP1
namespace Go.Proofs.YtfojjecnmfkcfaaGreat
open Go.RowKit
def upF100 (n : Int) : Int := if n % 100 = 0 then n / 100 else n / 100 + 1
theorem up_any (n : Int) (w : World) (h0 : 0 ≤ n) (h1 : n ≤ 1000000000000) : Calls Tryz.prog 100 #[.int .i64 n] w fun e w' => e = .returned (.int .i64 (upF100 n)) ∧ w = w' := by
  by_cases h : n % 100 = 0
  · have hb : (n % 100 == 0) = true := by simpa using h
    have hF : upF100 n = n / 100 := by unfold upF100; rw [if_pos h]
    have HF := Lib.hid hF
    clear hF h
    go_enter Tryz.func100, Tryz.ntmps100
    go_wp2_with fail
    go_ret
    exact ⟨ret_int HF.out.symm, rfl⟩
  · have hb : (n % 100 == 0) = false := by simpa using h
    have hF : upF100 n = n / 100 + 1 := by unfold upF100; rw [if_neg h]
    have HF := Lib.hid hF
    clear hF h
    go_enter Tryz.func100, Tryz.ntmps100
    go_wp2_with fail
    go_ret
    exact ⟨ret_int HF.out.symm, rfl⟩
/-- The rate of a pound: that of the first step that goes up to it, else of the last one. -/
def rateF : List (Int × Int) → Int → Int
  | [], _ => 0
  | [s], _ => s.2
  | s :: s' :: t, n => if n ≤ s.1 then s.2 else rateF (s' :: t) n
theorem rateF_hit (n : Int) : ∀ (t : List (Int × Int)) (k : Nat) (h : k < t.length), (∀ j (hj : j < k), ¬ n ≤ (t[j]'(by omega)).1) → n ≤ t[k].1 → rateF t n = t[k].2
  | [], k, h, _, _ => by simp at h
  | [s], k, h, _, _ => by
    obtain rfl : k = 0 := by simpa using h
    rfl
  | s :: s' :: t, 0, _, _, h2 => by simp only [rateF]; rw [if_pos (by simpa using h2)]; rfl
  | s :: s' :: t, k + 1, h, h1, h2 => by
    have a := h1 0 (by omega)
    simp only [rateF]
    rw [if_neg (by simpa using a), rateF_hit n (s' :: t) k (by simpa using h) (fun j hj => by simpa using h1 (j + 1) (by omega)) (by simpa using h2)]
    rfl
theorem rateF_last (n : Int) : ∀ (t : List (Int × Int)) (h : 0 < t.length), (∀ j (hj : j < t.length), ¬ n ≤ (t[j]).1) → rateF t n = (t[t.length - 1]'(by omega)).2
  | [], h, _ => by simp at h
  | [s], _, _ => rfl
  | s :: s' :: t, _, h1 => by
    have a := h1 0 (by simp)
    simp only [rateF]
    rw [if_neg (by simpa using a), rateF_last n (s' :: t) (by simp) (fun j hj => h1 (j + 1) (Nat.succ_lt_succ hj))]
    simp
set_option maxHeartbeats 400000 in
theorem rate_any (A : Option Addr) (c : Nat) (t : List (Int × Int)) (n : Int) (w : World) (hr : Rd w w.heap.size A (pairs t)) (hl : t.length ≤ 1000) (hn : 0 < t.length) :
    Calls Tryz.prog 103 #[.slice A t.length c, .int .i64 n] w fun e w' => e = .returned (.int .i64 (rateF t n)) ∧ w = w' := by
  obtain ⟨b, off, rfl, hbb, _, _⟩ := hr.pair (k := 0) hn
  go_enter Tryz.func103, Tryz.ntmps103
  go_wp2_with fail
  go_loop [5] (fun i => ∃ k : Nat, k ≤ t.length ∧ i = .int .i64 k ∧ ∀ j (h1 : j < k) (h2 : j < t.length), ¬ n ≤ t[j].1) (fun i => t.length - (intOf i).toNat)
  case atStart => exact ⟨0, by omega, rfl, fun j h => by omega⟩
  case round =>
    obtain ⟨k, hk, rfl, hno⟩ := hrel
    have Hno := Lib.hid hno
    clear hno
    by_cases hlt : k < t.length
    · obtain ⟨hc1, hc2⟩ := hr.pair' hlt
      by_cases hle : n ≤ t[k].1
      · have HF := Lib.hid (rateF_hit n t k hlt (fun j hj => Hno.out j hj (by omega)) hle)
        go_wp2_with fail
        go_ret
        exact ⟨ret_int HF.out.symm, rfl⟩
      · go_wp2_with fail
        go_round
        case rel =>
          refine ⟨k + 1, by omega, by go_num, fun j h1 h2 => ?_⟩
          by_cases e : j = k
          · subst e; exact hle
          · exact Hno.out j (by omega) h2
        case measure => simp [intOf]; omega
    · obtain ⟨hc1, hc2⟩ := hr.pair' (k := t.length - 1) (by omega)
      have HF := Lib.hid (rateF_last n t hn (fun j hj => Hno.out j (by omega) hj))
      go_wp2_with fail
      go_ret
      exact ⟨ret_int HF.out.symm, rfl⟩
theorem and_drew {B : Nat} {a w w' : World} (h : Below B a w) (n : Nat) (e : w' = w.drewN n) : Below B a w' := e ▸ below_drewN h n
set_option maxHeartbeats 1000000 in
theorem refCheckTariff_any (A : Option Addr) (c : Nat) (t : List (Int × Int)) (w : World) (hr : Rd w w.heap.size A (pairs t)) (hl : t.length ≤ 1000) :
    Calls Tryz.prog 49 #[.slice A t.length c] w fun e w' => e = .returned (.int .i64 (ckTariff t)) ∧ Below w.heap.size w w' := by
  by_cases hL : inB t.length 1 4 = true
  · have hL' := inB_iff.1 hL
    have e1 : ¬(t.length < 1 ∨ 4 < t.length) := by omega
    have hpos : 0 < t.length := by omega
    have h4 : t.length ≤ 4 := by omega
    obtain ⟨b, off, rfl, hbb, _, _⟩ := hr.pair (k := 0) hpos
    go_enter Tryz.func49, Tryz.ntmps49
    go_wp2_with fail
    refine (off_any _ _ _ _).mono ?_
    rintro e w1 ⟨rfl, rfl⟩
    go_wp2_with fail
    go_loop [3] (fun i => ∃ k : Nat, k ≤ t.length ∧ i = .int .i64 k ∧ (t.take k).any notOk = false) (fun i => t.length - (intOf i).toNat)
    case atStart => exact ⟨0, by omega, rfl, by simp⟩
    case round =>
      obtain ⟨k, hk, rfl, hno⟩ := hrel
      by_cases hlt : k < t.length
      · obtain ⟨hc1, hc2⟩ := hr.pair' hlt
        have hs := any_take_succ notOk t k hlt
        rw [hno, Bool.false_or] at hs
        have Hs := Lib.hid hs
        clear hs hno
        by_cases hp : inB t[k].1 1 20000 = true
        · by_cases hq : inB t[k].2 0 500 = true
          · have hp2 : (!inB t[k].1 1 20000) = false := by simp [hp]
            have hq2 : (!inB t[k].2 0 500) = false := by simp [hq]
            go_wp2_with fail
            refine (off_any _ _ _ _).mono ?_
            rintro e w1 ⟨rfl, rfl⟩
            go_wp2_with fail
            refine (off_any _ _ _ _).mono ?_
            rintro e w1 ⟨rfl, rfl⟩
            go_wp2_with fail
            go_round
            case rel => exact ⟨k + 1, by omega, by go_num, by rw [Hs.out]; simp [notOk, stepOk, hp, hq]⟩
            case measure => simp [intOf]; omega
          · have hF : ckTariff t = 4 := by
              unfold ckTariff
              rw [if_neg e1, if_pos (List.any_eq_true.2 ⟨t[k], List.getElem_mem _, by simp [notOk, stepOk, hq]⟩)]
            have HF := Lib.hid hF
            clear hF
            go_wp2_with fail
            refine (off_any _ _ _ _).mono ?_
            rintro e w1 ⟨rfl, rfl⟩
            go_wp2_with fail
            refine (off_any _ _ _ _).mono ?_
            rintro e w1 ⟨rfl, rfl⟩
            go_wp2_with fail
            go_ret
            exact ⟨ret_int HF.out.symm, Below.refl _ _⟩
        · have hF : ckTariff t = 4 := by
            unfold ckTariff
            rw [if_neg e1, if_pos (List.any_eq_true.2 ⟨t[k], List.getElem_mem _, by simp [notOk, stepOk, hp]⟩)]
          have HF := Lib.hid hF
          clear hF
          go_wp2_with fail
          refine (off_any _ _ _ _).mono ?_
          rintro e w1 ⟨rfl, rfl⟩
          go_wp2_with fail
          go_ret
          exact ⟨ret_int HF.out.symm, Below.refl _ _⟩
      · have hE' : t.any notOk = false := by rwa [List.take_of_length_le (by omega)] at hno
        have hF : ckTariff t = if risesB 1 (t.map (·.1)) then 0 else 6 := by unfold ckTariff; rw [if_neg e1, hE', if_neg (by simp)]
        have HF := Lib.hid hF
        have HO := Lib.hid (stepsOk_of hE')
        clear hF hE' hno hL' e1
        go_wp2_with fail
        go_loopw [4] (fun i wr => ∃ k : Nat, k + 1 ≤ t.length ∧ i = .int .i64 (k + 1 : Nat) ∧ risesB 1 ((t.map (·.1)).take (k + 1)) = true ∧ Below w.heap.size w wr) (fun i _ => t.length - (intOf i).toNat)
        case atStart => exact ⟨0, by omega, rfl, rises_one _ _, Below.refl _ _⟩
        case round =>
          obtain ⟨k, hk, rfl, hri, hbw⟩ := hrel
          have Hri := Lib.hid hri
          clear hri
          by_cases hlt : k + 1 < t.length
          · obtain ⟨hc1, hc2⟩ := (hr.below hbw).pair' (k := k) (by omega)
            obtain ⟨hc3, hc4⟩ := (hr.below hbw).pair' hlt
            obtain ⟨u1, u2, _, _⟩ := HO.out t[k] (List.getElem_mem _)
            have hS := rises_snoc 1 (t.map (·.1)) k (by simpa using hlt)
            have hN := rises_no 1 (t.map (·.1)) k (by simpa using hlt)
            simp only [List.getElem_map] at hS hN
            rw [Hri.out, Bool.true_and] at hS
            have HS := Lib.hid hS
            have HN := Lib.hid hN
            clear hS hN
            have e2 : ((k + 1 : Nat) : Int) = (k : Int) + 1 := by omega
            rw [e2]
            clear e2
            have hk1 : (k : Int) + 1 < t.length := by omega
            have hk0 : (k : Int) < t.length := by omega
            have q2 : (0 : Int) ≤ (k : Int) + 1 := by omega
            by_cases hle : t[k + 1].1 ≤ t[k].1
            · go_wp2_with fail
              have q1 : IntKind.i64.wrap ((k : Int) + 1 - 1) = (k : Int) := by rw [Int.add_sub_cancel]; exact IntWalk.i64_in _ (by omega)
              have q3 : ((k : Int) + 1).toNat = k + 1 := by omega
              go_quiet (fail)
              clear q1 q2 q3
              go_wp2_with fail
              go_ret
              exact ⟨ret_int (by rw [HF.out, HN.out (by omega)]; rfl), below_drewN hbw _⟩
            · go_wp2_with fail
              have q1 : IntKind.i64.wrap ((k : Int) + 1 - 1) = (k : Int) := by rw [Int.add_sub_cancel]; exact IntWalk.i64_in _ (by omega)
              have q3 : ((k : Int) + 1).toNat = k + 1 := by omega
              go_quiet (fail)
              clear q1 q2 q3
              go_wp2_with fail
              go_roundw
              case rel => exact ⟨k + 1, by omega, by go_num, by rw [HS.out]; simp; omega, below_drewN hbw _⟩
              case measure => simp [intOf]; omega
          · have hfin : risesB 1 (t.map (·.1)) = true := by
              have := Hri.out
              rwa [List.take_of_length_le (by simp; omega)] at this
            have Hfin := Lib.hid hfin
            clear hfin
            have e2 : ((k + 1 : Nat) : Int) = (k : Int) + 1 := by omega
            rw [e2]
            clear e2
            have hge : ¬ (k : Int) + 1 < t.length := by omega
            go_wp2_with fail
            go_ret
            exact ⟨ret_int (by rw [HF.out, Hfin.out]; rfl), hbw⟩
  · have hL' := inB_no.1 (by simpa using hL)
    have hF : ckTariff t = 3 := by unfold ckTariff; rw [if_pos (by omega)]
    have HF := Lib.hid hF
    clear hF hL'
    go_enter Tryz.func49, Tryz.ntmps49
    go_wp2_with fail
    refine (off_any _ _ _ _).mono ?_
    rintro e w1 ⟨rfl, rfl⟩
    go_wp2_with fail
    go_ret
    exact ⟨ret_int HF.out.symm, Below.refl _ _⟩
end Go.Proofs.YtfojjecnmfkcfaaGreat
namespace Go.Proofs.YtfojjecnmfkcfaaGreat
open Go.RowKit
theorem rises_next (b : Int) : ∀ (l : List Int), risesB b l = true → ∀ (k : Nat) (h : k + 1 < l.length), l[k] + b ≤ l[k + 1]
  | [], _, k, h => by simp at h
  | [_], _, k, h => by simp at h
  | x :: y :: l, hr, 0, h => by simp [risesB] at hr; exact hr.1
  | x :: y :: l, hr, k + 1, h => by
    simp [risesB] at hr
    have := rises_next b (y :: l) hr.2 k (by simpa using h)
    simpa using this
theorem rises_mono (b : Int) (hb : 0 ≤ b) (l : List Int) (hr : risesB b l = true) : ∀ (j i : Nat) (hj : j < l.length) (hi : i ≤ j), l[i] ≤ l[j] := by
  intro j
  induction j with
  | zero => intro i hj hi; obtain rfl : i = 0 := by omega
            exact Int.le_refl _
  | succ j ih =>
    intro i hj hi
    by_cases e : i = j + 1
    · subst e; exact Int.le_refl _
    · have h1 := ih i (by omega) (by omega)
      have h2 := rises_next b l hr j hj
      omega
def rawR (t : List (Int × Int)) : Nat → Int
  | 0 => 0
  | k + 1 => rawR t k + rateF t (k + 1 : Nat)
theorem costK_from (t : List (Int × Int)) (p : Int) : ∀ k, k ≤ t.length → (costK t p k).2 = if h : 0 < k ∧ k - 1 < t.length then (t[k - 1]'h.2).1 else 0 := by
  intro k hk
  cases k with
  | zero => simp [costK]
  | succ k => simp only [costK]; rw [dif_pos ⟨by omega, by omega⟩]; simp [List.getD_eq_getElem?_getD, List.getElem?_eq_getElem (show k < t.length by omega)]
theorem costK_step (t : List (Int × Int)) (hs : stepsOk t) (hr : risesB 1 (t.map (·.1)) = true) (p : Int) (h0 : 0 ≤ p) : ∀ k, k ≤ t.length → (k < t.length ∨ 0 < k) →
    (costK t (p + 1) k).1 - (costK t p k).1 = if k = t.length ∨ ∃ j, ∃ h : j < t.length, j < k ∧ p + 1 ≤ t[j].1 then rateF t (p + 1) else 0 := by
  intro k
  induction k with
  | zero => intro _ h; rw [if_neg (by rintro (e | ⟨j, h1, h2, h3⟩) <;> omega)]; simp [costK]
  | succ k ih =>
    intro hk _
    have hk' : k < t.length := by omega
    have IH := ih (by omega) (.inl hk')
    have hf := costK_from t p k (by omega)
    have hf2 := costK_snd t (p + 1) p k
    obtain ⟨u1, u2, u3, u4⟩ := hs t[k] (List.getElem_mem _)
    have hg : t.getD k (0, 0) = t[k] := by simp [List.getD_eq_getElem?_getD, List.getElem?_eq_getElem hk']
    simp only [costK, hg, hf2]
    have hmono : ∀ (i j : Nat) (hj : j < t.length) (hi : i ≤ j), (t[i]'(by omega)).1 ≤ t[j].1 := by
      intro i j hj hi
      have := rises_mono 1 (by omega) _ hr j i (by simpa using hj) hi
      simpa using this
    by_cases hex : ∃ j, ∃ h : j < t.length, j < k ∧ p + 1 ≤ t[j].1
    · obtain ⟨j, hj, hjk, hp⟩ := hex
      rw [if_pos (.inr ⟨j, hj, hjk, hp⟩)] at IH
      refine Eq.trans ?_ (if_pos (Or.inr ⟨j, hj, by omega, hp⟩)).symm
      have hfr : p + 1 ≤ (costK t p k).2 := by
        rw [hf, dif_pos ⟨by omega, by omega⟩]
        have := hmono j (k - 1) (by omega) (by omega)
        omega
      have z1 : max 0 ((if k + 1 = t.length then p + 1 else min (p + 1) t[k].1) - (costK t p k).2) = 0 := by split <;> omega
      have z2 : max 0 ((if k + 1 = t.length then p else min p t[k].1) - (costK t p k).2) = 0 := by split <;> omega
      rw [z1, z2]
      simp only [Int.zero_mul]
      omega
    · rw [if_neg (by rintro (e | h); · omega
                     · exact hex h)] at IH
      have hno : ∀ (j : Nat) (hj : j < k), ¬ p + 1 ≤ (t[j]'(by omega)).1 := fun j hj hp => hex ⟨j, by omega, hj, hp⟩
      have hfr : (costK t p k).2 ≤ p := by
        rw [hf]
        split
        · rename_i h
          have := hno (k - 1) (by omega)
          omega
        · exact h0
      by_cases hhit : p + 1 ≤ t[k].1
      · refine Eq.trans ?_ (if_pos (Or.inr ⟨k, hk', by omega, hhit⟩)).symm
        rw [rateF_hit (p + 1) t k hk' hno hhit]
        have z1 : (if k + 1 = t.length then p + 1 else min (p + 1) t[k].1) = p + 1 := by split <;> omega
        have z2 : (if k + 1 = t.length then p else min p t[k].1) = p := by split <;> omega
        rw [z1, z2, show max 0 (p + 1 - (costK t p k).2) = max 0 (p - (costK t p k).2) + 1 from by omega, Int.add_mul, Int.one_mul]
        omega
      · by_cases hla : k + 1 = t.length
        · refine Eq.trans ?_ (if_pos (Or.inl hla)).symm
          rw [rateF_last (p + 1) t (by omega) (fun j hj => by
            by_cases e : j = k
            · subst e; exact hhit
            · exact hno j (by omega))]
          have e : t[t.length - 1]'(by omega) = t[k] := by congr 1; omega
          rw [e, if_pos hla, if_pos hla, show max 0 (p + 1 - (costK t p k).2) = max 0 (p - (costK t p k).2) + 1 from by omega, Int.add_mul, Int.one_mul]
          omega
        · have hQ : ¬ (k + 1 = t.length ∨ ∃ j, ∃ h : j < t.length, j < k + 1 ∧ p + 1 ≤ t[j].1) := by
            rintro (e | ⟨j, hj, h1, h2⟩)
            · exact hla e
            · by_cases e : j = k
              · subst e; exact hhit h2
              · exact hno j (by omega) h2
          refine Eq.trans ?_ (if_neg hQ).symm
          rw [if_neg hla, if_neg hla, show min (p + 1) t[k].1 = min p t[k].1 from by omega]
          omega
theorem costK_zero (t : List (Int × Int)) (hs : stepsOk t) : ∀ k, k ≤ t.length → (costK t 0 k).1 = 0 := by
  intro k
  induction k with
  | zero => intro _; rfl
  | succ k ih =>
    intro hk
    have h := ih (by omega)
    have hb := costK_bd t 0 hs (by omega) (by omega) k (by omega)
    obtain ⟨u1, u2, u3, u4⟩ := hs t[k] (List.getElem_mem (by omega))
    have hg : t.getD k (0, 0) = t[k] := by simp [List.getD_eq_getElem?_getD, List.getElem?_eq_getElem (show k < t.length by omega)]
    simp only [costK, hg]
    have z : max 0 ((if k + 1 = t.length then 0 else min 0 t[k].1) - (costK t 0 k).2) = 0 := by split <;> omega
    rw [z, h]
    simp
theorem costK_raw (t : List (Int × Int)) (hs : stepsOk t) (hr : risesB 1 (t.map (·.1)) = true) (hl : 0 < t.length) : ∀ n : Nat, (costK t n t.length).1 = rawR t n := by
  intro n
  induction n with
  | zero => exact costK_zero t hs _ (Nat.le_refl _)
  | succ n ih =>
    have := costK_step t hs hr n (by omega) t.length (Nat.le_refl _) (.inr hl)
    rw [if_pos (.inl rfl)] at this
    simp only [rawR]
    have e : ((n + 1 : Nat) : Int) = (n : Int) + 1 := by omega
    rw [e]
    omega
theorem upF100_eq (n : Int) (_h : 0 ≤ n) : upF100 n = (n + 99) / 100 := by unfold upF100; split <;> omega
theorem costF_raw (t : List (Int × Int)) (hs : stepsOk t) (hr : risesB 1 (t.map (·.1)) = true) (hl : 0 < t.length) (n : Nat) (hn : n ≤ 20000) : costF t n = upF100 (rawR t n) := by
  have hb := costK_bd t n hs (by omega) (by omega) t.length (Nat.le_refl _)
  rw [← costK_raw t hs hr hl n, upF100_eq _ hb.1]; rfl
theorem rawR_bd (t : List (Int × Int)) (hs : stepsOk t) (hr : risesB 1 (t.map (·.1)) = true) (hl : 0 < t.length) (h4 : t.length ≤ 4) (n : Nat) (hn : n ≤ 20000) : 0 ≤ rawR t n ∧ rawR t n ≤ 40000000 := by
  have hb := costK_bd t n hs (by omega) (by omega) t.length (Nat.le_refl _)
  rw [costK_raw t hs hr hl n] at hb
  omega
end Go.Proofs.YtfojjecnmfkcfaaGreat
namespace Go.Proofs.YtfojjecnmfkcfaaGreat
open Go.RowKit
set_option linter.unusedVariables false
set_option maxHeartbeats 400000 in
theorem refCost_any (A : Option Addr) (c : Nat) (t : List (Int × Int)) (p : Int) (w : World) (hr : Rd w w.heap.size A (pairs t)) (hl : t.length ≤ 1000) :
    Calls Tryz.prog 51 #[.slice A t.length c, .int .i64 p] w fun e w' => e = .returned (.tuple #[.int .i64 (costRes t p), .int .i64 (costCode t p)]) ∧ Below w.heap.size w w' := by
  have H1 := Lib.hid (refCheckTariff_any A c t w hr hl)
  by_cases h0 : ckTariff t = 0
  · obtain ⟨o1, o2, o3, o4⟩ := ckTariff_ok h0
    rw [h0] at H1
    by_cases hp : inB p 0 20000 = true
    · have hp' := inB_iff.1 hp
      have hF : costCode t p = 0 := by unfold costCode; rw [if_pos h0, if_pos hp']
      have hG : costRes t p = upF100 (rawR t p.toNat) := by
        unfold costRes
        rw [if_pos hF, ← costF_raw t o3 o4 (by omega) _ (by omega), Int.toNat_of_nonneg hp'.1]
      have HF := Lib.hid hF
      have HG := Lib.hid hG
      clear hF hG
      have HB := fun n (hn : n ≤ 20000) => Lib.hid (rawR_bd t o3 o4 (by omega) (by omega) n hn)
      have hpa := hp'.1
      have hpb := hp'.2
      clear h0 o4 hp'
      obtain ⟨pn, rfl⟩ := Int.eq_ofNat_of_zero_le hpa
      have hpn : pn ≤ 20000 := by omega
      rw [Int.toNat_natCast] at HG
      clear hpa hpb
      go_enter Tryz.func51, Tryz.ntmps51
      go_wp2_with fail
      refine H1.out.mono ?_
      rintro e w1 ⟨rfl, hb1⟩
      go_wp2_with fail
      refine (off_any _ _ _ _).mono ?_
      rintro e w2 ⟨rfl, rfl⟩
      go_wp2_with fail
      go_loop [7, 8] (fun o i => ∃ k : Nat, k ≤ pn ∧ i = .int .i64 (k + 1 : Nat) ∧ o = .int .i64 (rawR t k)) (fun _ i => pn + 1 - (intOf i).toNat)
      case atStart => exact ⟨0, by omega, rfl, rfl⟩
      case round =>
        obtain ⟨k, hk, rfl, rfl⟩ := hrel
        obtain ⟨g1, g2⟩ := (HB k (by omega)).out
        have e2 : ((k + 1 : Nat) : Int) = (k : Int) + 1 := by omega
        rw [e2]
        by_cases hlt : k < pn
        · have h3 := (HB (k + 1) (by omega)).out
          have h4 : rawR t (k + 1) = rawR t k + rateF t ((k : Int) + 1) := by rw [← e2]; rfl
          rw [h4] at h3
          obtain ⟨g3, g4⟩ := h3
          have H4 := Lib.hid h4
          clear e2 h4
          have hle : (k : Int) + 1 ≤ pn := by omega
          go_wp2_with fail
          refine (rate_any A c t _ _ (hr.next hb1) hl (by omega)).mono ?_
          rintro e w2 ⟨rfl, rfl⟩
          go_wp2_with fail
          go_round
          case rel => exact ⟨k + 1, by omega, by go_num, by rw [H4.out]⟩
          case measure => simp [intOf]; omega
        · clear e2
          have hkp : k = pn := by omega
          have Hkp := Lib.hid hkp
          clear hkp
          have hle : ¬ (k : Int) + 1 ≤ pn := by omega
          go_wp2_with fail
          refine (up_any _ _ (by omega) (by omega)).mono ?_
          rintro e w2 ⟨rfl, rfl⟩
          go_wp2_with fail
          go_ret2
          exact ⟨by rw [HG.out, HF.out, Hkp.out]; rfl, hb1⟩
    · have hp' : ¬(0 ≤ p ∧ p ≤ 20000) := fun h => hp (inB_iff.2 h)
      have hF : costCode t p = 4 := by unfold costCode; rw [if_pos h0, if_neg hp']
      have HF := Lib.hid hF
      clear hF
      clear h0 o4 hp'
      go_enter Tryz.func51, Tryz.ntmps51
      go_wp2_with fail
      refine H1.out.mono ?_
      rintro e w1 ⟨rfl, hb1⟩
      go_wp2_with fail
      refine (off_any _ _ _ _).mono ?_
      rintro e w2 ⟨rfl, rfl⟩
      go_wp2_with fail
      go_ret2
      exact ⟨by rw [costRes, HF.out]; rfl, hb1⟩
  · have hF : costCode t p = ckTariff t := by unfold costCode; rw [if_neg h0]
    have HF := Lib.hid hF
    clear hF
    have h0' : (ckTariff t == 0) = false := by simpa using h0
    have h0'' : (ckTariff t != 0) = true := by simpa using h0
    have H0 := Lib.hid h0
    clear h0
    go_enter Tryz.func51, Tryz.ntmps51
    go_wp2_with fail
    refine H1.out.mono ?_
    rintro e w1 ⟨rfl, hb1⟩
    go_wp2_with fail
    go_ret2
    exact ⟨by rw [costRes, HF.out, if_neg H0.out]; rfl, hb1⟩
/-- What the reference finds: the last pound before the first one that is too dear. -/
theorem poundsF_first {t : List (Int × Int)} (hs : stepsOk t) (hr : risesB 1 (t.map (·.1)) = true) (hl : 0 < t.length) (p : Int) (k : Nat) (hk : k + 1 ≤ 20000) (h1 : ∀ j, 1 ≤ j → j ≤ k → upF100 (rawR t j) ≤ p) (h2 : p < upF100 (rawR t (k + 1))) : poundsF t p = k := by
  refine (poundsF_of hs ⟨by omega, by omega, ?_, ?_⟩).symm
  · by_cases e : k = 0
    · exact .inl (by omega)
    · refine .inr ?_
      rw [decide_eq_true_eq, costF_raw t hs hr hl k (by omega)]
      exact h1 k (by omega) (Nat.le_refl _)
  · refine .inr ?_
    rw [decide_eq_false_iff_not]
    have e : (k : Int) + 1 = ((k + 1 : Nat) : Int) := by omega
    rw [e, costF_raw t hs hr hl (k + 1) hk]
    omega
theorem poundsF_all {t : List (Int × Int)} (hs : stepsOk t) (hr : risesB 1 (t.map (·.1)) = true) (hl : 0 < t.length) (p : Int) (h1 : ∀ j, 1 ≤ j → j ≤ 20000 → upF100 (rawR t j) ≤ p) : poundsF t p = 20000 := by
  refine (poundsF_of hs ⟨by omega, by omega, .inr ?_, .inl (by omega)⟩).symm
  rw [decide_eq_true_eq, show (20000 : Int) = ((20000 : Nat) : Int) from rfl, costF_raw t hs hr hl 20000 (by omega)]
  exact h1 20000 (by omega) (Nat.le_refl _)
set_option maxHeartbeats 400000 in
set_option maxRecDepth 100000 in
theorem refPounds_any (A : Option Addr) (c : Nat) (t : List (Int × Int)) (p : Int) (w : World) (hr : Rd w w.heap.size A (pairs t)) (hl : t.length ≤ 1000) :
    Calls Tryz.prog 53 #[.slice A t.length c, .int .i64 p] w fun e w' => e = .returned (.tuple #[.int .i64 (poundsRes t p), .int .i64 (poundsCode t p)]) ∧ Below w.heap.size w w' := by
  have H1 := Lib.hid (refCheckTariff_any A c t w hr hl)
  by_cases h0 : ckTariff t = 0
  · obtain ⟨o1, o2, o3, o4⟩ := ckTariff_ok h0
    rw [h0] at H1
    by_cases hp : p < 0
    · have hF : poundsCode t p = 4 := by unfold poundsCode; rw [if_pos h0, if_pos hp]
      have HF := Lib.hid hF
      clear hF h0 o4
      go_enter Tryz.func53, Tryz.ntmps53
      go_wp2_with fail
      refine H1.out.mono ?_
      rintro e w1 ⟨rfl, hb1⟩
      go_wp2_with fail
      go_ret2
      exact ⟨by rw [poundsRes, HF.out]; rfl, hb1⟩
    · have hF : poundsCode t p = 0 := by unfold poundsCode; rw [if_pos h0, if_neg hp]
      have hG : poundsRes t p = poundsF t p := by unfold poundsRes; rw [if_pos hF]
      have HF := Lib.hid hF
      have HG := Lib.hid hG
      have HB := fun n (hn : n ≤ 20000) => Lib.hid (rawR_bd t o3 o4 (by omega) (by omega) n hn)
      have HP := fun k hk h1 h2 => Lib.hid (poundsF_first o3 o4 (by omega) p k hk h1 h2)
      have HA := fun h1 => Lib.hid (poundsF_all o3 o4 (by omega) p h1)
      clear hF hG h0 o4
      go_enter Tryz.func53, Tryz.ntmps53
      go_wp2_with fail
      refine H1.out.mono ?_
      rintro e w1 ⟨rfl, hb1⟩
      go_wp2_with fail
      go_loop [7, 8] (fun o i => ∃ k : Nat, k ≤ 20000 ∧ i = .int .i64 (k + 1 : Nat) ∧ o = .int .i64 (rawR t k) ∧ ∀ j, 1 ≤ j → j ≤ k → upF100 (rawR t j) ≤ p) (fun _ i => 20001 - (intOf i).toNat)
      case atStart => exact ⟨0, by omega, rfl, rfl, fun j a b => by omega⟩
      case round =>
        obtain ⟨k, hk, rfl, rfl, hall⟩ := hrel
        have Hall := Lib.hid hall
        clear hall
        obtain ⟨g1, g2⟩ := (HB k (by omega)).out
        have e2 : ((k + 1 : Nat) : Int) = (k : Int) + 1 := by omega
        rw [e2]
        by_cases hlt : k < 20000
        · have h3 := (HB (k + 1) (by omega)).out
          have h4 : rawR t (k + 1) = rawR t k + rateF t ((k : Int) + 1) := by rw [← e2]; rfl
          rw [h4] at h3
          obtain ⟨g3, g4⟩ := h3
          have hle : (k : Int) + 1 ≤ 20000 := by omega
          by_cases hup : upF100 (rawR t (k + 1)) ≤ p
          · have Hup := Lib.hid hup
            rw [h4] at hup
            have H4 := Lib.hid h4
            clear e2 h4
            go_wp2_with fail
            refine (rate_any A c t _ _ (hr.next hb1) hl (by omega)).mono ?_
            rintro e w2 ⟨rfl, rfl⟩
            go_wp2_with fail
            refine (up_any _ _ (by omega) (by omega)).mono ?_
            rintro e w2 ⟨rfl, rfl⟩
            go_wp2_with fail
            go_round
            case rel =>
              refine ⟨k + 1, by omega, by go_num, by rw [H4.out], fun j a b => ?_⟩
              by_cases e : j = k + 1
              · subst e; exact Hup.out
              · exact Hall.out j a (by omega)
            case measure => simp [intOf]; omega
          · have hup : p < upF100 (rawR t (k + 1)) := by omega
            have HF2 := HP k (by omega) Hall.out hup
            rw [h4] at hup
            clear e2 h4
            go_wp2_with fail
            refine (rate_any A c t _ _ (hr.next hb1) hl (by omega)).mono ?_
            rintro e w2 ⟨rfl, rfl⟩
            go_wp2_with fail
            refine (up_any _ _ (by omega) (by omega)).mono ?_
            rintro e w2 ⟨rfl, rfl⟩
            go_wp2_with fail
            go_ret2
            exact ⟨by rw [HG.out, HF.out, HF2.out]; rfl, hb1⟩
        · have hkp : k = 20000 := by omega
          subst hkp
          have HF2 := HA Hall.out
          clear e2
          go_wp2_with fail
          go_ret2
          exact ⟨by rw [HG.out, HF.out, HF2.out]; rfl, hb1⟩
  · have hF : poundsCode t p = ckTariff t := by unfold poundsCode; rw [if_neg h0]
    have HF := Lib.hid hF
    clear hF
    have h0' : (ckTariff t == 0) = false := by simpa using h0
    have h0'' : (ckTariff t != 0) = true := by simpa using h0
    have H0 := Lib.hid h0
    clear h0
    go_enter Tryz.func53, Tryz.ntmps53
    go_wp2_with fail
    refine H1.out.mono ?_
    rintro e w1 ⟨rfl, hb1⟩
    go_wp2_with fail
    go_ret2
    exact ⟨by rw [poundsRes, HF.out, if_neg H0.out]; rfl, hb1⟩
end Go.Proofs.YtfojjecnmfkcfaaGreat
namespace Go.Proofs.YtfojjecnmfkcfaaGreat
open Go.RowKit
set_option linter.unusedVariables false
theorem infoStep : (Tryz.prog.info? 35).map (fun i => (i.zero, i.size, i.bytes)) = some (some (.agg #[.int .i64 0, .int .i64 0]), 2, 16) := by kernel_rfl
set_option maxHeartbeats 400000 in
theorem copyStep_any (A : Option Addr) (c : Nat) (t : List (Int × Int)) (w : World) (hr : Rd w w.heap.size A (pairs t)) (hl : t.length ≤ 100000) :
    Calls Tryz.prog 47 #[.slice A t.length c] w (RetOwn 35 2 t.length (pairs t) w) := by
  by_cases h0 : t.length = 0
  · have ht : t = [] := List.eq_nil_of_length_eq_zero h0
    subst ht
    go_enter Tryz.func47, Tryz.ntmps47
    go_wp2_with fail
    go_ret
    exact ⟨_, rfl, World.ownsRow_nil _ _ _ _, Below.refl _ _⟩
  · obtain ⟨b, off, rfl, hbb⟩ := hr.addr (k := 0) (by rw [pairs_length]; omega)
    have hz : ((t.length : Int) == 0) = false := by rw [beq_eq_false_iff_ne]; omega
    have hne : Hid (0 < t.length) := by show 0 < t.length; omega
    clear h0
    obtain ⟨i0, hi, hz0, hz1, hz2⟩ := info_parts infoStep
    have HN := Lib.hid (hr.alloc (.cells #[] 35)).news
    have HO := Lib.hid (World.ownsRow_made (base := w.heap.size) (e := 35) (size := 2) w #[] 0 (Nat.le_refl _) (by simp [maxLen]) (by simp))
    go_enter Tryz.func47, Tryz.ntmps47
    go_wp2_with (at_builtin; refine wpList_append_own_at _ rfl _ _ 23 rfl w.heap.size 35 i0 _ 2 16 Tryz.underlying23 hi hz0 hz1 hz2 rfl (by decide) _ _ _ rfl HO.out _ t.length c (pairs t) rfl (by rw [pairs_length]) HN.out (pairs_one t) (by simp only [maxLen]; omega) (by omega) (by simp) ?_; intro v1 w1 hown1 hgrow1 _ hat1)
    go_ret
    exact ⟨v1, rfl, by simpa using hown1, (below_new w _).grown hgrow1 (by simp) (fun k hk => by have hk' : some w.heap.size = some k := hk; injection hk' with hk'; omega)⟩
theorem infoEntry : (Tryz.prog.info? 39).map (fun i => (i.zero, i.size, i.bytes)) = some (some (.agg #[.int .i64 0, .int .i64 0]), 2, 16) := by kernel_rfl
set_option maxHeartbeats 400000 in
theorem copyEntry_any (A : Option Addr) (c : Nat) (t : List (Int × Int)) (w : World) (hr : Rd w w.heap.size A (pairs t)) (hl : t.length ≤ 100000) :
    Calls Tryz.prog 92 #[.slice A t.length c] w (RetOwn 39 2 t.length (pairs t) w) := by
  by_cases h0 : t.length = 0
  · have ht : t = [] := List.eq_nil_of_length_eq_zero h0
    subst ht
    go_enter Tryz.func92, Tryz.ntmps92
    go_wp2_with fail
    go_ret
    exact ⟨_, rfl, World.ownsRow_nil _ _ _ _, Below.refl _ _⟩
  · obtain ⟨b, off, rfl, hbb⟩ := hr.addr (k := 0) (by rw [pairs_length]; omega)
    have hz : ((t.length : Int) == 0) = false := by rw [beq_eq_false_iff_ne]; omega
    have hne : Hid (0 < t.length) := by show 0 < t.length; omega
    clear h0
    obtain ⟨i0, hi, hz0, hz1, hz2⟩ := info_parts infoEntry
    have HN := Lib.hid (hr.alloc (.cells #[] 39)).news
    have HO := Lib.hid (World.ownsRow_made (base := w.heap.size) (e := 39) (size := 2) w #[] 0 (Nat.le_refl _) (by simp [maxLen]) (by simp))
    go_enter Tryz.func92, Tryz.ntmps92
    go_wp2_with (at_builtin; refine wpList_append_own_at _ rfl _ _ 29 rfl w.heap.size 39 i0 _ 2 16 Tryz.underlying29 hi hz0 hz1 hz2 rfl (by decide) _ _ _ rfl HO.out _ t.length c (pairs t) rfl (by rw [pairs_length]) HN.out (pairs_one t) (by simp only [maxLen]; omega) (by omega) (by simp) ?_; intro v1 w1 hown1 hgrow1 _ hat1)
    go_ret
    exact ⟨v1, rfl, by simpa using hown1, (below_new w _).grown hgrow1 (by simp) (fun k hk => by have hk' : some w.heap.size = some k := hk; injection hk' with hk'; omega)⟩
theorem infoHouse : (Tryz.prog.info? 37).map (fun i => (i.zero, i.size, i.bytes)) = some (some (.agg #[.int .i64 0, .int .i64 0, .int .i64 0]), 3, 24) := by kernel_rfl
set_option maxHeartbeats 400000 in
theorem copyHouse_any (A : Option Addr) (c : Nat) (t : List (Int × Int × Int)) (w : World) (hr : Rd w w.heap.size A (trips t)) (hl : t.length ≤ 100000) :
    Calls Tryz.prog 74 #[.slice A t.length c] w (RetOwn 37 3 t.length (trips t) w) := by
  by_cases h0 : t.length = 0
  · have ht : t = [] := List.eq_nil_of_length_eq_zero h0
    subst ht
    go_enter Tryz.func74, Tryz.ntmps74
    go_wp2_with fail
    go_ret
    exact ⟨_, rfl, World.ownsRow_nil _ _ _ _, Below.refl _ _⟩
  · obtain ⟨b, off, rfl, hbb⟩ := hr.addr (k := 0) (by rw [trips_length]; omega)
    have hz : ((t.length : Int) == 0) = false := by rw [beq_eq_false_iff_ne]; omega
    have hne : Hid (0 < t.length) := by show 0 < t.length; omega
    clear h0
    obtain ⟨i0, hi, hz0, hz1, hz2⟩ := info_parts infoHouse
    have HN := Lib.hid (hr.alloc (.cells #[] 37)).news
    have HO := Lib.hid (World.ownsRow_made (base := w.heap.size) (e := 37) (size := 3) w #[] 0 (Nat.le_refl _) (by simp [maxLen]) (by simp))
    go_enter Tryz.func74, Tryz.ntmps74
    go_wp2_with (at_builtin; refine wpList_append_own_at _ rfl _ _ 25 rfl w.heap.size 37 i0 _ 3 24 Tryz.underlying25 hi hz0 hz1 hz2 rfl (by decide) _ _ _ rfl HO.out _ t.length c (trips t) rfl (by rw [trips_length]) HN.out (trips_one t) (by simp only [maxLen]; omega) (by omega) (by simp) ?_; intro v1 w1 hown1 hgrow1 _ hat1)
    go_ret
    exact ⟨v1, rfl, by simpa using hown1, (below_new w _).grown hgrow1 (by simp) (fun k hk => by have hk' : some w.heap.size = some k := hk; injection hk' with hk'; omega)⟩
theorem infoInt : (Tryz.prog.info? 3).map (fun i => (i.zero, i.size, i.bytes)) = some (some (.int .i64 0), 1, 8) := by kernel_rfl
set_option maxHeartbeats 400000 in
theorem copyInt_any (A : Option Addr) (c : Nat) (t : List (Int)) (w : World) (hr : Rd w w.heap.size A (ints t)) (hl : t.length ≤ 100000) :
    Calls Tryz.prog 28 #[.slice A t.length c] w (RetOwn 3 1 t.length (ints t) w) := by
  by_cases h0 : t.length = 0
  · have ht : t = [] := List.eq_nil_of_length_eq_zero h0
    subst ht
    go_enter Tryz.func28, Tryz.ntmps28
    go_wp2_with fail
    go_ret
    exact ⟨_, rfl, World.ownsRow_nil _ _ _ _, Below.refl _ _⟩
  · obtain ⟨b, off, rfl, hbb⟩ := hr.addr (k := 0) (by rw [ints_length]; omega)
    have hz : ((t.length : Int) == 0) = false := by rw [beq_eq_false_iff_ne]; omega
    have hne : Hid (0 < t.length) := by show 0 < t.length; omega
    clear h0
    obtain ⟨i0, hi, hz0, hz1, hz2⟩ := info_parts infoInt
    have HN := Lib.hid (hr.alloc (.cells #[] 3)).news
    have HO := Lib.hid (World.ownsRow_made (base := w.heap.size) (e := 3) (size := 1) w #[] 0 (Nat.le_refl _) (by simp [maxLen]) (by simp))
    go_enter Tryz.func28, Tryz.ntmps28
    go_wp2_with (at_builtin; refine wpList_append_own_at _ rfl _ _ 22 rfl w.heap.size 3 i0 _ 1 8 Tryz.underlying22 hi hz0 hz1 hz2 rfl (by decide) _ _ _ rfl HO.out _ t.length c (ints t) rfl (by rw [ints_length]; omega) HN.out (ints_one t) (by simp only [maxLen]; omega) (by omega) (by simp) ?_; intro v1 w1 hown1 hgrow1 _ hat1)
    go_ret
    exact ⟨v1, rfl, by simpa using hown1, (below_new w _).grown hgrow1 (by simp) (fun k hk => by have hk' : some w.heap.size = some k := hk; injection hk' with hk'; omega)⟩
end Go.Proofs.YtfojjecnmfkcfaaGreat
namespace Go.Proofs.YtfojjecnmfkcfaaGreat
open Go.RowKit
set_option linter.unusedVariables false
theorem infoRStep : (Tryz.prog.info? 164).map (fun i => (i.zero, i.size, i.bytes)) = some (some (.agg #[.int .i64 0, .int .i64 0]), 2, 16) := by kernel_rfl
theorem pairs_snoc (t : List (Int × Int)) (k : Nat) (h : k < t.length) : pairs (t.take (k + 1)) = pairs (t.take k) ++ [.int .i64 t[k].1, .int .i64 t[k].2] := by
  rw [List.take_succ_eq_append_getElem h]; unfold pairs; rw [List.flatMap_append]; rfl
theorem news_new (w : World) (cs : List Value) (t : TypeId) {H : Nat} (hH : w.heap.size = H) : ∀ j u, cs[j]? = some u → (w.alloc (.cells cs.toArray t)).cell? ((⟨H, 0, none⟩ : Addr).add j) = some u :=
  (Rd.new w cs t hH).news
set_option maxHeartbeats 400000 in
theorem stepped_any (A : Option Addr) (c : Nat) (t : List (Int × Int)) (w : World) (hr : Rd w w.heap.size A (pairs t)) (hl : t.length ≤ 100000) :
    Calls Tryz.prog 48 #[.slice A t.length c] w (RetOwn 164 2 t.length (pairs t) w) := by
  obtain ⟨i0, hi, hz0, hz1, hz2⟩ := info_parts infoRStep
  go_enter Tryz.func48, Tryz.ntmps48
  go_wp2_with fail
  go_loopw [3, 5, 8] (fun v _ i wr => ∃ k : Nat, k ≤ t.length ∧ i = .int .i64 k ∧ wr.ownsRow w.heap.size 164 2 v k (pairs (t.take k)) ∧ Below w.heap.size w wr) (fun _ _ i _ => t.length - (intOf i).toNat)
  case atStart => exact ⟨0, Nat.zero_le _, rfl, World.ownsRow_nil _ _ _ _, Below.refl _ _⟩
  case round =>
    obtain ⟨k, hk, rfl, hown, hbw⟩ := hrel
    by_cases hlt : k < t.length
    · obtain ⟨b, off, rfl, hbb, hc1, hc2⟩ := (hr.below hbw).pair hlt
      have HO := Lib.hid hown
      clear hown
      have hbs := hbw.size
      have HP := Lib.hid (pairs_snoc t k hlt)
      go_wp2_with (at_builtin; refine wpList_append_own_at _ rfl _ _ 102 rfl w.heap.size 164 i0 _ 2 16 Tryz.underlying102 hi hz0 hz1 hz2 rfl (by decide) _ _ _ rfl ((HO.out.alloc _).alloc _) ⟨wr.heap.size + 1, 0, none⟩ 1 1 [.int .i64 t[k].1, .int .i64 t[k].2] rfl rfl (news_new _ _ _ (by simp)) (by simp [Value.oneCell']) (by simp only [maxLen]; omega) (by omega) (by simp; omega) ?_; intro v1 w1 hown1 hgrow1 _ hat1)
      go_roundw
      case rel =>
        refine ⟨k + 1, by omega, by go_num, by rw [HP.out]; exact hown1, ?_⟩
        exact ((hbw.alloc hbs _).alloc (by simp; omega) _).grown hgrow1 (by simp; omega) (fun q hq => (HO.out.lt q hq).1)
      case measure => simp [intOf]; omega
    · have HO := Lib.hid hown
      clear hown
      go_wp2_with fail
      go_ret
      have h := HO.out
      rw [List.take_of_length_le (by omega)] at h
      obtain rfl : k = t.length := by omega
      exact ⟨_, rfl, h, hbw⟩
end Go.Proofs.YtfojjecnmfkcfaaGreat
