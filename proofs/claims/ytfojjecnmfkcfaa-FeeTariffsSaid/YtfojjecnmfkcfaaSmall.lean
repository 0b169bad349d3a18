/- in, upto, and whether the steps of a tariff rise, at every slice of at most 1000 steps. -/
import Derived.Test.YtfojjecnmfkcfaaProg
import Derived.Test.YtfojjecnmfkcfaaBase
import Derived.Deep.RegionHeld3
namespace Go.Proofs.Ytfojjecnmfkcfaa
open Go.RowKit
def inB (n lo hi : Int) : Bool := decide (lo ≤ n) && decide (n ≤ hi)
theorem inB_iff {n lo hi : Int} : inB n lo hi = true ↔ lo ≤ n ∧ n ≤ hi := by simp [inB]
theorem inB_no {n lo hi : Int} : inB n lo hi = false ↔ n < lo ∨ hi < n := by simp [inB]; omega
theorem in_any (n lo hi : Int) (w : World) : Calls Try.prog 83 #[.int .i64 n, .int .i64 lo, .int .i64 hi] w fun e w' => e = .returned (.bool (inB n lo hi)) ∧ w = w' := by
  by_cases h1 : lo ≤ n
  all_goals
    by_cases h2 : n ≤ hi
    all_goals
      go_enter Try.func83, Try.ntmps83
      go_wp2
      go_ret
      exact ⟨ret_bool (by simp [inB, h1, h2]), rfl⟩
theorem off_any (n lo hi : Int) (w : World) : Calls Try.prog 88 #[.int .i64 n, .int .i64 lo, .int .i64 hi] w fun e w' => e = .returned (.bool (!inB n lo hi)) ∧ w = w' := by
  by_cases h1 : n < lo
  all_goals
    by_cases h2 : hi < n
    all_goals
      go_enter Try.func88, Try.ntmps88
      go_wp2
      go_ret
      exact ⟨ret_bool (by simp [inB, Int.not_le, h1, h2]; try omega), rfl⟩
def stepOk (u p : Int) : Bool := inB u 1 20000 && inB p 0 500
theorem stepOk_any (u p : Int) (w : World) : Calls Try.prog 85 #[.agg #[.int .i64 u, .int .i64 p]] w fun e w' => e = .returned (.bool (stepOk u p)) ∧ Below w.heap.size w w' := by
  go_enter Try.func85, Try.ntmps85
  go_wp2_with (go_at_call 83; refine (in_any _ _ _ _).mono ?_; rintro e w' ⟨rfl, rfl⟩)
  all_goals
    go_ret
    exact ⟨ret_bool (by simp [stepOk, *]), by go_grown⟩
def stepF : Value := .func (.func 85) #[] #[]
theorem everyStep1_any (u p : Int) (a : Addr) (w : World) (ha : w.cell? a = some stepF) (hb : a.block < w.heap.size) :
    Calls Try.prog 138 #[.agg #[.int .i64 u, .int .i64 p], .pointer (some a)] w fun e w' => e = .returned (.bool (!stepOk u p)) ∧ Below w.heap.size w w' := by
  unfold stepF at ha
  go_enter Try.func138, Try.ntmps138
  go_wp2_with fail
  refine (stepOk_any _ _ _).mono ?_
  rintro e w1 ⟨rfl, hb1⟩
  go_wp2_with fail
  go_ret
  exact ⟨rfl, ((Below.refl _ _).alloc (Nat.le_refl _) _).trans (hb1.mono (by simp))⟩
def stepG (a : Addr) : Value := .func (.func 138) #[] #[.pointer (some a)]
def notOk (s : Int × Int) : Bool := !stepOk s.1 s.2
set_option maxHeartbeats 400000 in
theorem indexStep_any (A : Option Addr) (c : Nat) (t : List (Int × Int)) (a : Addr) (w : World) (ha : w.cell? a = some stepF) (hb : a.block < w.heap.size) (hr : Rd w w.heap.size A (pairs t)) (hl : t.length ≤ 1000) :
    Calls Try.prog 152 #[.slice A t.length c, stepG a] w (Found (t.any notOk) w) := by
  unfold stepG
  go_enter Try.func152, Try.ntmps152
  go_wp2_with fail
  go_loopw [5, 8] (fun _ i wr => ∃ k : Nat, k ≤ t.length ∧ i = .int .i64 k ∧ (t.take k).any notOk = false ∧ Below w.heap.size w wr) (fun _ i _ => t.length - (intOf i).toNat)
  case atStart => exact ⟨0, Nat.zero_le _, rfl, by simp, Below.refl _ _⟩
  case round =>
    obtain ⟨k, hk, rfl, hno, hbw⟩ := hrel
    by_cases hlt : k < t.length
    · obtain ⟨b, off, rfl, hbb, hc1, hc2⟩ := (hr.below hbw).pair hlt
      go_wp2_with fail
      refine (everyStep1_any _ _ _ _ (by rw [hbw.cell hb]; exact ha) (Nat.lt_of_lt_of_le hb hbw.size)).mono ?_
      rintro e w1 ⟨rfl, hb1⟩
      have hbw1 := hbw.trans (hb1.mono hbw.size)
      have hs := any_take_succ notOk t k hlt
      by_cases hp : stepOk t[k].1 t[k].2 = true
      · have hs2 : Hid ((t.take (k + 1)).any notOk = false) := by rw [hs, hno]; simp [notOk, hp, Hid]
        clear hs
        go_wp2_with fail
        go_roundw
        case rel => exact ⟨k + 1, by omega, by go_num, hs2.out, hbw1⟩
        case measure => simp [intOf]; omega
      · have hs2 : Hid (t.any notOk = true) := by
          refine List.any_eq_true.2 ⟨t[k], List.getElem_mem _, ?_⟩
          simp [notOk, hp]
        clear hs
        go_wp2_with fail
        go_ret
        exact ⟨k, rfl, by rw [hs2.out]; simp, hbw1⟩
    · have hs2 : Hid (t.any notOk = false) := by rwa [List.take_of_length_le (by omega)] at hno
      clear hno
      go_wp2_with fail
      go_ret
      exact ⟨-1, rfl, by rw [hs2.out]; rfl, hbw⟩
theorem containsStep_any (A : Option Addr) (c : Nat) (t : List (Int × Int)) (a : Addr) (w : World) (ha : w.cell? a = some stepF) (hb : a.block < w.heap.size) (hr : Rd w w.heap.size A (pairs t)) (hl : t.length ≤ 1000) :
    Calls Try.prog 137 #[.slice A t.length c, stepG a] w fun e w' => e = .returned (.bool (t.any notOk)) ∧ Below w.heap.size w w' := by
  have H := Lib.hid (indexStep_any A c t a w ha hb hr hl)
  unfold stepG at H ⊢
  go_enter Try.func137, Try.ntmps137
  go_wp2_with fail
  refine H.out.mono ?_
  rintro e w1 ⟨i, rfl, hi, hb1⟩
  go_wp2_with fail
  go_ret
  exact ⟨rfl, hb1⟩
theorem everyStep_any (A : Option Addr) (c : Nat) (t : List (Int × Int)) (w : World) (hr : Rd w w.heap.size A (pairs t)) (hl : t.length ≤ 1000) :
    Calls Try.prog 84 #[.slice A t.length c, stepF] w fun e w' => e = .returned (.bool (!t.any notOk)) ∧ Below w.heap.size w w' := by
  have H := Lib.hid (containsStep_any A c t ⟨w.heap.size, 0, none⟩ (w.alloc (.cells #[stepF] 135)) (by simp) (by simp) (hr.alloc _) hl)
  unfold stepF at H ⊢
  unfold stepG at H
  go_enter Try.func84, Try.ntmps84
  go_wp2_with fail
  refine H.out.mono ?_
  rintro e w1 ⟨rfl, hb1⟩
  go_wp2_with fail
  go_ret
  exact ⟨rfl, ((Below.refl _ _).alloc (Nat.le_refl _) _).trans (hb1.mono (by simp))⟩
def upF : Value := .func (.func 87) #[] #[]
theorem stepUpto_any (u p : Int) (w : World) : Calls Try.prog 87 #[.agg #[.int .i64 u, .int .i64 p]] w fun e w' => e = .returned (.int .i64 u) ∧ Below w.heap.size w w' := by
  go_enter Try.func87, Try.ntmps87
  go_wp2_with fail
  go_ret
  exact ⟨rfl, by go_grown⟩
/-- Neighbours rise, each by at least so much. -/
def risesB (by_ : Int) : List Int → Bool
  | [] => true
  | [_] => true
  | a :: b :: l => decide (a + by_ ≤ b) && risesB by_ (b :: l)
theorem rises_snoc (b : Int) : ∀ (l : List Int) (k : Nat) (h : k + 1 < l.length), risesB b (l.take (k + 2)) = (risesB b (l.take (k + 1)) && decide (l[k] + b ≤ l[k + 1]))
  | [], k, h => by simp at h
  | [_], k, h => by simp at h
  | x :: y :: l, 0, h => by simp [risesB]
  | x :: y :: l, k + 1, h => by
    have := rises_snoc b (y :: l) k (by simpa using h)
    simp only [List.take_succ_cons, risesB, List.getElem_cons_succ] at this ⊢
    rw [this, Bool.and_assoc]
theorem rises_no (b : Int) (l : List Int) (k : Nat) (h : k + 1 < l.length) (hn : l[k + 1] < l[k] + b) : risesB b l = false := by
  have hm : ∀ m, k + 2 ≤ m → m ≤ l.length → risesB b (l.take m) = false := by
    intro m
    induction m with
    | zero => intro h0; omega
    | succ m ih =>
      intro h0 h1
      by_cases e : k + 2 = m + 1
      · rw [← e, rises_snoc b l k h, show decide (l[k] + b ≤ l[k + 1]) = false from by simpa using hn]; simp
      · obtain ⟨m, rfl⟩ : ∃ q, m = q + 1 := ⟨m - 1, by omega⟩
        rw [rises_snoc b l m (by omega), ih (by omega) (by omega)]; rfl
  have := hm l.length (by omega) (Nat.le_refl _)
  rwa [List.take_of_length_le (Nat.le_refl _)] at this
theorem rises_one (b : Int) (l : List Int) : risesB b (l.take 1) = true := by
  match l with
  | [] => rfl
  | [_] => rfl
  | _ :: _ :: _ => rfl
set_option maxHeartbeats 400000 in
theorem risingStep_any (A : Option Addr) (c : Nat) (t : List (Int × Int)) (by_ : Int) (w : World) (hr : Rd w w.heap.size A (pairs t)) (hl : t.length ≤ 1000) (hc : t.length ≤ c) (h2 : 2 ≤ t.length)
    (hu : ∀ s ∈ t, -1000000000000 ≤ s.1 ∧ s.1 ≤ 1000000000000) (hb0 : 0 ≤ by_) (hb1 : by_ ≤ 1000) :
    Calls Try.prog 86 #[.slice A t.length c, upF, .int .i64 by_] w fun e w' => e = .returned (.bool (risesB by_ (t.map (·.1)))) ∧ Below w.heap.size w w' := by
  unfold upF
  obtain ⟨b, off, rfl, hbb, _, _⟩ := hr.pair (k := 0) (by omega)
  have hc1 : ¬ c = 1 := by omega
  have hm : ¬ t.length < 1 := by omega
  go_enter Try.func86, Try.ntmps86
  go_wp2_with fail
  go_loopw [7, 14] (fun _ i wr => ∃ k : Nat, k + 1 ≤ t.length ∧ i = .int .i64 k ∧ risesB by_ ((t.map (·.1)).take (k + 1)) = true ∧ Below w.heap.size w wr) (fun _ i _ => t.length - (intOf i).toNat)
  case atStart => exact ⟨0, by omega, rfl, rises_one _ _, Below.refl _ _⟩
  case round =>
    obtain ⟨k, hk, rfl, hri, hbw⟩ := hrel
    have Hri := Lib.hid hri
    clear hri
    by_cases hlt : k + 1 < t.length
    · obtain ⟨hc1, hc2⟩ := (hr.below hbw).pair' (k := k) (by omega)
      obtain ⟨hc3, hc4⟩ := (hr.below hbw).pair' hlt
      have hbr : b < wr.heap.size := Nat.lt_of_lt_of_le hbb hbw.size
      have hk1 : (k : Int) + 1 < t.length := by omega
      have hk0 : (k : Int) < t.length := by omega
      obtain ⟨u1, u2⟩ := hu t[k] (List.getElem_mem _)
      have g0 : 0 ≤ by_ := hb0
      have hS := rises_snoc by_ (t.map (·.1)) k (by simpa using hlt)
      have hN := rises_no by_ (t.map (·.1)) k (by simpa using hlt)
      simp only [List.getElem_map] at hS hN
      rw [Hri.out, Bool.true_and] at hS
      have HS := Lib.hid hS
      have HN := Lib.hid hN
      clear hS hN
      go_wp2_with fail
      have q1 : IntKind.i64.wrap ((k : Int) + 1) = (k : Int) + 1 := IntWalk.i64_in _ (by omega)
      have q2 : (0 : Int) ≤ (k : Int) + 1 := by omega
      have q3 : ((k : Int) + 1).toNat = k + 1 := by omega
      have q4 : IntKind.i64.wrap (t[k].1 + by_) = t[k].1 + by_ := IntWalk.i64_in _ (by omega)
      go_region_held3 (fun w' => w'.cell? ⟨b, off + k * 2, none⟩ = some (.int .i64 t[k].1) ∧ w'.cell? ⟨b, off + k * 2 + 1, none⟩ = some (.int .i64 t[k].2) ∧ w'.cell? ⟨b, off + (k + 1) * 2, none⟩ = some (.int .i64 t[k + 1].1) ∧ w'.cell? ⟨b, off + (k + 1) * 2 + 1, none⟩ = some (.int .i64 t[k + 1].2) ∧ Below wr.heap.size wr w') (first | exact ⟨hc1, hc2, hc3, hc4, (Below.refl _ _).drew⟩ | exact keep4 hbr (by assumption) (by assumption))
        (first | (go_at_call 87; refine (stepUpto_any _ _ _).mono ?_; rintro e w' ⟨rfl, hb⟩))
      clear q1 q2 q3
      all_goals go_wp2_with fail
      · have hq : t[k + 1].1 < t[k].1 + by_ := by assumption
        clear q4
        go_ret
        exact ⟨ret_bool (HN.out hq).symm, hbw.trans (Below.mono (and5 (by assumption)) hbw.size)⟩
      · have hq : t[k].1 + by_ ≤ t[k + 1].1 := by assumption
        clear q4
        go_roundw
        case rel => exact ⟨k + 1, by omega, by go_num, by rw [HS.out]; simpa using hq, hbw.trans (Below.mono (and5 (by assumption)) hbw.size)⟩
        case measure => simp [intOf]; omega
    · have hfin : Hid (risesB by_ (t.map (·.1)) = true) := by
        have := Hri.out
        rwa [List.take_of_length_le (by simp; omega)] at this
      go_wp2_with fail
      go_ret
      exact ⟨ret_bool hfin.out.symm, hbw⟩
end Go.Proofs.Ytfojjecnmfkcfaa
