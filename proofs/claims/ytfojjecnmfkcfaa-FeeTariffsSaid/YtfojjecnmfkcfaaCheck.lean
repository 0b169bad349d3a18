/- Check and opened: the error of a bill, and a desk, at every bill of at most 1000 houses. -/
import Derived.Test.YtfojjecnmfkcfaaEvery
import Derived.Test.YtfojjecnmfkcfaaSum
namespace Go.Proofs.Ytfojjecnmfkcfaa
open Go.RowKit
set_option linter.unusedVariables false
def ckBill (p : Int) (hs : List (Int × Int × Int)) : Int :=
  if ¬ (inB p 0 500 = true) then 4 else if ¬ (inB hs.length 1 6 = true) then 3 else if hs.any houseOkP = true then 4 else 0
theorem ckBill_ok {p : Int} {hs : List (Int × Int × Int)} (h : ckBill p hs = 0) : 0 ≤ p ∧ p ≤ 500 ∧ 1 ≤ hs.length ∧ hs.length ≤ 6 ∧ ∀ x ∈ hs, 0 ≤ x.1 ∧ x.1 ≤ 1000 ∧ 0 ≤ x.2.1 ∧ x.2.1 ≤ x.2.2 ∧ x.2.2 ≤ 500 := by
  unfold ckBill at h
  split at h
  · omega
  · split at h
    · omega
    · split at h
      · omega
      · rename_i h1 h2 h3
        simp only [Decidable.not_not, inB_iff] at h1 h2
        refine ⟨h1.1, h1.2, by omega, by omega, fun x hx => ?_⟩
        have := List.any_eq_false.1 (by simpa using h3) x hx
        simp only [houseOkP, Bool.not_eq_true', houseOk, Bool.not_eq_false, Bool.and_eq_true, inB_iff, decide_eq_true_eq] at this
        omega
set_option maxHeartbeats 400000 in
theorem check_any (A : Option Addr) (c : Nat) (p : Int) (hs : List (Int × Int × Int)) (w : World) (hr : Rd w w.heap.size A (trips hs)) (hl : hs.length ≤ 1000) :
    Calls Try.prog 52 #[.agg #[.int .i64 p, .slice A hs.length c]] w fun e w' => e = .returned (.int .i64 (ckBill p hs)) ∧ Below w.heap.size w w' := by
  have HE := fun w1 (hb : Below w.heap.size w w1) => Lib.hid (everyHouse_any A c hs w1 (hr.next hb) hl)
  unfold F_House at HE
  by_cases h1 : inB p 0 500 = true
  · by_cases h2 : inB hs.length 1 6 = true
    · by_cases h3 : hs.any houseOkP = true
      · have hF : ckBill p hs = 4 := by unfold ckBill; rw [if_neg (by simpa using h1), if_neg (by simpa using h2), if_pos h3]
        have HF := Lib.hid hF
        clear hF
        go_enter Try.func52, Try.ntmps52
        go_wp2_with fail
        refine (in_any _ _ _ _).mono ?_
        rintro e w1 ⟨rfl, rfl⟩
        go_wp2_with fail
        refine (in_any _ _ _ _).mono ?_
        rintro e w1 ⟨rfl, rfl⟩
        go_wp2_with fail
        refine (HE _ (by go_grown)).out.mono ?_
        rintro e w1 ⟨rfl, hb1⟩
        have hbw : Below w.heap.size w w1 := Below.trans (by go_grown) (hb1.mono (by simp))
        go_wp2_with fail
        go_ret
        exact ⟨ret_int HF.out.symm, hbw⟩
      · have h3' : hs.any houseOkP = false := by simpa using h3
        have hF : ckBill p hs = 0 := by unfold ckBill; rw [if_neg (by simpa using h1), if_neg (by simpa using h2), if_neg h3]
        have HF := Lib.hid hF
        clear hF h3
        go_enter Try.func52, Try.ntmps52
        go_wp2_with fail
        refine (in_any _ _ _ _).mono ?_
        rintro e w1 ⟨rfl, rfl⟩
        go_wp2_with fail
        refine (in_any _ _ _ _).mono ?_
        rintro e w1 ⟨rfl, rfl⟩
        go_wp2_with fail
        refine (HE _ (by go_grown)).out.mono ?_
        rintro e w1 ⟨rfl, hb1⟩
        have hbw : Below w.heap.size w w1 := Below.trans (by go_grown) (hb1.mono (by simp))
        go_wp2_with fail
        go_ret
        exact ⟨ret_int HF.out.symm, hbw⟩
    · have hF : ckBill p hs = 3 := by unfold ckBill; rw [if_neg (by simpa using h1), if_pos h2]
      have HF := Lib.hid hF
      clear hF
      go_enter Try.func52, Try.ntmps52
      go_wp2_with fail
      refine (in_any _ _ _ _).mono ?_
      rintro e w1 ⟨rfl, rfl⟩
      go_wp2_with fail
      refine (in_any _ _ _ _).mono ?_
      rintro e w1 ⟨rfl, rfl⟩
      go_wp2_with fail
      go_ret
      exact ⟨ret_int HF.out.symm, by go_grown⟩
  · have hF : ckBill p hs = 4 := by unfold ckBill; rw [if_pos h1]
    have HF := Lib.hid hF
    clear hF
    go_enter Try.func52, Try.ntmps52
    go_wp2_with fail
    refine (in_any _ _ _ _).mono ?_
    rintro e w1 ⟨rfl, rfl⟩
    go_wp2_with fail
    go_ret
    exact ⟨ret_int HF.out.symm, by go_grown⟩
/-- A desk: a bill at work, in a block of its own. -/
structure Desk (w : World) (g : Nat) (p : Int) (A : Option Addr) (n c : Nat) (ps : List Int) : Prop where
  lt : g < w.heap.size
  pence : w.cell? ⟨g, 0, none⟩ = some (.int .i64 p)
  houses : w.cell? ⟨g, 1, none⟩ = some (.slice A n c)
  len : ps.length = 6
  pays : ∀ i u, ps[i]? = some u → w.cell? ⟨g, 2 + i, none⟩ = some (.int .i64 u)
  free : ∀ o, w.frozen? ⟨g, o, none⟩ = false
theorem Desk.below {w w' : World} {g : Nat} {p : Int} {A : Option Addr} {n c : Nat} {ps : List Int} (h : Desk w g p A n c ps) (hb : Below w.heap.size w w') : Desk w' g p A n c ps :=
  ⟨Nat.lt_of_lt_of_le h.lt hb.size, (hb.cell (p := ⟨g, 0, none⟩) h.lt).trans h.pence, (hb.cell (p := ⟨g, 1, none⟩) h.lt).trans h.houses, h.len, fun i u hu => (hb.cell (p := ⟨g, 2 + i, none⟩) h.lt).trans (h.pays i u hu), fun o => (hb.frozen (p := ⟨g, o, none⟩) h.lt).trans (h.free o)⟩
/-- The call opens a desk, or returns an error. -/
def Opened (p : Int) (A : Option Addr) (n c : Nat) (W : World) (code : Int) (e : Ending) (w' : World) : Prop :=
  (code = 0 ∧ ∃ g, e = .returned (.tuple #[.pointer (some ⟨g, 0, none⟩), .int .i64 0]) ∧ W.heap.size ≤ g ∧ Desk w' g p A n c [0, 0, 0, 0, 0, 0] ∧ Below W.heap.size W w') ∨
  (code ≠ 0 ∧ e = .returned (.tuple #[.pointer none, .int .i64 code]) ∧ Below W.heap.size W w')
set_option maxHeartbeats 400000 in
theorem opened_any (A : Option Addr) (c : Nat) (p : Int) (hs : List (Int × Int × Int)) (w : World) (hr : Rd w w.heap.size A (trips hs)) (hl : hs.length ≤ 1000) :
    Calls Try.prog 103 #[.agg #[.int .i64 p, .slice A hs.length c]] w (Opened p A hs.length c w (ckBill p hs)) := by
  have HC := fun w1 (hb : Below w.heap.size w w1) => Lib.hid (check_any A c p hs w1 (hr.next hb) hl)
  by_cases h0 : ckBill p hs = 0
  · rw [h0] at HC ⊢
    clear h0
    go_enter Try.func103, Try.ntmps103
    go_wp2_with fail
    refine (HC _ (by go_grown)).out.mono ?_
    rintro e w1 ⟨rfl, hb1⟩
    have hbw : Below w.heap.size w w1 := Below.trans (by go_grown) (hb1.mono (by simp))
    have hc0 := hb1.cell (p := ⟨w.heap.size, 0, none⟩) (by simp)
    have hc1 := hb1.cell (p := ⟨w.heap.size, 1, none⟩) (by simp)
    simp at hc0 hc1
    have hz := hb1.size
    simp at hz
    go_wp2_with fail
    go_ret2
    refine .inl ⟨rfl, w1.heap.size, rfl, by omega, ⟨by simp, by simp, by simp, rfl, ?_, by simp⟩, by exact hbw.alloc hbw.size _⟩
    intro i u hu
    match i with
    | 0 | 1 | 2 | 3 | 4 | 5 => simp at hu; subst hu; simp
    | i + 6 => simp at hu
  · have h0' : (ckBill p hs == 0) = false := by simpa using h0
    have h0'' : (ckBill p hs != 0) = true := by simpa using h0
    have H0 := Lib.hid h0
    clear h0
    go_enter Try.func103, Try.ntmps103
    go_wp2_with fail
    refine (HC _ (by go_grown)).out.mono ?_
    rintro e w1 ⟨rfl, hb1⟩
    have hbw : Below w.heap.size w w1 := Below.trans (by go_grown) (hb1.mono (by simp))
    go_wp2_with fail
    go_ret2
    exact .inr ⟨H0.out, rfl, hbw⟩
end Go.Proofs.Ytfojjecnmfkcfaa
