/- slices.Contains over integers. -/
import Derived.Test.YtfojjecnmfkcfaaP4
namespace Go.Proofs.Ytfojjecnmfkcfaa
open Go.RowKit
set_option linter.unusedVariables false
set_option maxHeartbeats 1000000 in
theorem index_any (A : Option Addr) (c : Nat) (t : List Int) (x : Int) (w : World) (hr : Rd w w.heap.size A (ints t)) (hl : t.length ≤ 1000) :
    Calls Try.prog 113 #[.slice A t.length c, .int .i64 x] w (Found (t.any (x == ·)) w) := by
  go_enter Try.func113, Try.ntmps113
  go_wp2_with fail
  go_loopw [5, 8] (fun _ i wr => ∃ k : Nat, k ≤ t.length ∧ i = .int .i64 k ∧ Hid ((t.take k).any (x == ·) = false) ∧ Below w.heap.size w wr) (fun _ i _ => t.length - (intOf i).toNat)
  case atStart => exact ⟨0, Nat.zero_le _, rfl, (rfl : ([] : List Int).any _ = false), Below.refl _ _⟩
  case round =>
    obtain ⟨k, hk, rfl, hno, hbw⟩ := hrel
    by_cases hlt : k < t.length
    · obtain ⟨b, off, rfl, hbb, hc1⟩ := (hr.below hbw).int hlt
      have hs := any_take_succ (x == ·) t k hlt
      have hkz : (k : Int) < t.length := by omega
      by_cases hp : x = t[k]
      · have hp2 : (x == t[k]) = true := by simpa using hp
        have HS : Hid (t.any (x == ·) = true) := List.any_eq_true.2 ⟨t[k], List.getElem_mem _, hp2⟩
        clear hs hp
        go_wp2_with fail
        go_ret
        exact ⟨k, rfl, by rw [HS.out]; simp, hbw⟩
      · have hp2 : (x == t[k]) = false := by simpa using hp
        have HS : Hid ((t.take (k + 1)).any (x == ·) = false) := by show _ = _; rw [hs, hno.out, hp2]; rfl
        clear hs hp
        go_wp2_with fail
        go_roundw
        case rel => exact ⟨k + 1, by omega, by go_num, HS, hbw⟩
        case measure => simp [intOf]; omega
    · have HS : Hid (t.any (x == ·) = false) := by have := hno.out; rwa [List.take_of_length_le (by omega)] at this
      go_wp2_with fail
      go_ret
      exact ⟨-1, rfl, by rw [HS.out]; rfl, hbw⟩
theorem contains_any (A : Option Addr) (c : Nat) (t : List Int) (x : Int) (w : World) (hr : Rd w w.heap.size A (ints t)) (hl : t.length ≤ 1000) :
    Calls Try.prog 51 #[.slice A t.length c, .int .i64 x] w fun e w' => e = .returned (.bool (t.any (x == ·))) ∧ Below w.heap.size w w' := by
  have H := Lib.hid (index_any A c t x w hr hl)
  go_enter Try.func51, Try.ntmps51
  go_wp2_with fail
  refine H.out.mono ?_
  rintro e w1 ⟨i, rfl, hi, hb1⟩
  go_wp2_with fail
  go_ret
  exact ⟨rfl, hb1⟩
end Go.Proofs.Ytfojjecnmfkcfaa
