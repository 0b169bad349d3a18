/- FeeDue's search for charges that are late and were not. -/
import Derived.Test.YtfojjecnmfkcfaaP23
import Derived.Test.YtfojjecnmfkcfaaP4
namespace Go.Proofs.Ytfojjecnmfkcfaa
open Go.RowKit
set_option linter.unusedVariables false
def freshB (late : List Int) (i : Int) : Bool := !(late.any fun z => i == z)
def G_Due (a : Addr) : Value := .func (.func 75) #[] #[.pointer (some a)]
section
variable {L : Option Addr} {cL : Nat} {late : List Int} {a : Addr}
theorem due2_any (i : Int) (w : World) (ha : w.cell? a = some (.slice L late.length cL)) (hb : a.block < w.heap.size) (hr : Rd w w.heap.size L (ints late)) (hl : late.length ≤ 1000) :
    Calls Try.prog 75 #[.int .i64 i, .pointer (some a)] w fun e w' => e = .returned (.bool (freshB late i)) ∧ Below w.heap.size w w' := by
  have HC := Lib.hid (contains_any L cL late i w hr hl)
  go_enter Try.func75, Try.ntmps75
  go_wp2_with fail
  refine HC.out.mono ?_
  rintro e w1 ⟨rfl, hb1⟩
  go_wp2_with fail
  go_ret
  exact ⟨rfl, hb1⟩
set_option maxHeartbeats 400000 in
theorem indexDue_any (A : Option Addr) (c : Nat) (t : List Int) (w : World) (ha : w.cell? a = some (.slice L late.length cL)) (hb : a.block < w.heap.size) (hrL : Rd w w.heap.size L (ints late)) (hlL : late.length ≤ 1000) (hr : Rd w w.heap.size A (ints t)) (hl : t.length ≤ 1000) :
    Calls Try.prog 132 #[.slice A t.length c, G_Due a] w (Found (t.any (freshB late)) w) := by
  unfold G_Due
  go_enter Try.func132, Try.ntmps132
  go_wp2_with fail
  go_loopw [5, 8] (fun _ i wr => ∃ k : Nat, k ≤ t.length ∧ i = .int .i64 k ∧ (t.take k).any (freshB late) = false ∧ Below w.heap.size w wr) (fun _ i _ => t.length - (intOf i).toNat)
  case atStart => exact ⟨0, Nat.zero_le _, rfl, by simp, Below.refl _ _⟩
  case round =>
    obtain ⟨k, hk, rfl, hno, hbw⟩ := hrel
    by_cases hlt : k < t.length
    · obtain ⟨b, off, rfl, hbb, hc1⟩ := (hr.below hbw).int hlt
      go_wp2_with fail
      refine (due2_any _ _ (by rw [hbw.cell hb]; exact ha) (Nat.lt_of_lt_of_le hb hbw.size) (hrL.next hbw) hlL).mono ?_
      rintro e w1 ⟨rfl, hb1⟩
      have hbw1 := hbw.trans (hb1.mono hbw.size)
      have hs := any_take_succ (freshB late) t k hlt
      by_cases hp : freshB late t[k] = true
      · have hs1 : t.any (freshB late) = true := List.any_eq_true.2 ⟨t[k], List.getElem_mem _, hp⟩
        have hs2 := Lib.hid hs1
        clear hs hs1
        go_wp2_with fail
        go_ret
        exact ⟨k, rfl, by rw [hs2.out]; simp, hbw1⟩
      · have hp2 : freshB late t[k] = false := by simpa using hp
        have hs1 : (t.take (k + 1)).any (freshB late) = false := by rw [hs, hno, hp2]; rfl
        have hs2 := Lib.hid hs1
        clear hs hs1
        go_wp2_with fail
        go_roundw
        case rel => exact ⟨k + 1, by omega, by go_num, hs2.out, hbw1⟩
        case measure => simp [intOf]; omega
    · have hs1 : t.any (freshB late) = false := by rwa [List.take_of_length_le (by omega)] at hno
      have hs2 := Lib.hid hs1
      clear hno hs1
      go_wp2_with fail
      go_ret
      exact ⟨-1, rfl, by rw [hs2.out]; rfl, hbw⟩
theorem containsDue_any (A : Option Addr) (c : Nat) (t : List Int) (w : World) (ha : w.cell? a = some (.slice L late.length cL)) (hb : a.block < w.heap.size) (hrL : Rd w w.heap.size L (ints late)) (hlL : late.length ≤ 1000) (hr : Rd w w.heap.size A (ints t)) (hl : t.length ≤ 1000) :
    Calls Try.prog 74 #[.slice A t.length c, G_Due a] w fun e w' => e = .returned (.bool (t.any (freshB late))) ∧ Below w.heap.size w w' := by
  have H := Lib.hid (indexDue_any A c t w ha hb hrL hlL hr hl)
  unfold G_Due at H ⊢
  go_enter Try.func74, Try.ntmps74
  go_wp2_with fail
  refine H.out.mono ?_
  rintro e w1 ⟨i, rfl, hi, hb1⟩
  go_wp2_with fail
  go_ret
  exact ⟨rfl, hb1⟩
end
end Go.Proofs.Ytfojjecnmfkcfaa
