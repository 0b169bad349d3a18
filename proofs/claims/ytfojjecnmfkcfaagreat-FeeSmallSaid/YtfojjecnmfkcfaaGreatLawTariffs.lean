/- FeeTariffs returns true, whatever the steps, pounds and pence; what is passed in reads as it did. No condition. -/
import Derived.Test.YtfojjecnmfkcfaaGreatP11
import Derived.Test.YtfojjecnmfkcfaaGreatP3
import Derived.WalkKit
import Derived.ProofKit
import Derived.OpenShut
import Derived.ChangeOld
import Derived.Below
namespace Go.Proofs.YtfojjecnmfkcfaaGreat
open Go.ChangeShapes Go.WideShapes Go.ChangeAt Go.RowKit
set_option linter.unusedVariables false
set_option maxRecDepth 100000 in
set_option maxHeartbeats 4000000 in
theorem feeTariffs_walk (A : Option Addr) (c : Nat) (t : List (Int × Int)) (pounds pence : Int) (w : World) (hA : Came w A t.length c (pairs t)) :
    Calls Tryz.prog 10 #[.slice A t.length c, .int .i64 pounds, .int .i64 pence] w fun e w' => e = .returned (.bool true) ∧ Below w.heap.size w w' := by
  obtain ⟨hc, hr⟩ := hA
  by_cases h6 : 6 < t.length
  · have h6' : (6 : Int) < t.length := by omega
    go_enter Tryz.func10, Tryz.ntmps10
    go_wp2_with fail
    refine (awake_any w).mono ?_
    rintro e w1 ⟨rfl, hb⟩
    go_wp2_with fail
    go_ret
    exact ⟨rfl, hb⟩
  · have h6' : ¬ (6 : Int) < t.length := by omega
    go_enter Tryz.func10, Tryz.ntmps10
    go_wp2_with fail
    refine (copyStep_any A c t w hr (by omega)).mono ?_
    rintro e w1 ⟨v1, rfl, ho1, hb1⟩
    obtain ⟨B, cb, rfl, hcb, hB⟩ := own_slice ho1
    have hr1 := hr.next hb1
    go_wp2_with fail
    refine (stepped_any A c t w1 hr1 (by omega)).mono ?_
    rintro e w2 ⟨v2, rfl, ho2, hb2⟩
    obtain ⟨X, cx, rfl, hcx, hX⟩ := own_slice ho2
    have hB2 := hB.next hb2
    have hr2 := hr1.next hb2
    have hbw2 := hb1.trans (hb2.mono hb1.size)
    clear ho1 ho2 hB hr1 hb1 hb2 hr
    go_wp2_with fail
    refine (checkTariff_any B cb t w2 hB2 (by omega) hcb).mono ?_
    rintro e w3 ⟨rfl, hb3⟩
    have hB3 := hB2.next hb3
    have hX3 := hX.next hb3
    have hr3 := hr2.next hb3
    have hbw3 := hbw2.trans (hb3.mono hbw2.size)
    clear hB2 hX hr2 hb3 hbw2
    go_wp2_with fail
    refine (refCheckTariff_any X cx t w3 hX3 (by omega)).mono ?_
    rintro e w4 ⟨rfl, hb4⟩
    have hB4 := hB3.next hb4
    have hX4 := hX3.next hb4
    have hr4 := hr3.next hb4
    have hbw4 := hbw3.trans (hb4.mono hbw3.size)
    clear hB3 hX3 hr3 hb4 hbw3
    go_wp2_with fail
    refine (Cost_any B cb t pounds w4 hB4 (by omega) hcb).mono ?_
    rintro e w5 ⟨rfl, hb5⟩
    have hB5 := hB4.next hb5
    have hX5 := hX4.next hb5
    have hr5 := hr4.next hb5
    have hbw5 := hbw4.trans (hb5.mono hbw4.size)
    clear hB4 hX4 hr4 hb5 hbw4
    go_wp2_with fail
    refine (refCost_any X cx t pounds w5 hX5 (by omega)).mono ?_
    rintro e w6 ⟨rfl, hb6⟩
    have hB6 := hB5.next hb6
    have hX6 := hX5.next hb6
    have hr6 := hr5.next hb6
    have hbw6 := hbw5.trans (hb6.mono hbw5.size)
    clear hB5 hX5 hr5 hb6 hbw5
    go_wp2_with fail
    refine (Pounds_any B cb t pence w6 hB6 (by omega) hcb).mono ?_
    rintro e w7 ⟨rfl, hb7⟩
    have hB7 := hB6.next hb7
    have hX7 := hX6.next hb7
    have hr7 := hr6.next hb7
    have hbw7 := hbw6.trans (hb7.mono hbw6.size)
    clear hB6 hX6 hr6 hb7 hbw6
    go_wp2_with fail
    refine (refPounds_any X cx t pence w7 hX7 (by omega)).mono ?_
    rintro e w8 ⟨rfl, hb8⟩
    have hB8 := hB7.next hb8
    have hr8 := hr7.next hb8
    have hbw8 := hbw7.trans (hb8.mono hbw7.size)
    clear hB7 hX7 hr7 hb8 hbw7
    go_wp2_with fail
    refine (alikeStep_any B A cb c t t w8 hB8 hr8 (by omega)).mono ?_
    rintro e w9 ⟨rfl, hb9⟩
    have hbw9 := hbw8.trans (hb9.mono hbw8.size)
    clear hB8 hr8 hb9 hbw8
    rw [decide_eq_true rfl]
    go_wp2_with fail
    refine (awake_any w9).mono ?_
    rintro e w10 ⟨rfl, hb10⟩
    go_wp2_with fail
    go_ret
    exact ⟨rfl, hbw9.trans (hb10.mono hbw9.size)⟩
end Go.Proofs.YtfojjecnmfkcfaaGreat
