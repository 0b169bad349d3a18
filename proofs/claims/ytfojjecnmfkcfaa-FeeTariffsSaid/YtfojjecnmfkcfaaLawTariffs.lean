/- FeeTariffs returns true, whatever the steps, pounds and pence; what is passed in reads as it did. No condition. -/
import Derived.Test.YtfojjecnmfkcfaaAwake
import Derived.Test.YtfojjecnmfkcfaaOpen
import Derived.Test.YtfojjecnmfkcfaaRefTar2
import Derived.Test.YtfojjecnmfkcfaaCopy
import Derived.Test.YtfojjecnmfkcfaaStepped
import Derived.Test.YtfojjecnmfkcfaaRows
import Derived.WalkKit
import Derived.ProofKit
import Derived.OpenShut
import Derived.ChangeOld
import Derived.Below
namespace Go.Proofs.Ytfojjecnmfkcfaa
open Go.ChangeShapes Go.WideShapes Go.ChangeAt Go.RowKit
set_option linter.unusedVariables false
set_option maxRecDepth 100000 in
set_option maxHeartbeats 4000000 in
theorem feeTariffs_walk (A : Option Addr) (c : Nat) (t : List (Int × Int)) (pounds pence : Int) (w : World) (hA : Came w A t.length c (pairs t)) :
    Calls Try.prog 3 #[.slice A t.length c, .int .i64 pounds, .int .i64 pence] w fun e w' => e = .returned (.bool true) ∧ Below w.heap.size w w' := by
  obtain ⟨hc, hr⟩ := hA
  by_cases h6 : 6 < t.length
  · have h6' : (6 : Int) < t.length := by omega
    go_enter Try.func3, Try.ntmps3
    go_wp2_with fail
    refine (awake_any w).mono ?_
    rintro e w1 ⟨rfl, hb⟩
    go_wp2_with fail
    go_ret
    exact ⟨rfl, hb⟩
  · have h6' : ¬ (6 : Int) < t.length := by omega
    go_enter Try.func3, Try.ntmps3
    go_wp2_with fail
    refine (copyStep_any A c t w hr (by omega)).mono ?_
    rintro e w1 ⟨v1, rfl, ho1, hb1⟩
    obtain ⟨B, cb, rfl, hcb, hB⟩ := own_slice ho1
    have hr1 := hr.next hb1
    go_wp2_with fail
    refine (stepped_any A c t w1 hr1 (by omega)).mono ?_
    rintro e w2 ⟨v2, rfl, ho2, hb2⟩
    obtain ⟨X, cx, rfl, hcx, hX⟩ := own_slice ho2
    have hB2 := hB.next hb2
    have hr2 := hr1.next hb2
    have hbw2 := hb1.trans (hb2.mono hb1.size)
    clear ho1 ho2 hB hr1 hb1 hb2 hr
    go_wp2_with fail
    refine (checkTariff_any B cb t w2 hB2 (by omega) hcb).mono ?_
    rintro e w3 ⟨rfl, hb3⟩
    have hB3 := hB2.next hb3
    have hX3 := hX.next hb3
    have hr3 := hr2.next hb3
    have hbw3 := hbw2.trans (hb3.mono hbw2.size)
    clear hB2 hX hr2 hb3 hbw2
    go_wp2_with fail
    refine (refCheckTariff_any X cx t w3 hX3 (by omega)).mono ?_
    rintro e w4 ⟨rfl, hb4⟩
    have hB4 := hB3.next hb4
    have hX4 := hX3.next hb4
    have hr4 := hr3.next hb4
    have hbw4 := hbw3.trans (hb4.mono hbw3.size)
    clear hB3 hX3 hr3 hb4 hbw3
    go_wp2_with fail
    refine (Cost_any B cb t pounds w4 hB4 (by omega) hcb).mono ?_
    rintro e w5 ⟨rfl, hb5⟩
    have hB5 := hB4.next hb5
    have hX5 := hX4.next hb5
    have hr5 := hr4.next hb5
    have hbw5 := hbw4.trans (hb5.mono hbw4.size)
    clear hB4 hX4 hr4 hb5 hbw4
    go_wp2_with fail
    refine (refCost_any X cx t pounds w5 hX5 (by omega)).mono ?_
    rintro e w6 ⟨rfl, hb6⟩
    have hB6 := hB5.next hb6
    have hX6 := hX5.next hb6
    have hr6 := hr5.next hb6
    have hbw6 := hbw5.trans (hb6.mono hbw5.size)
    clear hB5 hX5 hr5 hb6 hbw5
    go_wp2_with fail
    refine (Pounds_any B cb t pence w6 hB6 (by omega) hcb).mono ?_
    rintro e w7 ⟨rfl, hb7⟩
    have hB7 := hB6.next hb7
    have hX7 := hX6.next hb7
    have hr7 := hr6.next hb7
    have hbw7 := hbw6.trans (hb7.mono hbw6.size)
    clear hB6 hX6 hr6 hb7 hbw6
    go_wp2_with fail
    refine (refPounds_any X cx t pence w7 hX7 (by omega)).mono ?_
    rintro e w8 ⟨rfl, hb8⟩
    have hB8 := hB7.next hb8
    have hr8 := hr7.next hb8
    have hbw8 := hbw7.trans (hb8.mono hbw7.size)
    clear hB7 hX7 hr7 hb8 hbw7
    go_wp2_with fail
    refine (alikeStep_any B A cb c t t w8 hB8 hr8 (by omega)).mono ?_
    rintro e w9 ⟨rfl, hb9⟩
    have hbw9 := hbw8.trans (hb9.mono hbw8.size)
    clear hB8 hr8 hb9 hbw8
    rw [decide_eq_true rfl]
    go_wp2_with fail
    refine (awake_any w9).mono ?_
    rintro e w10 ⟨rfl, hb10⟩
    go_wp2_with fail
    go_ret
    exact ⟨rfl, hbw9.trans (hb10.mono hbw9.size)⟩
theorem own : ownKnob Try.prog.godebug = none := by kernel_rfl
theorem laidOut : laidOutB Try.prog = true := by kernel_rfl
theorem cellsStep : Try.prog.cellsOf 26 = 2 := by kernel_rfl
theorem intFields2 {f0 f1 : Field} {P : Program} (h0 : P.underlying f0.type = some (.int .i64)) (h1 : P.underlying f1.type = some (.int .i64)) : ∀ (j : Nat) (f : Field), #[f0, f1][j]? = some f → P.underlying f.type = some (.int .i64) := by
  intro j f h
  match j with
  | 0 => simp at h; subst h; exact h0
  | 1 => simp at h; subst h; exact h1
  | j + 2 => simp at h
set_option maxRecDepth 100000 in
theorem feeTariffs_lifted (os : Os) (started : os.Started) (H : Type) (enc : TypeId × Value → H) :
    ReturnsInHanded {} Try.checked os 3 .any (Rows.feeTariffsSpec.pre6 enc Try.prog Try.f3 Rows.feeTariffsRow.domain false) (Rows.feeTariffsSpec.post enc Try.prog Try.f3 false true false false) := by
  refine returnsInHanded_of_change (C := Try.checked) own started (by kernel_rfl) Try.func3
    (ChangeSpec.witness6 (enc := enc) (C := Try.checked) false ⟨#[], #[.slice none 0 0, .int .i64 0, .int .i64 0], []⟩ 8 (by kernel_rfl) (by kernel_rfl) (by kernel_rfl) (by kernel_rfl)) ?_
  intro W base args ds gs before hval0 hW hcnd _
  have hval : ∀ (j : Nat) t v, Try.f3.params[j]? = some t → args[j]? = some v → Value.okWide Try.prog W .any base t v := hval0
  have hW' := hW
  obtain ⟨p, q, hA0, hV, rfl, hfz, hnd⟩ := hW
  have hA : DataW.TrodAll enc Try.prog W 0 (fun _ => true) true Try.f3.params.toList args.toList ds p := hA0
  rw [Try.params3] at hA hval
  obtain ⟨v0, vs0, d0, ds0, p0, q0, hargs, rfl, rfl, h0, r0⟩ := trodAll_cons hA
  obtain ⟨v1, vs1, d1, ds1, p1, q1, rfl, rfl, rfl, h1, r1⟩ := trodAll_cons r0
  obtain ⟨v2, vs2, d2, ds2, p2, q2, rfl, rfl, rfl, h2, r2⟩ := trodAll_cons r1
  obtain ⟨rfl, rfl, rfl⟩ := trodAll_nil r2
  obtain rfl : args = #[v0, v1, v2] := by cases args; simp_all
  obtain ⟨rfl, rfl⟩ := trodVars_none hV
  obtain ⟨a0, len0, cap0, rfl⟩ := okWide_slice Try.underlying22 (hval 0 22 v0 rfl rfl)
  have k0 := h0
  have lt0 : ∀ x ∈ p0, x.block < W.heap.size := by obtain ⟨m, hm⟩ := k0; exact DataW.trod_lt m _ _ _ hm
  obtain ⟨A, c, t, hsl, w0⟩ : ∃ A c, ∃ t : List (Int × Int), Value.slice a0 len0 cap0 = .slice A t.length c ∧ Came W A t.length c (pairs t) := by
    obtain ⟨fuel, hf⟩ := h0
    obtain ⟨A, c, l, h1, h2⟩ := came_pairs (open_rows Try.underlying22 Try.underlying26 (by kernel_rfl) cellsStep (intFields2 Try.underlying3 Try.underlying3) hf)
    exact ⟨A, c, l, by simpa [Value.cells] using h1, h2⟩
  obtain ⟨a1, rfl, rfl, rfl, w1⟩ := open_int Try.underlying3 (hval 1 3 v1 rfl rfl) h1
  obtain ⟨a2, rfl, rfl, rfl, w2⟩ := open_int Try.underlying3 (hval 2 3 v2 rfl rfl) h2
  clear hA0 hval0
  rw [hsl]
  refine (feeTariffs_walk A c t a1 a2 W w0).mono fun e W' ⟨he, bel⟩ => ?_
  subst he
  rw [← hsl]
  exact ⟨_, rfl, _, _, _, [], _, [], hW', trodAll_mk1 (shut_bool Try.underlying4 _), (trodAll_cons_mk (Below.trod laidOut (by kernel_rfl) (of_decide_eq_true (by kernel_rfl)) k0 bel lt0) (trodAll_cons_mk (shut_int Try.underlying3 w1) (trodAll_cons_mk (shut_int Try.underlying3 w2) trodAll_mk0))), rfl, bel.frame _, fun h => by cases h⟩
theorem feeTariffs_proved : Rows.FeeTariffsSaid :=
  OpenClaim.holds_of_wide 3 Try.f3 rfl rfl rfl rfl rfl rfl rfl ⟨rfl, rfl, rfl, rfl, rfl⟩ rfl rfl rfl rfl rfl (by kernel_rfl) Try.func3 (by kernel_rfl)
    (of_decide_eq_true (by kernel_rfl)) (by unfold Func.isWrapper; first | (rw [if_pos (by decide +kernel)]; kernel_rfl) | (rw [if_neg (by decide +kernel)]; exact ⟨rfl, rfl⟩))
    (fun os started H enc _ => feeTariffs_lifted os started H enc)
#print axioms feeTariffs_proved
end Go.Proofs.Ytfojjecnmfkcfaa
