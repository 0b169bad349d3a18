/- FeeAppeals returns true, whatever the bill, house, value and pence; what is passed in reads as it did. No condition. -/
import Derived.Test.YtfojjecnmfkcfaaGreatP11
import Derived.Test.YtfojjecnmfkcfaaGreatP13
import Derived.Test.YtfojjecnmfkcfaaGreatP16
import Derived.Deep.DeepCutAuto
import Derived.WalkKit
import Derived.ProofKit
import Derived.OpenShut
import Derived.ChangeOld
import Derived.Below
namespace Go.Proofs.YtfojjecnmfkcfaaGreat
open Go.ChangeShapes Go.WideShapes Go.ChangeAt Go.RowKit Go.Joins
set_option linter.unusedVariables false
set_option maxRecDepth 100000 in
set_option maxHeartbeats 4000000 in
theorem feeAppeals_walk (A : Option Addr) (c : Nat) (p : Int) (hs : List (Int × Int × Int)) (house value pence : Int) (w : World) (hA : Came w A hs.length c (trips hs)) :
    Calls Tryz.prog 11 #[.agg #[.int .i64 p, .slice A hs.length c], .int .i64 house, .int .i64 value, .int .i64 pence] w fun e w' => e = .returned (.bool true) ∧ Below w.heap.size w w' := by
  obtain ⟨hc, hr⟩ := hA
  by_cases h8 : 8 < hs.length
  · have h8' : (8 : Int) < hs.length := by omega
    go_enter Tryz.func11, Tryz.ntmps11
    go_wp2_with fail
    refine (awake_any _).mono ?_
    rintro e w1 ⟨rfl, hb⟩
    go_wp2_with fail
    go_ret
    exact ⟨rfl, Below.trans (by go_grown) (hb.mono (by simp))⟩
  · by_cases h60 : 60 < p ∧ p ≤ 500
    · have h8' : ¬ (8 : Int) < hs.length := by omega
      obtain ⟨h61, h62⟩ := h60
      go_enter Tryz.func11, Tryz.ntmps11
      go_wp2_with fail
      refine (awake_any _).mono ?_
      rintro e w1 ⟨rfl, hb⟩
      go_wp2_with fail
      go_ret
      exact ⟨rfl, Below.trans (by go_grown) (hb.mono (by simp))⟩
    · have h8' : ¬ (8 : Int) < hs.length := by omega
      have hcase : p ≤ 60 ∨ (60 < p ∧ 500 < p) := by omega
      clear h60
      rcases hcase with hp | ⟨hp, hp2⟩
      all_goals
        go_enter Tryz.func11, Tryz.ntmps11
        go_upto_region 3 with fail
        go_cut [9, 10] (fun s9 s10 wx => TwoBills w p hs s9 s10 wx ∧ wx.cell? ⟨w.heap.size, 0, none⟩ = some (.int .i64 p) ∧ wx.cell? ⟨w.heap.size, 1, none⟩ = some (.slice A hs.length c))
        case first =>
          obtain ⟨W1, hW1⟩ : ∃ x, x = w.alloc (.cells #[.int .i64 p, .slice A hs.length c] 27) := ⟨_, rfl⟩
          rw [← hW1]
          have k0 : W1.cell? ⟨w.heap.size, 0, none⟩ = some (.int .i64 p) := by rw [hW1]; simp
          have k1 : W1.cell? ⟨w.heap.size, 1, none⟩ = some (.slice A hs.length c) := by rw [hW1]; simp
          have bw : Below w.heap.size w W1 := by rw [hW1]; go_grown
          have r0 : w.heap.size < W1.heap.size := by rw [hW1]; simp
          have hr1 := hr.next bw
          clear hW1
          refine wp_makers 6 (by kernel_rfl) (by kernel_rfl) (by kernel_rfl) (by decide) (FTwo (.agg #[.int .i64 p, .slice A hs.length c]) p hs 27 56) FTwo.keep ?_ ?_
          · intro i o hi ho listed vals lo hi' a w2 hdep hM hb hB hAt K hK
            have d0 := hb.at_ r0 k0
            have d1 := hb.at_ r0 k1
            have hr2 := (hr1.below hb).more hB
            obtain ⟨e4, e4'⟩ := hAt.slot 4 (by kernel_rfl) (by rfl)
            match i, hi with
            | 0, _ =>
              injection ho with ho
              subst ho
              go_simp
              exact hK _ w2 (Below.refl _ _) rfl
            | 1, _ =>
              injection ho with ho
              subst ho
              have l0 := hdep ⟨0, .data⟩ (by simp) rfl
              obtain ⟨e5, e5'⟩ := hAt.dep 0 (d := 32) (by omega) l0 (by rfl) (hM.fact 0 (by omega) l0)
              go_simp
              refine (own_any A c p hs w2 hr2 (by omega)).mono ?_
              rintro e w3 ⟨v1, rfl, ho1, hb1⟩
              obtain ⟨A1, c1, rfl, hc1, hR1⟩ := own_sliceI ho1
              exact hK _ w3 hb1 ⟨A1, c1, rfl, hc1, hR1⟩
            | 2, _ =>
              injection ho with ho
              subst ho
              go_simp
              exact hK _ w2 (Below.refl _ _) rfl
            | 3, _ =>
              injection ho with ho
              subst ho
              have l0 := hdep ⟨2, .data⟩ (by simp) rfl
              obtain ⟨e5, e5'⟩ := hAt.dep 2 (d := 34) (by omega) l0 (by rfl) (hM.fact 2 (by omega) l0)
              go_simp
              refine (theirs_any A c p hs w2 hr2 (by omega)).mono ?_
              rintro e w3 ⟨v1, rfl, ho1, hb1⟩
              obtain ⟨A1, c1, rfl, hc1, hR1⟩ := own_sliceI ho1
              exact hK _ w3 hb1 ⟨A1, c1, rfl, hc1, hR1⟩
            | 4, _ =>
              injection ho with ho
              subst ho
              go_simp
              exact hK _ _ (below_new _ _) ⟨rfl, by simp, heap_alloc_new _ _⟩
            | 5, _ =>
              injection ho with ho
              subst ho
              go_simp
              exact hK _ _ (below_new _ _) ⟨rfl, by simp, heap_alloc_new _ _⟩
          · intro vals lo hi w2 hM hb
            obtain ⟨g9, g10, A1, c1, A2, c2, e0, e1, e2, e3, e4, e5, M⟩ := two_mid rfl (by decide) hM hb
            have d0 := hb.at_ r0 k0
            have d1 := hb.at_ r0 k1
            have HT := Lib.hid (two_fin bw M)
            have a0 := M.a0
            have a1 := M.a1
            have a2 := M.a2
            have a3 := M.a3
            have b0 := M.b0
            have b1 := M.b1
            have b2 := M.b2
            have b3 := M.b3
            have n1 := M.ne
            have n2 : ¬ g10 = g9 := fun h => n1 h.symm
            have n3 := M.ge.1
            have n4 := M.ge.2.2.1
            have n5 : ¬ w.heap.size = g9 := by omega
            have n6 : ¬ w.heap.size = g10 := by omega
            clear M hM
            simp only [putAll, List.range, List.range.loop, List.foldl_cons, List.foldl_nil, e0, e1, e2, e3, e4, e5]
            clear e0 e1 e2 e3 e4 e5
            generalize hact : Act.put _ _ _ = act
            simp (maxSteps := 20000) [dstOf, Act.put] at hact
            subst hact
            refine tail_step 6 _ (by kernel_rfl) rfl rfl (fun K' hK => ?_)
            go_simp
            refine hK _ _ ?_
            clear hK K'
            refine tail_step 7 _ (by kernel_rfl) rfl rfl (fun K' hK => ?_)
            go_simp
            refine hK _ _ ?_
            clear hK K'
            refine wpAny_done (by kernel_rfl) ?_ _
            go_wp2_with fail
            go_meet
            case rel =>
              refine ⟨HT.out, ?_, ?_⟩
              · rw [cell_far n6, cell_far n6, cell_far n5, cell_far n5]; exact d0
              · rw [cell_far n6, cell_far n6, cell_far n5, cell_far n5]; exact d1
        case rest =>
          obtain ⟨⟨g9, g10, A1, c1, A2, c2, rfl, rfl, n1, n2, n3, n4, x0, x1, y0, y1, _, _, hR1, hR2, hbw⟩, d0, d1⟩ := hcut
          have hR := hr.next hbw
          have nz : w.heap.size < wc.heap.size := by omega
          clear n1 n3
          go_wp2_with fail
          refine (Appeal_any A1 c1 p hs house value wc hR1 (by omega)).mono ?_
          rintro e w1 ⟨v1, rfl, ho1, hb1⟩
          obtain ⟨B1, cb1, rfl, _, hB1⟩ := own_slice ho1
          have z0 := hb1.at_ n2 x0
          have z1 := hb1.at_ n2 x1
          have z2 := hb1.at_ n4 y0
          have z3 := hb1.at_ n4 y1
          have z4 := hb1.at_ nz d0
          have z5 := hb1.at_ nz d1
          have q2 := Nat.lt_of_lt_of_le n2 hb1.size
          have q4 := Nat.lt_of_lt_of_le n4 hb1.size
          have q5 := Nat.lt_of_lt_of_le nz hb1.size
          have T1 := hR1.next hb1
          have T2 := hR2.next hb1
          have T3 := hR.next hb1
          have BW := hbw.trans (hb1.mono hbw.size)
          clear x0 x1 y0 y1 d0 d1 n2 n4 nz hR1 hR2 hR hbw hb1 ho1
          go_wp2_with fail
          refine (refAppeal_any A2 c2 p hs house value w1 T2 (by omega)).mono ?_
          rintro e w2 ⟨B2, cb2, rfl, hB2, hb2⟩
          have x0 := hb2.at_ q2 z0
          have x1 := hb2.at_ q2 z1
          have y0 := hb2.at_ q4 z2
          have y1 := hb2.at_ q4 z3
          have d0 := hb2.at_ q5 z4
          have d1 := hb2.at_ q5 z5
          have n2 := Nat.lt_of_lt_of_le q2 hb2.size
          have n4 := Nat.lt_of_lt_of_le q4 hb2.size
          have nz := Nat.lt_of_lt_of_le q5 hb2.size
          have hR1 := T1.next hb2
          have hR2 := T2.next hb2
          have hR := T3.next hb2
          have hB1' := hB1.next hb2
          have BW2 := BW.trans (hb2.mono BW.size)
          have hL : (appealL p hs house value).length ≤ 100000 := by unfold appealL; split; (rw [List.length_take]; omega); simp
          clear z0 z1 z2 z3 z4 z5 q2 q4 q5 T1 T2 T3 hB1 BW hb2
          go_wp2_with fail
          refine (alikeInt_any B1 B2 cb1 cb2 _ _ w2 hB1' hB2 hL).mono ?_
          rintro e w3 ⟨rfl, hb3⟩
          rw [decide_eq_true rfl]
          have z0 := hb3.at_ n2 x0
          have z1 := hb3.at_ n2 x1
          have z2 := hb3.at_ n4 y0
          have z3 := hb3.at_ n4 y1
          have z4 := hb3.at_ nz d0
          have z5 := hb3.at_ nz d1
          have q2 := Nat.lt_of_lt_of_le n2 hb3.size
          have q4 := Nat.lt_of_lt_of_le n4 hb3.size
          have q5 := Nat.lt_of_lt_of_le nz hb3.size
          have T1 := hR1.next hb3
          have T2 := hR2.next hb3
          have T3 := hR.next hb3
          have BW := BW2.trans (hb3.mono BW2.size)
          clear x0 x1 y0 y1 d0 d1 n2 n4 nz hR1 hR2 hR BW2 hb3 hB1' hB2 hL
          go_wp2_with fail
          refine (Worth_any A1 c1 p hs house pence w3 T1 (by omega)).mono ?_
          intro e w4 HW1
          obtain ⟨r1, rfl, hb4, u1, u2⟩ := HW1.form
          have x0 := hb4.at_ q2 z0
          have x1 := hb4.at_ q2 z1
          have y0 := hb4.at_ q4 z2
          have y1 := hb4.at_ q4 z3
          have d0 := hb4.at_ q5 z4
          have d1 := hb4.at_ q5 z5
          have n2 := Nat.lt_of_lt_of_le q2 hb4.size
          have n4 := Nat.lt_of_lt_of_le q4 hb4.size
          have nz := Nat.lt_of_lt_of_le q5 hb4.size
          have hR1 := T1.next hb4
          have hR2 := T2.next hb4
          have hR := T3.next hb4
          have BW2 := BW.trans (hb4.mono BW.size)
          have U1 := Lib.hid u1
          have U2 := Lib.hid u2
          clear z0 z1 z2 z3 z4 z5 q2 q4 q5 T1 T2 T3 BW hb4 HW1 u1 u2
          go_wp2_with fail
          refine (refWorth_any A2 c2 p hs house pence w4 hR2 (by omega)).mono ?_
          intro e w5 HW2
          obtain ⟨r2, rfl, hb5, u3, u4⟩ := HW2.form
          obtain rfl : r1 = r2 := worth_same U1.out U2.out u3 u4
          have z0 := hb5.at_ n2 x0
          have z1 := hb5.at_ n2 x1
          have z4 := hb5.at_ nz d0
          have z5 := hb5.at_ nz d1
          have T1 := hR1.next hb5
          have T3 := hR.next hb5
          have BW := BW2.trans (hb5.mono BW2.size)
          clear x0 x1 y0 y1 d0 d1 n2 n4 nz hR1 hR2 hR BW2 hb5 HW2 u3 u4
          go_wp2_with fail
          refine (same_any A1 A c1 c p p hs hs w5 T1 T3 (by omega)).mono ?_
          rintro e w6 ⟨rfl, hb6⟩
          rw [decide_eq_true rfl, decide_eq_true rfl]
          have BW2 := BW.trans (hb6.mono BW.size)
          clear z0 z1 z4 z5 T1 T3 BW hb6
          go_wp2_with fail
          refine (awake_any w6).mono ?_
          rintro e w7 ⟨rfl, hb7⟩
          go_wp2_with fail
          go_ret
          exact ⟨rfl, BW2.trans (hb7.mono BW2.size)⟩
end Go.Proofs.YtfojjecnmfkcfaaGreat
