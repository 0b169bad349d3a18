/- FeeGiven returns true, whatever the bill, shares, numbers of days and days; what is passed in reads as it did. No condition. -/
import Derived.Test.YtfojjecnmfkcfaaGreatLawShares
import Derived.Test.YtfojjecnmfkcfaaGreatFour
import Derived.Test.YtfojjecnmfkcfaaGreatRefundP
import Derived.Deep.DeepCutAuto
namespace Go.Proofs.YtfojjecnmfkcfaaGreat
open Go.ChangeShapes Go.WideShapes Go.ChangeAt Go.RowKit Go.Joins
set_option linter.unusedVariables false
set_option maxRecDepth 100000 in
set_option maxHeartbeats 8000000 in
theorem feeGiven_walk (A : Option Addr) (c : Nat) (p : Int) (hs : List (Int × Int × Int)) (L : Option Addr) (cl : Nat) (qs : List Int) (M : Option Addr) (cm : Nat) (ls : List Int) (days : Int) (w : World) (hA : Came w A hs.length c (trips hs)) (hQ : Came w L qs.length cl (ints qs)) (hM0 : Came w M ls.length cm (ints ls)) :
    Calls Tryz.prog 8 #[.agg #[.int .i64 p, .slice A hs.length c], .slice L qs.length cl, .slice M ls.length cm, .int .i64 days] w fun e w' => e = .returned (.bool true) ∧ Below w.heap.size w w' := by
  obtain ⟨hc, hr⟩ := hA
  obtain ⟨_, hq⟩ := hQ
  obtain ⟨_, hm⟩ := hM0
  by_cases h8 : 8 < hs.length ∨ (hs.length ≤ 8 ∧ 8 < qs.length) ∨ (hs.length ≤ 8 ∧ qs.length ≤ 8 ∧ 8 < ls.length)
  · have hcs : (8 : Int) < hs.length ∨ (¬ (8 : Int) < hs.length ∧ (8 : Int) < qs.length) ∨ (¬ (8 : Int) < hs.length ∧ ¬ (8 : Int) < qs.length ∧ (8 : Int) < ls.length) := by omega
    clear h8
    rcases hcs with h1 | ⟨h1, h2⟩ | ⟨h1, h2, h3⟩
    all_goals
      go_enter Tryz.func8, Tryz.ntmps8
      go_wp2_with fail
      refine (awake_any _).mono ?_
      rintro e w1 ⟨rfl, hb⟩
      go_wp2_with fail
      go_ret
      exact ⟨rfl, Below.trans (by go_grown) (hb.mono (by simp))⟩
  · obtain ⟨h1, h2, h3⟩ : hs.length ≤ 8 ∧ qs.length ≤ 8 ∧ ls.length ≤ 8 := by omega
    have h1' : ¬ (8 : Int) < hs.length := by omega
    have h2' : ¬ (8 : Int) < qs.length := by omega
    have h3' : ¬ (8 : Int) < ls.length := by omega
    clear h8
    have HLO : Hid ((outL p hs qs).length ≤ 64) := by
      show _ ≤ _
      unfold outL
      split
      · have := outRows_len hs qs hs.length
        have hmul : hs.length * hs.length ≤ 8 * 8 := Nat.mul_le_mul h1 h1
        omega
      · simp
    have HLR : Hid ((refundL p hs qs ls days).length ≤ 100000) := by show _ ≤ _; unfold refundL; split; (rw [refundK_len]; omega); simp
    go_enter Tryz.func8, Tryz.ntmps8
    go_upto_region 3 with fail
    go_cut [9, 10, 11, 12] (fun s9 s10 s11 s12 wx => TwoBills w p hs s9 s12 wx ∧ wx.cell? ⟨w.heap.size, 0, none⟩ = some (.int .i64 p) ∧ wx.cell? ⟨w.heap.size, 1, none⟩ = some (.slice A hs.length c) ∧ ∃ B1 d1 B2 d2, s10 = .slice B1 qs.length d1 ∧ s11 = .slice B2 ls.length d2 ∧ Rd wx wx.heap.size B1 (ints qs) ∧ Rd wx wx.heap.size B2 (ints ls))
    case first =>
      obtain ⟨W1, hW1⟩ : ∃ x, x = w.alloc (.cells #[.int .i64 p, .slice A hs.length c] 27) := ⟨_, rfl⟩
      rw [← hW1]
      have k0 : W1.cell? ⟨w.heap.size, 0, none⟩ = some (.int .i64 p) := by rw [hW1]; simp
      have k1 : W1.cell? ⟨w.heap.size, 1, none⟩ = some (.slice A hs.length c) := by rw [hW1]; simp
      have bw : Below w.heap.size w W1 := by rw [hW1]; go_grown
      have r0 : w.heap.size < W1.heap.size := by rw [hW1]; simp
      have hr1 := hr.next bw
      have hq1 := hq.next bw
      have hm1 := hm.next bw
      clear hW1
      refine wp_makers 10 (by kernel_rfl) (by kernel_rfl) (by kernel_rfl) (by decide) (FGiv (.agg #[.int .i64 p, .slice A hs.length c]) (.slice L qs.length cl) (.slice M ls.length cm) p hs qs ls 27 56) FGiv.keep ?_ ?_
      · intro i o hi ho listed vals lo hi' a w2 hdep hM hb hB hAt K hK
        have d0 := hb.at_ r0 k0
        have d1 := hb.at_ r0 k1
        have hr2 := (hr1.below hb).more hB
        have hq2 := (hq1.below hb).more hB
        have hm2 := (hm1.below hb).more hB
        obtain ⟨e4, e4'⟩ := hAt.slot 4 (by kernel_rfl) (by rfl)
        obtain ⟨e1, e1'⟩ := hAt.slot 1 (by kernel_rfl) (by rfl)
        obtain ⟨e2, e2'⟩ := hAt.slot 2 (by kernel_rfl) (by rfl)
        match i, hi with
        | 0, _ =>
          injection ho with ho
          subst ho
          go_simp
          exact hK _ w2 (Below.refl _ _) rfl
        | 1, _ =>
          injection ho with ho
          subst ho
          have l0 := hdep ⟨0, .data⟩ (by simp) rfl
          obtain ⟨e5, e5'⟩ := hAt.dep 0 (d := 37) (by omega) l0 (by rfl) (hM.fact 0 (by omega) l0)
          go_simp
          refine (own_any A c p hs w2 hr2 (by omega)).mono ?_
          rintro e w3 ⟨v1, rfl, ho1, hb1⟩
          obtain ⟨A1, c1, rfl, hc1, hR1⟩ := own_sliceI ho1
          exact hK _ w3 hb1 ⟨A1, c1, rfl, hc1, hR1⟩
        | 2, _ =>
          injection ho with ho
          subst ho
          go_simp
          exact hK _ w2 (Below.refl _ _) rfl
        | 3, _ =>
          injection ho with ho
          subst ho
          have l0 := hdep ⟨2, .data⟩ (by simp) rfl
          obtain ⟨e5, e5'⟩ := hAt.dep 2 (d := 39) (by omega) l0 (by rfl) (hM.fact 2 (by omega) l0)
          go_simp
          refine (copyInt_any L cl qs w2 hq2 (by omega)).mono ?_
          rintro e w3 ⟨v1, rfl, ho1, hb1⟩
          obtain ⟨A1, c1, rfl, hc1, hR1⟩ := own_sliceI ho1
          exact hK _ w3 hb1 ⟨A1, c1, rfl, hR1⟩
        | 4, _ =>
          injection ho with ho
          subst ho
          go_simp
          exact hK _ w2 (Below.refl _ _) rfl
        | 5, _ =>
          injection ho with ho
          subst ho
          have l0 := hdep ⟨4, .data⟩ (by simp) rfl
          obtain ⟨e5, e5'⟩ := hAt.dep 4 (d := 41) (by omega) l0 (by rfl) (hM.fact 4 (by omega) l0)
          go_simp
          refine (copyInt_any M cm ls w2 hm2 (by omega)).mono ?_
          rintro e w3 ⟨v1, rfl, ho1, hb1⟩
          obtain ⟨A1, c1, rfl, hc1, hR1⟩ := own_sliceI ho1
          exact hK _ w3 hb1 ⟨A1, c1, rfl, hR1⟩
        | 6, _ =>
          injection ho with ho
          subst ho
          go_simp
          exact hK _ w2 (Below.refl _ _) rfl
        | 7, _ =>
          injection ho with ho
          subst ho
          have l0 := hdep ⟨6, .data⟩ (by simp) rfl
          obtain ⟨e5, e5'⟩ := hAt.dep 6 (d := 43) (by omega) l0 (by rfl) (hM.fact 6 (by omega) l0)
          go_simp
          refine (theirs_any A c p hs w2 hr2 (by omega)).mono ?_
          rintro e w3 ⟨v1, rfl, ho1, hb1⟩
          obtain ⟨A1, c1, rfl, hc1, hR1⟩ := own_sliceI ho1
          exact hK _ w3 hb1 ⟨A1, c1, rfl, hc1, hR1⟩
        | 8, _ =>
          injection ho with ho
          subst ho
          go_simp
          exact hK _ _ (below_new _ _) ⟨rfl, by simp, heap_alloc_new _ _⟩
        | 9, _ =>
          injection ho with ho
          subst ho
          go_simp
          exact hK _ _ (below_new _ _) ⟨rfl, by simp, heap_alloc_new _ _⟩
      · intro vals lo hi w2 hM hb
        obtain ⟨g9, g10, A1, c1, A2, c2, B1, d1', B2, d2', e0, e1, e2, e3, e4, e5, e6, e7, e8, e9, MM, RR⟩ := giv_mid rfl (by decide) hM hb
        have d0 := hb.at_ r0 k0
        have d1 := hb.at_ r0 k1
        have HT := Lib.hid (two_fin bw MM)
        have HRR := Lib.hid RR
        have a0 := MM.a0
        have a1 := MM.a1
        have a2 := MM.a2
        have a3 := MM.a3
        have b0 := MM.b0
        have b1 := MM.b1
        have b2 := MM.b2
        have b3 := MM.b3
        have n1 := MM.ne
        have n2 : ¬ g10 = g9 := fun h => n1 h.symm
        have n3 := MM.ge.1
        have n4 := MM.ge.2.2.1
        have n5 : ¬ w.heap.size = g9 := by omega
        have n6 : ¬ w.heap.size = g10 := by omega
        clear MM hM RR
        simp only [putAll, List.range, List.range.loop, List.foldl_cons, List.foldl_nil, e0, e1, e2, e3, e4, e5, e6, e7, e8, e9]
        clear e0 e1 e2 e3 e4 e5 e6 e7 e8 e9
        generalize hact : Act.put _ _ _ = act
        simp (maxSteps := 20000) [dstOf, Act.put] at hact
        subst hact
        refine tail_step 10 _ (by kernel_rfl) rfl rfl (fun K' hK => ?_)
        go_simp
        refine hK _ _ ?_
        clear hK K'
        refine tail_step 11 _ (by kernel_rfl) rfl rfl (fun K' hK => ?_)
        go_simp
        refine hK _ _ ?_
        clear hK K'
        refine tail_step 12 _ (by kernel_rfl) rfl rfl (fun K' hK => ?_)
        go_simp
        refine hK _ _ ?_
        clear hK K'
        refine tail_step 13 _ (by kernel_rfl) rfl rfl (fun K' hK => ?_)
        go_simp
        refine hK _ _ ?_
        clear hK K'
        refine wpAny_done (by kernel_rfl) ?_ _
        go_wp2_with fail
        go_meet
        case rel =>
          obtain ⟨R1, R2⟩ := HRR.out ((((w2.setCell ⟨g9, 0, none⟩ (.int .i64 p)).setCell ⟨g9, 1, none⟩ (.slice A1 hs.length c1)).setCell ⟨g10, 0, none⟩ (.int .i64 p)).setCell ⟨g10, 1, none⟩ (.slice A2 hs.length c2)) (by simp [World.setCell]) (fun b m1 m2 => by rw [heap_far m2, heap_far m2, heap_far m1, heap_far m1])
          refine ⟨HT.out, ?_, ?_, B1, d1', B2, d2', rfl, rfl, R1, R2⟩
          · rw [cell_far n6, cell_far n6, cell_far n5, cell_far n5]; exact d0
          · rw [cell_far n6, cell_far n6, cell_far n5, cell_far n5]; exact d1
    case rest =>
      obtain ⟨⟨g9, g10, A1, c1, A2, c2, rfl, rfl, n1, n2, n3, n4, x0, x1, y0, y1, _, _, hR1, hR2, hbw⟩, d0, d1, B1, d1', B2, d2', rfl, rfl, hB1, hB2⟩ := hcut
      have nz : w.heap.size < wc.heap.size := by omega
      have HS1 : Hid (SB w wc g9 g10 A A1 A2 c c1 c2 p hs) := ⟨d0, d1, x0, x1, y0, y1, nz, n2, n4, hr.next hbw, hR1, hR2, hbw⟩
      have HB1 := Lib.hid hB1
      have HB2 := Lib.hid hB2
      have HL := Lib.hid (hq.next hbw)
      have HM := Lib.hid (hm.next hbw)
      clear n1 n3 hR1 hR2 hbw hr hc hB1 hB2 d0 d1 x0 x1 y0 y1 nz n2 n4
      obtain ⟨d0, d1, x0, x1, y0, y1, nz, n2, n4, _, _, _, _⟩ := HS1.out
      go_wp2_with fail
      refine (Outbids_any A1 c1 p hs B1 d1' qs _ HS1.out.r1 (by omega) HB1.out (by omega)).mono ?_
      rintro e w1 ⟨v, rfl, ho, hb1⟩
      have HS2 := Lib.hid (HS1.out.next hb1)
      have HB1 := Lib.hid (HB1.out.next hb1)
      have HB2 := Lib.hid (HB2.out.next hb1)
      have HL := Lib.hid (HL.out.next hb1)
      have HM := Lib.hid (HM.out.next hb1)
      obtain ⟨O1, k1, rfl, _, hO1⟩ := own_slice ho
      have HO1 := Lib.hid hO1
      clear ho hO1
      clear HS1 d0 d1 x0 x1 y0 y1 nz n2 n4 hb1
      obtain ⟨d0, d1, x0, x1, y0, y1, nz, n2, n4, _, _, _, _⟩ := HS2.out
      go_wp2_with fail
      refine (refOutbids_any A2 c2 p hs L cl qs w1 HS2.out.r2 (by omega) HL.out (by omega)).mono ?_
      rintro e w2 ⟨v, rfl, ho, hb2⟩
      have HS3 := Lib.hid (HS2.out.next hb2)
      have HB1 := Lib.hid (HB1.out.next hb2)
      have HB2 := Lib.hid (HB2.out.next hb2)
      have HL := Lib.hid (HL.out.next hb2)
      have HM := Lib.hid (HM.out.next hb2)
      have HO1 := Lib.hid (HO1.out.next hb2)
      obtain ⟨O2, k2, rfl, _, hO2⟩ := own_slice ho
      have HO2 := Lib.hid hO2
      clear ho hO2
      clear HS2 d0 d1 x0 x1 y0 y1 nz n2 n4 hb2
      obtain ⟨d0, d1, x0, x1, y0, y1, nz, n2, n4, _, _, _, _⟩ := HS3.out
      go_wp2_with fail
      clear d0 d1 x0 x1 y0 y1 nz n2 n4
      go_loopw [17, 69] (fun _ iv wr => ∃ i : Nat, iv = .int .i64 i ∧ i ≤ (outL p hs qs).length ∧ Hid (Below w2.heap.size w2 wr)) (fun _ iv _ => (outL p hs qs).length - (intOf iv).toNat)
      case atStart => exact ⟨0, rfl, Nat.zero_le _, Below.refl _ _⟩
      case round =>
        obtain ⟨i, rfl, hi, HX⟩ := hrel
        by_cases hil : i < (outL p hs qs).length
        · obtain ⟨b1, o1, rfl, hb1, e1, e2⟩ := (HO1.out.below HX.out).pair (t := outL p hs qs) hil
          obtain ⟨b2, o2, rfl, hb2, e3, e4⟩ := (HO2.out.below HX.out).pair (t := outL p hs qs) hil
          have hb1' := Nat.lt_of_lt_of_le hb1 HX.out.size
          have hb2' := Nat.lt_of_lt_of_le hb2 HX.out.size
          have hiz : (i : Int) < (outL p hs qs).length := by omega
          have hlo := HLO.out
          have hi0 : (0 : Int) ≤ (i : Int) := by omega
          go_wp2_with fail
          go_quiet (fail)
          go_wp2_with fail
          go_roundw
          case rel => exact ⟨i + 1, by go_num, hil, below_drewN HX.out _⟩
          case measure => simp [intOf]; omega
        · obtain rfl : i = (outL p hs qs).length := by omega
          have HS4 := Lib.hid (HS3.out.next HX.out)
          have HB1 := Lib.hid (HB1.out.next HX.out)
          have HB2 := Lib.hid (HB2.out.next HX.out)
          have HL := Lib.hid (HL.out.next HX.out)
          have HM := Lib.hid (HM.out.next HX.out)
          clear HS3 HX HO1 HO2 hil hi
          obtain ⟨w3, hw3⟩ : ∃ x, x = wr := ⟨_, rfl⟩
          subst hw3
          obtain ⟨d0, d1, x0, x1, y0, y1, nz, n2, n4, _, _, _, _⟩ := HS4.out
          go_wp2_with fail
          refine (Refunds_any A1 c1 p hs B1 d1' qs B2 d2' ls days w3 HS4.out.r1 (by omega) HB1.out (by omega) HB2.out (by omega)).mono ?_
          rintro e w4 ⟨R1, k3, rfl, hR1, hb4⟩
          have HS5 := Lib.hid (HS4.out.next hb4)
          have HB1 := Lib.hid (HB1.out.next hb4)
          have HB2 := Lib.hid (HB2.out.next hb4)
          have HL := Lib.hid (HL.out.next hb4)
          have HM := Lib.hid (HM.out.next hb4)
          have HR1 := Lib.hid hR1
          clear hR1
          clear HS4 d0 d1 x0 x1 y0 y1 nz n2 n4 hb4
          obtain ⟨d0, d1, x0, x1, y0, y1, nz, n2, n4, _, _, _, _⟩ := HS5.out
          go_wp2_with fail
          refine (refRefunds_any A2 c2 p hs L cl qs M cm ls days w4 HS5.out.r2 (by omega) HL.out (by omega) HM.out (by omega)).mono ?_
          rintro e w5 ⟨R2, k4, rfl, hR2, hb5⟩
          have HS6 := Lib.hid (HS5.out.next hb5)
          have HB1 := Lib.hid (HB1.out.next hb5)
          have HB2 := Lib.hid (HB2.out.next hb5)
          have HL := Lib.hid (HL.out.next hb5)
          have HM := Lib.hid (HM.out.next hb5)
          have HR1 := Lib.hid (HR1.out.next hb5)
          have HR2 := Lib.hid hR2
          clear hR2
          clear HS5 d0 d1 x0 x1 y0 y1 nz n2 n4 hb5
          obtain ⟨d0, d1, x0, x1, y0, y1, nz, n2, n4, _, _, _, _⟩ := HS6.out
          go_wp2_with fail
          refine (alikeInt_any R1 R2 k3 k4 _ _ w5 HR1.out HR2.out HLR.out).mono ?_
          rintro e w6 ⟨rfl, hb6⟩
          have HS7 := Lib.hid (HS6.out.next hb6)
          have HB1 := Lib.hid (HB1.out.next hb6)
          have HB2 := Lib.hid (HB2.out.next hb6)
          have HL := Lib.hid (HL.out.next hb6)
          have HM := Lib.hid (HM.out.next hb6)
          rw [decide_eq_true rfl]
          clear HS6 d0 d1 x0 x1 y0 y1 nz n2 n4 hb6
          obtain ⟨d0, d1, x0, x1, y0, y1, nz, n2, n4, _, _, _, _⟩ := HS7.out
          go_wp2_with fail
          refine (same_any A1 A c1 c p p hs hs w6 HS7.out.r1 HS7.out.r0 (by omega)).mono ?_
          rintro e w7 ⟨rfl, hb7⟩
          have HS8 := Lib.hid (HS7.out.next hb7)
          have HB1 := Lib.hid (HB1.out.next hb7)
          have HB2 := Lib.hid (HB2.out.next hb7)
          have HL := Lib.hid (HL.out.next hb7)
          have HM := Lib.hid (HM.out.next hb7)
          rw [decide_eq_true rfl, decide_eq_true rfl]
          clear HS7 d0 d1 x0 x1 y0 y1 nz n2 n4 hb7
          obtain ⟨d0, d1, x0, x1, y0, y1, nz, n2, n4, _, _, _, _⟩ := HS8.out
          go_wp2_with fail
          refine (alikeInt_any B1 L d1' cl qs qs w7 HB1.out HL.out (by omega)).mono ?_
          rintro e w8 ⟨rfl, hb8⟩
          have HS9 := Lib.hid (HS8.out.next hb8)
          have HB1 := Lib.hid (HB1.out.next hb8)
          have HB2 := Lib.hid (HB2.out.next hb8)
          have HL := Lib.hid (HL.out.next hb8)
          have HM := Lib.hid (HM.out.next hb8)
          rw [decide_eq_true rfl]
          clear HS8 d0 d1 x0 x1 y0 y1 nz n2 n4 hb8
          obtain ⟨d0, d1, x0, x1, y0, y1, nz, n2, n4, _, _, _, _⟩ := HS9.out
          go_wp2_with fail
          refine (alikeInt_any B2 M d2' cm ls ls w8 HB2.out HM.out (by omega)).mono ?_
          rintro e w9 ⟨rfl, hb9⟩
          have HS10 := Lib.hid (HS9.out.next hb9)
          have HB1 := Lib.hid (HB1.out.next hb9)
          have HB2 := Lib.hid (HB2.out.next hb9)
          have HL := Lib.hid (HL.out.next hb9)
          have HM := Lib.hid (HM.out.next hb9)
          rw [decide_eq_true rfl]
          clear HS9 d0 d1 x0 x1 y0 y1 nz n2 n4 hb9
          go_wp2_with fail
          refine (awake_any w9).mono ?_
          rintro e w11 ⟨rfl, hb11⟩
          go_wp2_with fail
          go_ret
          exact ⟨rfl, HS10.out.bw.trans (hb11.mono HS10.out.bw.size)⟩
end Go.Proofs.YtfojjecnmfkcfaaGreat
