/- FeeAccounts returns true, whatever the account and the day; what is passed in reads as it did. No condition. -/
import Derived.Test.YtfojjecnmfkcfaaGreatLawShares
import Derived.Test.YtfojjecnmfkcfaaGreatP28
import Derived.Test.YtfojjecnmfkcfaaGreatP27
import Derived.Test.YtfojjecnmfkcfaaGreatOpenA
import Derived.Deep.DeepCutAuto
namespace Go.Proofs.YtfojjecnmfkcfaaGreat
open Go.ChangeShapes Go.WideShapes Go.ChangeAt Go.RowKit Go.Joins
set_option linter.unusedVariables false
set_option maxRecDepth 100000 in
set_option maxHeartbeats 8000000 in
theorem feeAccounts_walk (A : Option Addr) (c : Nat) (B : Option Addr) (d : Nat) (cs ps : List (Int × Int)) (g l day : Int) (w : World) (hA : Came w A cs.length c (pairs cs)) (hB : Came w B ps.length d (pairs ps)) :
    Calls Tryz.prog 9 #[.agg #[.slice A cs.length c, .slice B ps.length d, .int .i64 g, .int .i64 l], .int .i64 day] w fun e w' => e = .returned (.bool true) ∧ Below w.heap.size w w' := by
  obtain ⟨_, hr⟩ := hA
  obtain ⟨_, hq⟩ := hB
  by_cases h8 : 10 < cs.length ∨ (cs.length ≤ 10 ∧ 10 < ps.length)
  · have hcs : (10 : Int) < cs.length ∨ (¬ (10 : Int) < cs.length ∧ (10 : Int) < ps.length) := by omega
    clear h8
    rcases hcs with h1 | ⟨h1, h2⟩
    all_goals
      go_enter Tryz.func9, Tryz.ntmps9
      go_wp2_with fail
      refine (awake_any _).mono ?_
      rintro e w1 ⟨rfl, hb⟩
      go_wp2_with fail
      go_ret
      exact ⟨rfl, Below.trans (by go_grown) (hb.mono (by simp))⟩
  · obtain ⟨h1, h2⟩ : cs.length ≤ 10 ∧ ps.length ≤ 10 := by omega
    have h1' : ¬ (10 : Int) < cs.length := by omega
    have h2' : ¬ (10 : Int) < ps.length := by omega
    clear h8
    have HLP : Hid ((paidR cs ps g l).length ≤ 100000) := by show _ ≤ _; unfold paidR; split; (unfold paidL; rw [paidK_length]; omega); simp
    have HLR : Hid ((restR cs ps g l day).length ≤ 100000) := by show _ ≤ _; unfold restR; split; (rw [restK_length]; omega); simp
    have HLL : Hid ((lateL cs ps g l day).length ≤ 100000) := by
      show _ ≤ _
      unfold lateL
      split
      · unfold lateK
        rw [List.length_map]
        have := List.length_filter_le (lateB cs ps g day) (List.range cs.length)
        rw [List.length_range] at this
        omega
      · simp
    go_enter Tryz.func9, Tryz.ntmps9
    go_upto_region 3 with fail
    go_cut [5, 6] (fun s5 s6 wx => TwAcc w wx A B c d cs ps g l s5 s6)
    case first =>
      obtain ⟨W1, hW1⟩ : ∃ x, x = w.alloc (.cells #[.slice A cs.length c, .slice B ps.length d, .int .i64 g, .int .i64 l] 31) := ⟨_, rfl⟩
      rw [← hW1]
      have k1 : CA4 W1 w.heap.size (.slice A cs.length c) (.slice B ps.length d) (.int .i64 g) (.int .i64 l) := by rw [hW1]; constructor <;> simp
      have bw : Below w.heap.size w W1 := by rw [hW1]; go_grown
      have r0 : w.heap.size < W1.heap.size := by rw [hW1]; simp
      have hr1 := hr.next bw
      have hq1 := hq.next bw
      clear hW1
      refine wp_makers 6 (by kernel_rfl) (by kernel_rfl) (by kernel_rfl) (by decide) (FTwA (.agg #[.slice A cs.length c, .slice B ps.length d, .int .i64 g, .int .i64 l]) cs ps g l 31 85) FTwA.keep ?_ ?_
      · intro i o hi ho listed vals lo hi' a w2 hdep hM hb hB hAt K hK
        obtain ⟨d0, d1, d2, d3⟩ := k1.next r0 hb
        have r2 : w.heap.size < w2.heap.size := Nat.lt_of_lt_of_le r0 hb.size
        have hr2 := (hr1.below hb).more hB
        have hq2 := (hq1.below hb).more hB
        obtain ⟨e1, e1'⟩ := hAt.slot 2 (by kernel_rfl) (by rfl)
        match i, hi with
        | 0, _ =>
          injection ho with ho
          subst ho
          go_simp
          exact hK _ w2 (Below.refl _ _) rfl
        | 1, _ =>
          injection ho with ho
          subst ho
          have l0 := hdep ⟨0, .data⟩ (by simp) rfl
          obtain ⟨e5, e5'⟩ := hAt.dep 0 (d := 26) (by omega) l0 (by rfl) (hM.fact 0 (by omega) l0)
          go_simp
          refine (ownAccR_any A B c d cs ps g l w2 hr2 hq2 (by omega) (by omega)).mono ?_
          rintro e w3 ⟨v1, u1, rfl, ho1, ho2, _, hb1⟩
          exact hK _ w3 hb1 (accO_of ho1 ho2)
        | 2, _ =>
          injection ho with ho
          subst ho
          go_simp
          exact hK _ w2 (Below.refl _ _) rfl
        | 3, _ =>
          injection ho with ho
          subst ho
          have l0 := hdep ⟨2, .data⟩ (by simp) rfl
          obtain ⟨e5, e5'⟩ := hAt.dep 2 (d := 28) (by omega) l0 (by rfl) (hM.fact 2 (by omega) l0)
          go_simp
          refine (kept_any A B c d cs ps g l w2 hr2 hq2 (by omega) (by omega)).mono ?_
          rintro e w3 ⟨A1, c1, B1, d1, rfl, hR1, hR2, hb1⟩
          exact hK _ w3 hb1 ⟨A1, c1, B1, d1, rfl, hR1, hR2⟩
        | 4, _ =>
          injection ho with ho
          subst ho
          go_simp
          exact hK _ _ (below_new _ _) ⟨rfl, by simp, heap_alloc_new _ _⟩
        | 5, _ =>
          injection ho with ho
          subst ho
          go_simp
          exact hK _ _ (below_new _ _) ⟨rfl, by simp, heap_alloc_new _ _⟩
      · intro vals lo hi w2 hM hb
        obtain ⟨g9, g10, A1, c1, B1, d1, A2, c2, B2, d2, e0, e1, e2, e3, e4, e5, n1, n3, n4, m1, m2, z1, z2, hS⟩ := twa_mid rfl (by decide) hM hb bw r0 k1 hr hq
        have HT := Lib.hid hS
        obtain ⟨a0, a1, a2, a3⟩ := m1
        obtain ⟨b0, b1, b2, b3⟩ := m2
        have n2 : ¬ g10 = g9 := fun h => n1 h.symm
        clear hM hS
        simp only [putAll, List.range, List.range.loop, List.foldl_cons, List.foldl_nil, e0, e1, e2, e3, e4, e5, accA]
        clear e0 e1 e2 e3 e4 e5
        generalize hact : Act.put _ _ _ = act
        simp (maxSteps := 20000) [dstOf, Act.put] at hact
        subst hact
        refine tail_step 6 _ (by kernel_rfl) rfl rfl (fun K' hK => ?_)
        go_simp
        refine hK _ _ ?_
        clear hK K'
        refine tail_step 7 _ (by kernel_rfl) rfl rfl (fun K' hK => ?_)
        go_simp
        refine hK _ _ ?_
        clear hK K'
        refine wpAny_done (by kernel_rfl) ?_ _
        go_wp2_with fail
        go_meet
        case rel => exact ⟨g9, g10, A1, c1, B1, d1, A2, c2, B2, d2, rfl, rfl, HT.out⟩
    case rest =>
      obtain ⟨g1, g2, A1, c1, B1, d1, A2, c2, B2, d2, rfl, rfl, hS⟩ := hcut
      have HS := Lib.hid hS
      obtain ⟨dd, x, y, nz, n2, n4, _, _, _, _, _, _, _⟩ := HS.out
      clear hS hr hq
      go_upto_region 4 with fail
      refine wp_inv 5 (by kernel_rfl) (by kernel_rfl) (by kernel_rfl) (by decide) (FL [PEq (.agg #[.slice A1 cs.length c1, .slice B1 ps.length d1, .int .i64 g, .int .i64 l]), PEq (.int .i64 (ckAcc cs ps g l)), PEq (.agg #[.slice A2 cs.length c2, .slice B2 ps.length d2, .int .i64 g, .int .i64 l]), PEq (.int .i64 (ckAcc cs ps g l)), PEq (.bool false)])
        (fun x => Below wc.heap.size wc x) (fun x y => Below x.heap.size x y) (FL.keepB (by simp [stbB_eq])) (below_drew wc) ?_ ?_
      · intro i o hi' ho listed vals a w5 hdep hM hAt K hK
        have HI := Lib.hid hM.inv
        match i, hi' with
        | 0, _ =>
          injection ho with ho
          subst ho
          obtain ⟨e5, e5'⟩ := hAt.slot 5 (by kernel_rfl) (by rfl)
          have k := CA4.next x n2 HI.out
          obtain ⟨c0, c1, c2, c3⟩ := k
          have nn := Nat.lt_of_lt_of_le n2 HI.out.size
          go_simp
          exact hK _ w5 (Below.refl _ _) HI.out rfl
        | 1, _ =>
          injection ho with ho
          subst ho
          have l0 := hdep ⟨0, .data⟩ (by simp) rfl
          obtain ⟨x0, x0'⟩ := hAt.dep 0 (d := 30) (by omega) l0 (by rfl) (hM.fact 0 (by omega) l0)
          go_simp
          refine (CheckAccount_any A1 B1 c1 d1 cs ps g l w5 (HS.out.r1.next HI.out) (HS.out.q1.next HI.out) (by omega) (by omega)).mono ?_
          rintro e w6 ⟨rfl, hb6⟩
          exact hK _ w6 hb6 (HI.out.trans (hb6.mono HI.out.size)) rfl
        | 2, _ =>
          injection ho with ho
          subst ho
          obtain ⟨e6, e6'⟩ := hAt.slot 6 (by kernel_rfl) (by rfl)
          have k := CA4.next y n4 HI.out
          obtain ⟨c0, c1, c2, c3⟩ := k
          have nn := Nat.lt_of_lt_of_le n4 HI.out.size
          go_simp
          exact hK _ w5 (Below.refl _ _) HI.out rfl
        | 3, _ =>
          injection ho with ho
          subst ho
          have l2 := hdep ⟨2, .data⟩ (by simp) rfl
          obtain ⟨x2, x2'⟩ := hAt.dep 2 (d := 32) (by omega) l2 (by rfl) (hM.fact 2 (by omega) l2)
          go_simp
          refine (rCheckAcc_any A2 B2 c2 d2 cs ps g l w5 (HS.out.r2.next HI.out) (HS.out.q2.next HI.out) (by omega) (by omega)).mono ?_
          rintro e w6 ⟨rfl, hb6⟩
          exact hK _ w6 hb6 (HI.out.trans (hb6.mono HI.out.size)) rfl
        | 4, _ =>
          injection ho with ho
          subst ho
          have l1 := hdep ⟨1, .data⟩ (by simp) rfl
          obtain ⟨x1, x1'⟩ := hAt.dep 1 (d := 31) (by omega) l1 (by rfl) (hM.fact 1 (by omega) l1)
          have l3 := hdep ⟨3, .data⟩ (by simp) rfl
          obtain ⟨x3, x3'⟩ := hAt.dep 3 (d := 33) (by omega) l3 (by rfl) (hM.fact 3 (by omega) l3)
          go_simp
          exact hK _ w5 (Below.refl _ _) HI.out (by simp [PEq, FL])
      · intro vals w5 hM
        have HI := Lib.hid hM.inv
        have f0 : vals 0 = .agg #[.slice A1 cs.length c1, .slice B1 ps.length d1, .int .i64 g, .int .i64 l] := hM.all (by decide) 0 (by omega)
        have f1 : vals 1 = .int .i64 (ckAcc cs ps g l) := hM.all (by decide) 1 (by omega)
        have f2 : vals 2 = .agg #[.slice A2 cs.length c2, .slice B2 ps.length d2, .int .i64 g, .int .i64 l] := hM.all (by decide) 2 (by omega)
        have f3 : vals 3 = .int .i64 (ckAcc cs ps g l) := hM.all (by decide) 3 (by omega)
        have f4 : vals 4 = .bool false := hM.all (by decide) 4 (by omega)
        clear hM
        simp only [putAll, List.range, List.range.loop, List.foldl_cons, List.foldl_nil, f0, f1, f2, f3, f4]
        clear f0 f1 f2 f3 f4
        change wpAny _ _ _ _ _ _ (Act.put (Act.put (Act.put (Act.put (Act.put _ (some 30) _) (some 31) _) (some 32) _) (some 33) _) (some 34) _) _
        simp only [Act.put, List.setIfInBounds_toArray, List.set_cons_zero, List.set_cons_succ]
        have HS1 := Lib.hid (HS.out.next HI.out)
        clear HI HS dd x y nz n2 n4
        refine wpAny_done (by kernel_rfl) ?_ _
        obtain ⟨⟨p0, p1, p2, p3⟩, ⟨x0, x1, x2, x3⟩, ⟨y0, y1, y2, y3⟩, nz, n2, n4, _, _, _, _, _, _, _⟩ := HS1.out
        go_wp2_with fail
        refine (show Calls _ _ #[.agg #[.slice A1 cs.length c1, .slice B1 ps.length d1, .int .i64 g, .int .i64 l]] _ _ from Paid_any A1 B1 c1 d1 cs ps g l _ HS1.out.r1 HS1.out.q1 (by omega) (by omega)).mono ?_
        rintro e w1 ⟨v, rfl, ho, hb1⟩
        have HS2 := Lib.hid (HS1.out.next hb1)
        obtain ⟨R1, k1, rfl, _, hR1⟩ := own_slice ho
        have HR1 := Lib.hid hR1
        clear ho hR1
        clear HS1 p0 p1 p2 p3 x0 x1 x2 x3 y0 y1 y2 y3 nz n2 n4 hb1
        obtain ⟨⟨p0, p1, p2, p3⟩, ⟨x0, x1, x2, x3⟩, ⟨y0, y1, y2, y3⟩, nz, n2, n4, _, _, _, _, _, _, _⟩ := HS2.out
        go_wp2_with fail
        refine (rPaid_any A2 B2 c2 d2 cs ps g l w1 HS2.out.r2 HS2.out.q2 (by omega) (by omega)).mono ?_
        rintro e w2 ⟨R2, k2, rfl, hR2, hb2⟩
        have HS3 := Lib.hid (HS2.out.next hb2)
        have HR1 := Lib.hid (HR1.out.next hb2)
        have HR2 := Lib.hid hR2
        clear hR2
        clear HS2 p0 p1 p2 p3 x0 x1 x2 x3 y0 y1 y2 y3 nz n2 n4 hb2
        obtain ⟨⟨p0, p1, p2, p3⟩, ⟨x0, x1, x2, x3⟩, ⟨y0, y1, y2, y3⟩, nz, n2, n4, _, _, _, _, _, _, _⟩ := HS3.out
        go_wp2_with fail
        refine (alikeInt_any R1 R2 k1 k2 _ _ w2 HR1.out HR2.out HLP.out).mono ?_
        rintro e w3 ⟨rfl, hb3⟩
        have HS4 := Lib.hid (HS3.out.next hb3)
        rw [decide_eq_true rfl]
        clear HS3 p0 p1 p2 p3 x0 x1 x2 x3 y0 y1 y2 y3 nz n2 n4 hb3
        obtain ⟨⟨p0, p1, p2, p3⟩, ⟨x0, x1, x2, x3⟩, ⟨y0, y1, y2, y3⟩, nz, n2, n4, _, _, _, _, _, _, _⟩ := HS4.out
        go_wp2_with fail
        refine (show Calls _ _ #[.agg #[.slice A1 cs.length c1, .slice B1 ps.length d1, .int .i64 g, .int .i64 l], .int .i64 day] _ _ from Rests_any A1 B1 c1 d1 cs ps g l day w3 HS4.out.r1 HS4.out.q1 (by omega) (by omega)).mono ?_
        rintro e w4 ⟨v, rfl, ho, hb4⟩
        have HS5 := Lib.hid (HS4.out.next hb4)
        obtain ⟨R3, k3, rfl, _, hR3⟩ := own_slice ho
        have HR3 := Lib.hid hR3
        clear ho hR3
        clear HS4 p0 p1 p2 p3 x0 x1 x2 x3 y0 y1 y2 y3 nz n2 n4 hb4
        obtain ⟨⟨p0, p1, p2, p3⟩, ⟨x0, x1, x2, x3⟩, ⟨y0, y1, y2, y3⟩, nz, n2, n4, _, _, _, _, _, _, _⟩ := HS5.out
        go_wp2_with fail
        refine (rRests_any A2 B2 c2 d2 cs ps g l day w4 HS5.out.r2 HS5.out.q2 (by omega) (by omega)).mono ?_
        rintro e w5 ⟨R4, k4, rfl, hR4, hb5⟩
        have HS6 := Lib.hid (HS5.out.next hb5)
        have HR3 := Lib.hid (HR3.out.next hb5)
        have HR4 := Lib.hid hR4
        clear hR4
        clear HS5 p0 p1 p2 p3 x0 x1 x2 x3 y0 y1 y2 y3 nz n2 n4 hb5
        obtain ⟨⟨p0, p1, p2, p3⟩, ⟨x0, x1, x2, x3⟩, ⟨y0, y1, y2, y3⟩, nz, n2, n4, _, _, _, _, _, _, _⟩ := HS6.out
        go_wp2_with fail
        refine (alikeInt_any R3 R4 k3 k4 _ _ w5 HR3.out HR4.out HLR.out).mono ?_
        rintro e w6 ⟨rfl, hb6⟩
        have HS7 := Lib.hid (HS6.out.next hb6)
        rw [decide_eq_true rfl]
        clear HS6 p0 p1 p2 p3 x0 x1 x2 x3 y0 y1 y2 y3 nz n2 n4 hb6
        obtain ⟨⟨p0, p1, p2, p3⟩, ⟨x0, x1, x2, x3⟩, ⟨y0, y1, y2, y3⟩, nz, n2, n4, _, _, _, _, _, _, _⟩ := HS7.out
        go_wp2_with fail
        refine (show Calls _ _ #[.agg #[.slice A1 cs.length c1, .slice B1 ps.length d1, .int .i64 g, .int .i64 l], .int .i64 day] _ _ from Owing_any A1 B1 c1 d1 cs ps g l day w6 HS7.out.r1 HS7.out.q1 (by omega) (by omega)).mono ?_
        rintro e w7 ⟨rfl, hb7⟩
        have HS8 := Lib.hid (HS7.out.next hb7)
        clear HS7 p0 p1 p2 p3 x0 x1 x2 x3 y0 y1 y2 y3 nz n2 n4 hb7
        obtain ⟨⟨p0, p1, p2, p3⟩, ⟨x0, x1, x2, x3⟩, ⟨y0, y1, y2, y3⟩, nz, n2, n4, _, _, _, _, _, _, _⟩ := HS8.out
        go_wp2_with fail
        refine (rOwing_any A2 B2 c2 d2 cs ps g l day w7 HS8.out.r2 HS8.out.q2 (by omega) (by omega)).mono ?_
        rintro e w8 ⟨rfl, hb8⟩
        have HS9 := Lib.hid (HS8.out.next hb8)
        clear HS8 p0 p1 p2 p3 x0 x1 x2 x3 y0 y1 y2 y3 nz n2 n4 hb8
        obtain ⟨⟨p0, p1, p2, p3⟩, ⟨x0, x1, x2, x3⟩, ⟨y0, y1, y2, y3⟩, nz, n2, n4, _, _, _, _, _, _, _⟩ := HS9.out
        go_wp2_with fail
        refine (show Calls _ _ #[.agg #[.slice A1 cs.length c1, .slice B1 ps.length d1, .int .i64 g, .int .i64 l], .int .i64 day] _ _ from Late_any A1 B1 c1 d1 cs ps g l day w8 HS9.out.r1 HS9.out.q1 (by omega) (by omega)).mono ?_
        rintro e w9 ⟨v, rfl, ho, hb9⟩
        have HS10 := Lib.hid (HS9.out.next hb9)
        obtain ⟨R5, k5, rfl, _, hR5⟩ := own_slice ho
        have HR5 := Lib.hid hR5
        clear ho hR5
        clear HS9 p0 p1 p2 p3 x0 x1 x2 x3 y0 y1 y2 y3 nz n2 n4 hb9
        obtain ⟨⟨p0, p1, p2, p3⟩, ⟨x0, x1, x2, x3⟩, ⟨y0, y1, y2, y3⟩, nz, n2, n4, _, _, _, _, _, _, _⟩ := HS10.out
        go_wp2_with fail
        refine (rLate_any A2 B2 c2 d2 cs ps g l day w9 HS10.out.r2 HS10.out.q2 (by omega) (by omega)).mono ?_
        rintro e w10 ⟨R6, k6, rfl, hR6, hb10⟩
        have HS11 := Lib.hid (HS10.out.next hb10)
        have HR5 := Lib.hid (HR5.out.next hb10)
        have HR6 := Lib.hid hR6
        clear hR6
        clear HS10 p0 p1 p2 p3 x0 x1 x2 x3 y0 y1 y2 y3 nz n2 n4 hb10
        obtain ⟨⟨p0, p1, p2, p3⟩, ⟨x0, x1, x2, x3⟩, ⟨y0, y1, y2, y3⟩, nz, n2, n4, _, _, _, _, _, _, _⟩ := HS11.out
        go_wp2_with fail
        refine (alikeInt_any R5 R6 k5 k6 _ _ w10 HR5.out HR6.out HLL.out).mono ?_
        rintro e w11 ⟨rfl, hb11⟩
        have HS12 := Lib.hid (HS11.out.next hb11)
        rw [decide_eq_true rfl]
        clear HS11 p0 p1 p2 p3 x0 x1 x2 x3 y0 y1 y2 y3 nz n2 n4 hb11
        obtain ⟨⟨p0, p1, p2, p3⟩, ⟨x0, x1, x2, x3⟩, ⟨y0, y1, y2, y3⟩, nz, n2, n4, _, _, _, _, _, _, _⟩ := HS12.out
        go_wp2_with fail
        refine (show Calls _ _ #[.agg #[.slice A1 cs.length c1, .slice B1 ps.length d1, .int .i64 g, .int .i64 l], .int .i64 day] _ _ from Due_any A1 B1 c1 d1 cs ps g l day w11 HS12.out.r1 HS12.out.q1 (by omega) (by omega)).mono ?_
        rintro e w12 ⟨rfl, hb12⟩
        have HS13 := Lib.hid (HS12.out.next hb12)
        clear HS12 p0 p1 p2 p3 x0 x1 x2 x3 y0 y1 y2 y3 nz n2 n4 hb12
        obtain ⟨⟨p0, p1, p2, p3⟩, ⟨x0, x1, x2, x3⟩, ⟨y0, y1, y2, y3⟩, nz, n2, n4, _, _, _, _, _, _, _⟩ := HS13.out
        go_wp2_with fail
        refine (rDue_any A2 B2 c2 d2 cs ps g l day w12 HS13.out.r2 HS13.out.q2 (by omega) (by omega)).mono ?_
        rintro e w13 ⟨rfl, hb13⟩
        have HS14 := Lib.hid (HS13.out.next hb13)
        clear HS13 p0 p1 p2 p3 x0 x1 x2 x3 y0 y1 y2 y3 nz n2 n4 hb13
        obtain ⟨⟨p0, p1, p2, p3⟩, ⟨x0, x1, x2, x3⟩, ⟨y0, y1, y2, y3⟩, nz, n2, n4, _, _, _, _, _, _, _⟩ := HS14.out
        go_wp2_with fail
        refine (alikeAcc_any A1 B1 A B c1 d1 c d cs ps g l w13 HS14.out.r1.rd HS14.out.q1.rd HS14.out.r0 HS14.out.q0 (by omega) (by omega)).mono ?_
        rintro e w14 ⟨rfl, hb14⟩
        have HS15 := Lib.hid (HS14.out.next hb14)
        clear HS14 p0 p1 p2 p3 x0 x1 x2 x3 y0 y1 y2 y3 nz n2 n4 hb14
        go_wp2_with fail
        refine (awake_any w14).mono ?_
        rintro e w15 ⟨rfl, hb15⟩
        go_wp2_with fail
        go_ret
        exact ⟨rfl, HS15.out.bw.trans (hb15.mono HS15.out.bw.size)⟩
end Go.Proofs.YtfojjecnmfkcfaaGreat
