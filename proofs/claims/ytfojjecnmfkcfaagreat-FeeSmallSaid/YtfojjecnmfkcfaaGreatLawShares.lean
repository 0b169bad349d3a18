/- FeeShares returns true, whatever the bill; what is passed in reads as it did. No condition. -/
import Derived.Test.YtfojjecnmfkcfaaGreatLawAppeals
import Derived.Test.YtfojjecnmfkcfaaGreatP25
import Derived.Deep.DeepCutAuto
namespace Go.Proofs.YtfojjecnmfkcfaaGreat
open Go.ChangeShapes Go.WideShapes Go.ChangeAt Go.RowKit Go.Joins
set_option linter.unusedVariables false
/-- A bill that came, its copy, and that of the reference. -/
structure SB (w wr : World) (g1 g2 : Nat) (A A1 A2 : Option Addr) (c c1 c2 : Nat) (p : Int) (hs : List (Int × Int × Int)) : Prop where
  d0 : wr.cell? ⟨w.heap.size, 0, none⟩ = some (.int .i64 p)
  d1 : wr.cell? ⟨w.heap.size, 1, none⟩ = some (.slice A hs.length c)
  x0 : wr.cell? ⟨g1, 0, none⟩ = some (.int .i64 p)
  x1 : wr.cell? ⟨g1, 1, none⟩ = some (.slice A1 hs.length c1)
  y0 : wr.cell? ⟨g2, 0, none⟩ = some (.int .i64 p)
  y1 : wr.cell? ⟨g2, 1, none⟩ = some (.slice A2 hs.length c2)
  nz : w.heap.size < wr.heap.size
  n2 : g1 < wr.heap.size
  n4 : g2 < wr.heap.size
  r0 : Rd wr wr.heap.size A (trips hs)
  r1 : Rd wr wr.heap.size A1 (trips hs)
  r2 : Rd wr wr.heap.size A2 (trips hs)
  bw : Below w.heap.size w wr
theorem SB.next {w wr w' : World} {g1 g2 : Nat} {A A1 A2 : Option Addr} {c c1 c2 : Nat} {p : Int} {hs : List (Int × Int × Int)} (h : SB w wr g1 g2 A A1 A2 c c1 c2 p hs) (hb : Below wr.heap.size wr w') : SB w w' g1 g2 A A1 A2 c c1 c2 p hs :=
  ⟨hb.at_ h.nz h.d0, hb.at_ h.nz h.d1, hb.at_ h.n2 h.x0, hb.at_ h.n2 h.x1, hb.at_ h.n4 h.y0, hb.at_ h.n4 h.y1, Nat.lt_of_lt_of_le h.nz hb.size, Nat.lt_of_lt_of_le h.n2 hb.size, Nat.lt_of_lt_of_le h.n4 hb.size, h.r0.next hb, h.r1.next hb, h.r2.next hb, h.bw.trans (hb.mono h.bw.size)⟩
theorem hidNext {P : World → Prop} {w w' : World} (h : P w') : Hid (P w') := h
set_option maxRecDepth 100000 in
set_option maxHeartbeats 4000000 in
theorem feeShares_walk (A : Option Addr) (c : Nat) (p : Int) (hs : List (Int × Int × Int)) (w : World) (hA : Came w A hs.length c (trips hs)) :
    Calls Tryz.prog 7 #[.agg #[.int .i64 p, .slice A hs.length c]] w fun e w' => e = .returned (.bool true) ∧ Below w.heap.size w w' := by
  obtain ⟨hc, hr⟩ := hA
  by_cases h8 : 8 < hs.length
  · have h8' : (8 : Int) < hs.length := by omega
    go_enter Tryz.func7, Tryz.ntmps7
    go_wp2_with fail
    refine (awake_any _).mono ?_
    rintro e w1 ⟨rfl, hb⟩
    go_wp2_with fail
    go_ret
    exact ⟨rfl, Below.trans (by go_grown) (hb.mono (by simp))⟩
  · have h8' : ¬ (8 : Int) < hs.length := by omega
    have HLE : Hid ((exactL p hs).length ≤ 100000) := by show _ ≤ _; unfold exactL; split; (rw [ratL_len]; omega); simp
    have HLS : Hid ((sharesL p hs).length ≤ 100000) := by show _ ≤ _; unfold sharesL; split; (rw [List.length_take]; omega); simp
    have HLB : Hid ((bidsL p hs).length ≤ 100000) := by show _ ≤ _; unfold bidsL; split; (rw [List.length_take]; omega); simp
    go_enter Tryz.func7, Tryz.ntmps7
    go_upto_region 3 with fail
    go_cut [3, 4] (fun s9 s10 wx => TwoBills w p hs s9 s10 wx ∧ wx.cell? ⟨w.heap.size, 0, none⟩ = some (.int .i64 p) ∧ wx.cell? ⟨w.heap.size, 1, none⟩ = some (.slice A hs.length c))
    case first =>
      obtain ⟨W1, hW1⟩ : ∃ x, x = w.alloc (.cells #[.int .i64 p, .slice A hs.length c] 27) := ⟨_, rfl⟩
      rw [← hW1]
      have k0 : W1.cell? ⟨w.heap.size, 0, none⟩ = some (.int .i64 p) := by rw [hW1]; simp
      have k1 : W1.cell? ⟨w.heap.size, 1, none⟩ = some (.slice A hs.length c) := by rw [hW1]; simp
      have bw : Below w.heap.size w W1 := by rw [hW1]; go_grown
      have r0 : w.heap.size < W1.heap.size := by rw [hW1]; simp
      have hr1 := hr.next bw
      clear hW1
      refine wp_makers 6 (by kernel_rfl) (by kernel_rfl) (by kernel_rfl) (by decide) (FTwo (.agg #[.int .i64 p, .slice A hs.length c]) p hs 27 56) FTwo.keep ?_ ?_
      · intro i o hi ho listed vals lo hi' a w2 hdep hM hb hB hAt K hK
        have d0 := hb.at_ r0 k0
        have d1 := hb.at_ r0 k1
        have hr2 := (hr1.below hb).more hB
        obtain ⟨e1, e1'⟩ := hAt.slot 1 (by kernel_rfl) (by rfl)
        match i, hi with
        | 0, _ =>
          injection ho with ho
          subst ho
          go_simp
          exact hK _ w2 (Below.refl _ _) rfl
        | 1, _ =>
          injection ho with ho
          subst ho
          have l0 := hdep ⟨0, .data⟩ (by simp) rfl
          obtain ⟨e5, e5'⟩ := hAt.dep 0 (d := 16) (by omega) l0 (by rfl) (hM.fact 0 (by omega) l0)
          go_simp
          refine (own_any A c p hs w2 hr2 (by omega)).mono ?_
          rintro e w3 ⟨v1, rfl, ho1, hb1⟩
          obtain ⟨A1, c1, rfl, hc1, hR1⟩ := own_sliceI ho1
          exact hK _ w3 hb1 ⟨A1, c1, rfl, hc1, hR1⟩
        | 2, _ =>
          injection ho with ho
          subst ho
          go_simp
          exact hK _ w2 (Below.refl _ _) rfl
        | 3, _ =>
          injection ho with ho
          subst ho
          have l0 := hdep ⟨2, .data⟩ (by simp) rfl
          obtain ⟨e5, e5'⟩ := hAt.dep 2 (d := 18) (by omega) l0 (by rfl) (hM.fact 2 (by omega) l0)
          go_simp
          refine (theirs_any A c p hs w2 hr2 (by omega)).mono ?_
          rintro e w3 ⟨v1, rfl, ho1, hb1⟩
          obtain ⟨A1, c1, rfl, hc1, hR1⟩ := own_sliceI ho1
          exact hK _ w3 hb1 ⟨A1, c1, rfl, hc1, hR1⟩
        | 4, _ =>
          injection ho with ho
          subst ho
          go_simp
          exact hK _ _ (below_new _ _) ⟨rfl, by simp, heap_alloc_new _ _⟩
        | 5, _ =>
          injection ho with ho
          subst ho
          go_simp
          exact hK _ _ (below_new _ _) ⟨rfl, by simp, heap_alloc_new _ _⟩
      · intro vals lo hi w2 hM hb
        obtain ⟨g9, g10, A1, c1, A2, c2, e0, e1, e2, e3, e4, e5, M⟩ := two_mid rfl (by decide) hM hb
        have d0 := hb.at_ r0 k0
        have d1 := hb.at_ r0 k1
        have HT := Lib.hid (two_fin bw M)
        have a0 := M.a0
        have a1 := M.a1
        have a2 := M.a2
        have a3 := M.a3
        have b0 := M.b0
        have b1 := M.b1
        have b2 := M.b2
        have b3 := M.b3
        have n1 := M.ne
        have n2 : ¬ g10 = g9 := fun h => n1 h.symm
        have n3 := M.ge.1
        have n4 := M.ge.2.2.1
        have n5 : ¬ w.heap.size = g9 := by omega
        have n6 : ¬ w.heap.size = g10 := by omega
        clear M hM
        simp only [putAll, List.range, List.range.loop, List.foldl_cons, List.foldl_nil, e0, e1, e2, e3, e4, e5]
        clear e0 e1 e2 e3 e4 e5
        generalize hact : Act.put _ _ _ = act
        simp (maxSteps := 20000) [dstOf, Act.put] at hact
        subst hact
        refine tail_step 6 _ (by kernel_rfl) rfl rfl (fun K' hK => ?_)
        go_simp
        refine hK _ _ ?_
        clear hK K'
        refine tail_step 7 _ (by kernel_rfl) rfl rfl (fun K' hK => ?_)
        go_simp
        refine hK _ _ ?_
        clear hK K'
        refine wpAny_done (by kernel_rfl) ?_ _
        go_wp2_with fail
        go_meet
        case rel =>
          refine ⟨HT.out, ?_, ?_⟩
          · rw [cell_far n6, cell_far n6, cell_far n5, cell_far n5]; exact d0
          · rw [cell_far n6, cell_far n6, cell_far n5, cell_far n5]; exact d1
    case rest =>
      obtain ⟨⟨g9, g10, A1, c1, A2, c2, rfl, rfl, n1, n2, n3, n4, x0, x1, y0, y1, _, _, hR1, hR2, hbw⟩, d0, d1⟩ := hcut
      have nz : w.heap.size < wc.heap.size := by omega
      have HS : Hid (SB w wc g9 g10 A A1 A2 c c1 c2 p hs) := ⟨d0, d1, x0, x1, y0, y1, nz, n2, n4, hr.next hbw, hR1, hR2, hbw⟩
      clear n1 n3 hR1 hR2 hbw hr hc
      go_upto_region 4 with fail
      refine wp_inv 5 (by kernel_rfl) (by kernel_rfl) (by kernel_rfl) (by decide) (FL [PEq (.agg #[.int .i64 p, .slice A1 hs.length c1]), PEq (.int .i64 (ckBill p hs)), PEq (.agg #[.int .i64 p, .slice A2 hs.length c2]), PEq (.int .i64 (ckBill p hs)), PEq (.bool false)])
        (fun x => Below wc.heap.size wc x) (fun x y => Below x.heap.size x y) (FL.keepB (by simp [stbB_eq])) (below_drew wc) ?_ ?_
      · intro i o hi' ho listed vals a w5 hdep hM hAt K hK
        have HI := Lib.hid hM.inv
        match i, hi' with
        | 0, _ =>
          injection ho with ho
          subst ho
          obtain ⟨e3, e3'⟩ := hAt.slot 3 (by kernel_rfl) (by rfl)
          have c0 := HI.out.at_ n2 x0
          have c1 := HI.out.at_ n2 x1
          have c2 := Nat.lt_of_lt_of_le n2 HI.out.size
          go_simp
          exact hK _ w5 (Below.refl _ _) HI.out rfl
        | 1, _ =>
          injection ho with ho
          subst ho
          have l0 := hdep ⟨0, .data⟩ (by simp) rfl
          obtain ⟨x0, x0'⟩ := hAt.dep 0 (d := 20) (by omega) l0 (by rfl) (hM.fact 0 (by omega) l0)
          go_simp
          refine (check_any A1 c1 p hs w5 (HS.out.r1.next HI.out) (by omega)).mono ?_
          rintro e w6 ⟨rfl, hb6⟩
          exact hK _ w6 hb6 (HI.out.trans (hb6.mono HI.out.size)) rfl
        | 2, _ =>
          injection ho with ho
          subst ho
          obtain ⟨e4, e4'⟩ := hAt.slot 4 (by kernel_rfl) (by rfl)
          have c0 := HI.out.at_ n4 y0
          have c1 := HI.out.at_ n4 y1
          have c2 := Nat.lt_of_lt_of_le n4 HI.out.size
          go_simp
          exact hK _ w5 (Below.refl _ _) HI.out rfl
        | 3, _ =>
          injection ho with ho
          subst ho
          have l2 := hdep ⟨2, .data⟩ (by simp) rfl
          obtain ⟨x2, x2'⟩ := hAt.dep 2 (d := 22) (by omega) l2 (by rfl) (hM.fact 2 (by omega) l2)
          go_simp
          refine (refCheck_any A2 c2 p hs w5 (HS.out.r2.next HI.out) (by omega)).mono ?_
          rintro e w6 ⟨rfl, hb6⟩
          exact hK _ w6 hb6 (HI.out.trans (hb6.mono HI.out.size)) rfl
        | 4, _ =>
          injection ho with ho
          subst ho
          have l1 := hdep ⟨1, .data⟩ (by simp) rfl
          obtain ⟨x1, x1'⟩ := hAt.dep 1 (d := 21) (by omega) l1 (by rfl) (hM.fact 1 (by omega) l1)
          have l3 := hdep ⟨3, .data⟩ (by simp) rfl
          obtain ⟨x3, x3'⟩ := hAt.dep 3 (d := 23) (by omega) l3 (by rfl) (hM.fact 3 (by omega) l3)
          go_simp
          exact hK _ w5 (Below.refl _ _) HI.out (by simp [PEq, FL])
      · intro vals w5 hM
        have HI := Lib.hid hM.inv
        have f0 : vals 0 = .agg #[.int .i64 p, .slice A1 hs.length c1] := hM.all (by decide) 0 (by omega)
        have f1 : vals 1 = .int .i64 (ckBill p hs) := hM.all (by decide) 1 (by omega)
        have f2 : vals 2 = .agg #[.int .i64 p, .slice A2 hs.length c2] := hM.all (by decide) 2 (by omega)
        have f3 : vals 3 = .int .i64 (ckBill p hs) := hM.all (by decide) 3 (by omega)
        have f4 : vals 4 = .bool false := hM.all (by decide) 4 (by omega)
        clear hM
        simp only [putAll, List.range, List.range.loop, List.foldl_cons, List.foldl_nil, f0, f1, f2, f3, f4]
        clear f0 f1 f2 f3 f4
        change wpAny _ _ _ _ _ _ (Act.put (Act.put (Act.put (Act.put (Act.put _ (some 20) _) (some 21) _) (some 22) _) (some 23) _) (some 24) _) _
        simp only [Act.put, List.setIfInBounds_toArray, List.set_cons_zero, List.set_cons_succ]
        have HS1 := Lib.hid (HS.out.next HI.out)
        clear HI HS d0 d1 x0 x1 y0 y1 nz n2 n4
        refine wpAny_done (by kernel_rfl) ?_ _
        obtain ⟨d0, d1, x0, x1, y0, y1, nz, n2, n4, _, _, _, _⟩ := HS1.out
        go_wp2_with fail
        refine (Exact_any A1 c1 p hs _ HS1.out.r1 (by omega)).mono ?_
        rintro e w1 ⟨v, rfl, ho, hb1⟩
        have HS2 := Lib.hid (HS1.out.next hb1)
        obtain ⟨B1, k1, rfl, _, hB1⟩ := own_slice ho
        have HB1 := Lib.hid hB1
        clear ho hB1
        clear HS1 d0 d1 x0 x1 y0 y1 nz n2 n4 hb1
        obtain ⟨d0, d1, x0, x1, y0, y1, nz, n2, n4, _, _, _, _⟩ := HS2.out
        go_wp2_with fail
        refine (rExact_any A2 c2 p hs w1 HS2.out.r2 (by omega)).mono ?_
        rintro e w2 ⟨v, rfl, ho, hb2⟩
        have HS3 := Lib.hid (HS2.out.next hb2)
        have HB1 := Lib.hid (HB1.out.next hb2)
        obtain ⟨B2, k2, rfl, _, hB2⟩ := own_slice ho
        have HB2 := Lib.hid hB2
        clear ho hB2
        clear HS2 d0 d1 x0 x1 y0 y1 nz n2 n4 hb2
        obtain ⟨d0, d1, x0, x1, y0, y1, nz, n2, n4, _, _, _, _⟩ := HS3.out
        go_wp2_with fail
        refine (alikeRatio_any B1 B2 k1 k2 _ _ w2 HB1.out HB2.out HLE.out).mono ?_
        rintro e w3 ⟨rfl, hb3⟩
        have HS4 := Lib.hid (HS3.out.next hb3)
        rw [decide_eq_true rfl]
        clear HS3 d0 d1 x0 x1 y0 y1 nz n2 n4 hb3
        obtain ⟨d0, d1, x0, x1, y0, y1, nz, n2, n4, _, _, _, _⟩ := HS4.out
        go_wp2_with fail
        refine (Shares_any A1 c1 p hs w3 HS4.out.r1 (by omega)).mono ?_
        rintro e w4 ⟨v, rfl, ho, hb4⟩
        have HS5 := Lib.hid (HS4.out.next hb4)
        obtain ⟨B3, k3, rfl, _, hB3⟩ := own_slice ho
        have HB3 := Lib.hid hB3
        clear ho hB3
        clear HS4 d0 d1 x0 x1 y0 y1 nz n2 n4 hb4
        obtain ⟨d0, d1, x0, x1, y0, y1, nz, n2, n4, _, _, _, _⟩ := HS5.out
        go_wp2_with fail
        refine (rShares_any A2 c2 p hs w4 HS5.out.r2 (by omega)).mono ?_
        rintro e w5 ⟨B4, k4, rfl, hB4, hb5⟩
        have HS6 := Lib.hid (HS5.out.next hb5)
        have HB3 := Lib.hid (HB3.out.next hb5)
        have HB4 := Lib.hid hB4
        clear hB4
        clear HS5 d0 d1 x0 x1 y0 y1 nz n2 n4 hb5
        obtain ⟨d0, d1, x0, x1, y0, y1, nz, n2, n4, _, _, _, _⟩ := HS6.out
        go_wp2_with fail
        refine (alikeInt_any B3 B4 k3 k4 _ _ w5 HB3.out HB4.out HLS.out).mono ?_
        rintro e w6 ⟨rfl, hb6⟩
        have HS7 := Lib.hid (HS6.out.next hb6)
        rw [decide_eq_true rfl]
        clear HS6 d0 d1 x0 x1 y0 y1 nz n2 n4 hb6
        obtain ⟨d0, d1, x0, x1, y0, y1, nz, n2, n4, _, _, _, _⟩ := HS7.out
        go_wp2_with fail
        refine (Bids_any A1 c1 p hs w6 HS7.out.r1 (by omega)).mono ?_
        rintro e w7 ⟨v, rfl, ho, hb7⟩
        have HS8 := Lib.hid (HS7.out.next hb7)
        obtain ⟨B5, k5, rfl, _, hB5⟩ := own_slice ho
        have HB5 := Lib.hid hB5
        clear ho hB5
        clear HS7 d0 d1 x0 x1 y0 y1 nz n2 n4 hb7
        obtain ⟨d0, d1, x0, x1, y0, y1, nz, n2, n4, _, _, _, _⟩ := HS8.out
        go_wp2_with fail
        refine (refBids_any A2 c2 p hs w7 HS8.out.r2 (by omega)).mono ?_
        rintro e w8 ⟨B6, k6, rfl, hB6, hb8⟩
        have HS9 := Lib.hid (HS8.out.next hb8)
        have HB5 := Lib.hid (HB5.out.next hb8)
        have HB6 := Lib.hid hB6
        clear hB6
        clear HS8 d0 d1 x0 x1 y0 y1 nz n2 n4 hb8
        obtain ⟨d0, d1, x0, x1, y0, y1, nz, n2, n4, _, _, _, _⟩ := HS9.out
        go_wp2_with fail
        refine (alikeInt_any B5 B6 k5 k6 _ _ w8 HB5.out HB6.out HLB.out).mono ?_
        rintro e w9 ⟨rfl, hb9⟩
        have HS10 := Lib.hid (HS9.out.next hb9)
        rw [decide_eq_true rfl]
        clear HS9 d0 d1 x0 x1 y0 y1 nz n2 n4 hb9
        obtain ⟨d0, d1, x0, x1, y0, y1, nz, n2, n4, _, _, _, _⟩ := HS10.out
        go_wp2_with fail
        refine (same_any A1 A c1 c p p hs hs w9 HS10.out.r1 HS10.out.r0 (by omega)).mono ?_
        rintro e w10 ⟨rfl, hb10⟩
        have HS11 := Lib.hid (HS10.out.next hb10)
        rw [decide_eq_true rfl, decide_eq_true rfl]
        clear HS10 d0 d1 x0 x1 y0 y1 nz n2 n4 hb10
        go_wp2_with fail
        refine (awake_any w10).mono ?_
        rintro e w11 ⟨rfl, hb11⟩
        go_wp2_with fail
        go_ret
        exact ⟨rfl, HS11.out.bw.trans (hb11.mono HS11.out.bw.size)⟩
end Go.Proofs.YtfojjecnmfkcfaaGreat
