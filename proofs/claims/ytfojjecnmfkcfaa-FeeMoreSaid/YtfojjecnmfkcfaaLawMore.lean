/- FeeMore returns true, whatever the numbers, house and amount; what is passed in reads as it did. No condition. -/
import Derived.Test.YtfojjecnmfkcfaaP17
import Derived.Deep.DeepCutAuto
namespace Go.Proofs.Ytfojjecnmfkcfaa
open Go.RowKit
set_option linter.unusedVariables false
set_option maxRecDepth 100000 in
set_option maxHeartbeats 8000000 in
theorem feeMore_walk (A1 : Option Addr) (c1 : Nat) (zs1 : List Int) (which more : Int) (w : World) (h1 : Bytes w A1 zs1) :
    Calls Try.prog 6 #[.slice A1 zs1.length c1, .int .i64 which, .int .i64 more] w fun e w' => e = .returned (.bool true) ∧ Below w.heap.size w w' := by
  go_enter Try.func6, Try.ntmps6
  go_wp2_with fail
  refine (fill_any A1 c1 zs1 w h1).mono ?_
  rintro e w1 ⟨g1, rfl, hg1, hC1, hb1⟩
  go_wp2_with fail
  refine (madeBill_any g1 A1 c1 zs1 80 5 w1 ⟨_, _, hC1⟩ (by omega) (by omega)).mono ?_
  rintro e w2 ⟨p, hs, v2, rfl, hMB, hown2, hC2, hg2⟩
  obtain ⟨A, cA, rfl, _, hRA⟩ := own_slice hown2
  have b2 : Below w.heap.size w w2 := hb1.grown hg2 hb1.size (fun k hk => by injection hk; omega)
  have hck := ckBill_made hMB (by omega) (by omega)
  have hbk := bidOk_made hMB (by omega) (by omega)
  have ho := housesOk_of hck
  have hn6 := ho.1
  have hn1 := hMB.l0
  have hp0 := hMB.p0
  have hp1 := hMB.p1
  have hpm := hMB.most
  obtain ⟨B, hBN⟩ : ∃ B, Hid (BidsN hs p B) := ⟨_, bidsN ho hbk⟩
  have HCK := Lib.hid hck
  have HCK2 := Lib.hid (ckBill_of hck (q := p + 1) (by omega) (by omega))
  have HO := Lib.hid ho
  clear hC1 hC2 hg2 hb1 hown2 hbk hck ho hMB h1
  go_wp2_with fail
  obtain ⟨W2, hW2⟩ : ∃ x, x = w2.alloc (.cells #[.int .i64 p, .slice A hs.length cA] 39) := ⟨_, rfl⟩
  rw [← hW2]
  have nb := below_new w2 (.cells #[.int .i64 p, .slice A hs.length cA] 39)
  rw [← hW2] at nb
  have x0 : W2.cell? ⟨w2.heap.size, 0, none⟩ = some (.int .i64 p) := by rw [hW2]; exact news_new w2 [.int .i64 p, .slice A hs.length cA] 39 rfl 0 _ rfl
  have x1 : W2.cell? ⟨w2.heap.size, 1, none⟩ = some (.slice A hs.length cA) := by rw [hW2]; exact news_new w2 [.int .i64 p, .slice A hs.length cA] 39 rfl 1 _ rfl
  have xl : w2.heap.size < W2.heap.size := by rw [hW2]; simp
  have bW2 := b2.trans (nb.mono b2.size)
  have hRA2 : Rd W2 w2.heap.size A (trips hs) := hRA.keep fun b o hb => nb.cell (p := ⟨b, o, none⟩) hb
  have hwl : w.heap.size ≤ w2.heap.size := b2.size
  generalize w2.heap.size = b5 at x0 x1 xl hRA2 hwl ⊢
  clear hW2 nb b2 hRA
  go_wp2_with fail
  refine (wrapV_any which hs.length W2 (by omega) (by omega)).mono ?_
  rintro e w3 ⟨rfl, rfl⟩
  obtain ⟨hz0, hz1⟩ := wrapV_bd which hs.length (by omega)
  generalize wrapV which hs.length = z at hz0 hz1 ⊢
  obtain ⟨j, rfl⟩ := Int.eq_ofNat_of_zero_le hz0
  have hj : j < hs.length := by omega
  go_wp2_with fail
  refine (bidsG_any A cA p hs B w3 (hRA2.more (by omega)) HCK.out hBN.out).mono ?_
  rintro e w4 ⟨bB, cB, rfl, hbB, hL4, hb4⟩
  have HK4 : Hid (KS w w4.heap.size w4 b5 bB A cA p hs B) := ⟨hb4.at_ xl x0, hb4.at_ xl x1, hRA2.keep fun b o hb => hb4.cell (p := ⟨b, o, none⟩) (Nat.lt_trans hb xl), hL4, bW2.trans (hb4.mono bW2.size), Nat.lt_of_lt_of_le xl hb4.size, hL4.lt, Nat.le_refl _, Nat.le_trans bW2.size hb4.size⟩
  have x04 := HK4.out.x0
  have x14 := HK4.out.x1
  clear x0 x1 hRA2 hL4 bW2 xl hwl hb4 hbB
  go_wp2_with fail
  refine (own_any A cA p hs w4 (HK4.out.rA.more (by have := HK4.out.lt; have := HK4.out.nl; omega)) (by omega)).mono ?_
  rintro e w5 ⟨v5, rfl, hown5, hb5⟩
  obtain ⟨Ad, cd, rfl, _, hRd⟩ := own_slice hown5
  have HK5 := Lib.hid (HK4.out.below hb5)
  have hz5 := HK5.out.nl
  clear x04 x14 HK4 hown5
  go_wp2_with fail
  generalize hW6 : World.alloc w5 _ = W6
  have hb6 : Below w5.heap.size w5 W6 := by subst hW6; exact below_new w5 _
  have HK6 := Lib.hid (HK5.out.below hb6)
  have hRd6 : Rd W6 w5.heap.size Ad (trips hs) := hRd.keep fun b o hb => hb6.cell (p := ⟨b, o, none⟩) hb
  have hz6 := hb6.size
  generalize w5.heap.size = bD at *
  clear hW6 hb6 HK5 hRd
  refine (dear_any Ad cd p hs B W6 (hRd6.more (by omega)) HCK2.out hBN.out).mono ?_
  rintro e w7 ⟨Ae, ne, ce, code, rfl, HD, hb7⟩
  have HK7 := Lib.hid (HK6.out.below hb7)
  clear hRd6 HK6 hb7 hz6
  have x07 := HK7.out.x0
  have x17 := HK7.out.x1
  go_wp2_with fail
  go_loopw [13, 63] (fun s iv wr => ∃ k : Nat, s = .int .i64 (mostTo hs k) ∧ iv = .int .i64 k ∧ k ≤ hs.length ∧ Hid (Below w7.heap.size w7 wr)) (fun _ iv _ => hs.length - (intOf iv).toNat)
  case atStart => exact ⟨0, rfl, rfl, Nat.zero_le _, Below.refl _ _⟩
  case round =>
    obtain ⟨k, rfl, rfl, hk, HbW⟩ := hrel
    have HK := Lib.hid (HK7.out.below HbW.out)
    clear x07 x17
    by_cases hlt : k < hs.length
    · obtain ⟨bA, oA, hAe, hbA, e1, e2, e3⟩ := HK.out.rA.trip hlt
      subst hAe
      obtain ⟨s0, s1⟩ := mostTo_bd HO.out k
      have HM := Lib.hid (mostTo_succ hs hlt)
      have hbd := HO.out.2 hs[k] (List.getElem_mem _)
      generalize mostTo hs k = s at *
      generalize hs[k].2.2 = m at *
      generalize hs[k].2.1 = l at *
      generalize hs[k].1 = v at *
      have hkz : (k : Int) < hs.length := by omega
      have hkz0 : (0 : Int) ≤ (k : Int) := by omega
      go_wp2_with fail
      go_roundw
      case rel => exact ⟨k + 1, by rw [HM.out], by go_num, by omega, HbW.out.alloc HbW.out.size _⟩
      case measure => simp [intOf]; omega
    · have hkz : ¬ (k : Int) < hs.length := by omega
      have hkn : k = hs.length := by omega
      subst hkn
      rw [mostTo_all]
      have x0 := HK.out.x0
      have x1 := HK.out.x1
      rcases HD.out with ⟨hm, rfl⟩ | ⟨hm, rfl, rfl, bN, N, q, rfl, hLN, hNl, hq, hN⟩
      · rw [hm]
        clear hm HD hlt hkz hk
        go_wp2_with fail
        obtain ⟨bA, oA, hAe, hbA, e1, _, _⟩ := HK.out.rA.trip hj
        subst hAe
        have hVj : hV hs j = hs[j].1 := by unfold hV; simp [List.getD_eq_getElem?_getD, List.getElem?_eq_getElem hj]
        have hVb := hV_nonneg HO.out j
        rw [← hVj] at e1
        clear hVj
        obtain ⟨V, hV1⟩ : ∃ V, Hid (hV hs j = V) := ⟨_, rfl⟩
        rw [hV1.out] at e1 hVb
        obtain ⟨V0, V1⟩ := hVb
        have HT : ∀ m, Hid (Calls Try.prog 41 #[.int .i64 more, .int .i64 60] (wr.drewN m) fun e w' => e = .returned (.int .i64 (wrapV more 60)) ∧ w' = wr.drewN m) := fun m => wrapV_any more 60 _ (by omega) (by omega)
        obtain ⟨r0, r1⟩ := wrapV_bd more 60 (by omega)
        generalize wrapV more 60 = r at HT r0 r1
        go_quiet ((go_at_call 41; exact Calls.quiet_of_same (HT _).out))
        clear HT
        have hvr : (V + r < 1000) ∨ ¬ (V + r < 1000) := Decidable.em _
        rcases hvr with hvr | hvr
        all_goals
          go_wp2_with fail
          generalize hW8 : World.drewN wr _ = w8
          have hb8 : Below w7.heap.size w7 w8 := by rw [← hW8]; exact below_drewN HbW.out _
          clear hW8 x0 x1 e1 HK HbW
          have HK8 := Lib.hid (HK7.out.below hb8)
          refine (appealG_any (some ⟨bA, oA, none⟩) cA p hs j _ B w8 (HK8.out.rA.more (by have := HK8.out.lt; have := HK8.out.nl; omega)) HCK.out hBN.out hj (by rw [hV1.out]; omega) (by omega)).mono ?_
          rintro e w9 ⟨bT, cT, T, rfl, hLT, hTl, hTs, hTb, hTj, HTo, hb9⟩
          have hb79 := hb8.trans (hb9.mono hb8.size)
          have HK9 := Lib.hid (HK7.out.below hb79)
          have x09 := HK9.out.x0
          have x19 := HK9.out.x1
          have cB := HK9.out.lst.atD (j := j) (by rw [hBN.out.fit.1]; exact hj)
          have cTc := hLT.atD (j := j) (by omega)
          obtain ⟨u0, u1⟩ := atD_bd (fitsN_bd HO.out hBN.out.fit) j
          obtain ⟨t0, t1⟩ := atD_bd hTb j
          have HTT : ∀ m, Hid (Calls Try.prog 38 #[.slice (some ⟨bT, 0, none⟩) hs.length cT] (w9.drewN m) fun e w' => e = .returned (.int .i64 p) ∧ w' = w9.drewN m) := by
            intro m
            have := total10_any (some ⟨bT, 0, none⟩) cT T (w9.drewN m) (hLT.rd.drewN m) (by omega) (fun z hz => by have := hTb z hz; omega)
            rw [hTl, hTs] at this
            exact this
          have HLT := Lib.hid hLT
          have HTL := Lib.hid hTl
          have HTB := Lib.hid hTb
          have Hb79 := Lib.hid hb79
          generalize B.getD j 0 = u at cB u0 u1 hTj ⊢
          generalize T.getD j 0 = t at cTc t0 t1 hTj ⊢
          have hless : decide (0 < u - t) = false := decide_eq_false (by omega)
          clear hLT hTl hTs hTb HK8 hb8 hb9 hb79
          go_wp2_with fail
          go_quiet ((go_at_call 38; exact Calls.quiet_of_same (HTT _).out))
          clear HTT
          go_wp2_with fail
          generalize hW10 : World.drewN w9 _ = w10
          have hb10 : Hid (Below w9.heap.size w9 w10) := by rw [← hW10]; exact below_drewN (Below.refl _ _) _
          clear hW10 x09 x19 cB cTc hless hTj u0 u1 t0 t1
          go_loopw [180] (fun iv wr => ∃ k : Nat, iv = .int .i64 k ∧ k ≤ hs.length ∧ Hid (Below w9.heap.size w9 wr)) (fun iv _ => hs.length - (intOf iv).toNat)
          case atStart => exact ⟨0, rfl, Nat.zero_le _, hb10⟩
          case round =>
            clear hb10
            obtain ⟨k, rfl, hk, HbZ⟩ := hrel
            have HK := Lib.hid (HK9.out.below HbZ.out)
            by_cases hlt : k < hs.length
            · have cB := HK.out.lst.atD (j := k) (by rw [hBN.out.fit.1]; exact hlt)
              have cTc := (HLT.out.below HbZ.out).atD (j := k) (by rw [HTL.out]; exact hlt)
              obtain ⟨u0, u1⟩ := atD_bd (fitsN_bd HO.out hBN.out.fit) k
              obtain ⟨t0, t1⟩ := atD_bd HTB.out k
              have hto : k ≠ j → T.getD k 0 ≤ B.getD k 0 := HTo.out k
              generalize B.getD k 0 = u at cB u0 u1 hto
              generalize T.getD k 0 = t at cTc t0 t1 hto
              have hkz : (k : Int) < hs.length := by omega
              have hkz0 : (0 : Int) ≤ (k : Int) := by omega
              by_cases hkj : k = j
              · have d0 : ((k : Int) != (j : Int)) = false := by rw [hkj]; simp
                clear hkj hto
                go_wp2_with fail
                go_quiet (fail)
                go_wp2_with fail
                go_roundw
                case rel => exact ⟨k + 1, by go_num, by omega, below_drewN HbZ.out _⟩
                case measure => simp [intOf]; omega
              · have d0 : ((k : Int) != (j : Int)) = true := by rw [bne_iff_ne]; omega
                have d1 : decide (u < t) = false := decide_eq_false (by have := hto hkj; omega)
                clear hkj hto
                go_wp2_with fail
                go_quiet (fail)
                go_wp2_with fail
                go_roundw
                case rel => exact ⟨k + 1, by go_num, by omega, below_drewN HbZ.out _⟩
                case measure => simp [intOf]; omega
            · have hkz : ¬ (k : Int) < hs.length := by omega
              have x0 := HK.out.x0
              have x1 := HK.out.x1
              have hzz : b5 < wr.heap.size := Nat.lt_of_lt_of_le HK.out.lt HK.out.nl
              clear hlt hk
              go_wp2_with fail
              refine (own_any (some ⟨bA, oA, none⟩) cA p hs wr (HK.out.rA.more (by omega)) (by omega)).mono ?_
              rintro e w12 ⟨v12, rfl, hown12, hb12⟩
              obtain ⟨bF, cF, rfl, hbF, hTr⟩ := own_trp hown12 hn1
              have x02 := hb12.at_ hzz x0
              have x12 := hb12.at_ hzz x1
              have hz12 := Nat.lt_of_lt_of_le hzz hb12.size
              clear hown12 x0 x1 hkz
              go_wp2_with fail
              generalize hW13 : World.alloc w12 _ = W13
              have HF := Lib.hid (fs_new hTr hb12 hbF rfl hW13)
              have HN0 : Hid (Now hs B hs 0) := fun i hi => ⟨fun h => absurd h (Nat.not_lt_zero _), fun _ => rfl⟩
              generalize w12.heap.size = bS at HF ⊢
              clear hW13 hTr hbF x02 x12 hz12 hb12
              go_loopw [203] (fun iv wq => ∃ (k : Nat) (fs : List (Int × Int × Int)), iv = .int .i64 k ∧ k ≤ hs.length ∧ Hid (FS wr wq bS bF cF p hs.length fs) ∧ Hid (Now hs B fs k)) (fun iv _ => hs.length - (intOf iv).toNat)
              case atStart => exact ⟨0, hs, rfl, Nat.zero_le _, HF, HN0⟩
              case round =>
                clear HF HN0
                obtain ⟨k, fs, rfl, hk, HF, HN⟩ := hrel
                have HKw := Lib.hid (HK.out.below HF.out.bl)
                have s0 := HF.out.s0
                have s1 := HF.out.s1
                by_cases hlt : k < hs.length
                · have y0 := HKw.out.x0
                  have y1 := HKw.out.x1
                  have hbF5 : b5 < bF := Nat.lt_of_lt_of_le hzz HF.out.n0
                  have hbFB : bB < bF := Nat.lt_of_lt_of_le (Nat.lt_of_lt_of_le HK.out.ltB HK.out.nl) HF.out.n0
                  have sf := HF.out.sf
                  have sl := HF.out.sl
                  have cB := HKw.out.lst.atD (j := k) (by rw [hBN.out.fit.1]; exact hlt)
                  obtain ⟨u0, u1⟩ := atD_bd (fitsN_bd HO.out hBN.out.fit) k
                  obtain ⟨e1, e2, e3⟩ := HKw.out.rA.trip' hlt
                  have hbd := HO.out.2 hs[k] (List.getElem_mem _)
                  have HX : Hid (hs.getD k (0, 0, 0) = (hs[k].1, hs[k].2.1, hs[k].2.2)) := by
                    show _ = _
                    simp [List.getD_eq_getElem?_getD, List.getElem?_eq_getElem hlt]
                  have HFk : Hid (fs.getD k (0, 0, 0) = (hs[k].1, hs[k].2.1, hs[k].2.2)) := ((HN.out k hlt).2 (Nat.le_refl _)).trans HX.out
                  have HNs : ∀ gs, Hid ((∀ i, i ≠ k → gs.getD i (0, 0, 0) = fs.getD i (0, 0, 0)) → Freed (hs[k].1, hs[k].2.1, hs[k].2.2) (B.getD k 0) (gs.getD k (0, 0, 0)) → Now hs B gs (k + 1)) := fun gs h1 h2 => HN.out.next hlt h1 (by rw [HX.out]; exact h2)
                  have HBk : ∃ z, Hid (B.getD k 0 = z) := ⟨_, rfl⟩
                  obtain ⟨u, HBk⟩ := HBk
                  rw [HBk.out] at cB u0 u1 HNs
                  generalize hs[k].1 = v at *
                  generalize hs[k].2.1 = l at *
                  generalize hs[k].2.2 = m at *
                  obtain ⟨_, _, l0, lm, m0⟩ := hbd
                  have HLT2 := Lib.hid hlt
                  have hkz : (k : Int) < hs.length := by omega
                  have hkz0 : (0 : Int) ≤ (k : Int) := by omega
                  clear HN HX
                  go_wp2_with fail
                  generalize hWc : World.alloc wr _ = wc
                  obtain ⟨HFc, HKc, k1, k2, hsz⟩ := more_copy HF.out HKw.out hWc
                  have hFC : bF < wr.heap.size := HF.out.tr.lt
                  have hSC : bS < wr.heap.size := sl
                  generalize wr.heap.size = bC at k1 k2 hsz hFC hSC ⊢
                  clear hWc HF HKw y0 y1 cB s0 s1 e1 e2 e3 sl
                  have s0 := HFc.out.s0
                  have s1 := HFc.out.s1
                  have sl := HFc.out.sl
                  have cB := HKc.out.lst.atD (j := k) (by rw [hBN.out.fit.1]; exact hlt)
                  rw [HBk.out] at cB
                  have hlF : k < fs.length := by rw [HFc.out.len]; exact hlt
                  have HLF := Lib.hid hlF
                  obtain ⟨f1, f2, f3⟩ := HFc.out.tr.rd.trip' hlF
                  rw [Nat.zero_add] at f1 f2 f3
                  have z1 := HFc.out.tr.free (k * 3 + 1)
                  have z2 := HFc.out.tr.free (k * 3 + 2)
                  have hFl := HFc.out.tr.lt
                  generalize fs[k].1 = fa at f1
                  generalize fs[k].2.1 = fb at f2
                  generalize fs[k].2.2 = fc at f3
                  have nCF : ¬ bC = bF := by omega
                  have nFC : ¬ bF = bC := by omega
                  have nSF : ¬ bS = bF := by omega
                  have nBF : ¬ bB = bF := by omega
                  clear hlF f1 hsz
                  by_cases q1 : l < u
                  · by_cases q2 : u < m
                    · have hl3 : 0 < l - 3 ∨ ¬ 0 < l - 3 := Decidable.em _
                      have hm5 : m + 5 < 500 ∨ ¬ m + 5 < 500 := Decidable.em _
                      rcases hl3 with hl3 | hl3
                      all_goals rcases hm5 with hm5 | hm5
                      all_goals
                        go_quiet (fail)
                        go_wp2_with fail
                        go_quiet (fail)
                        go_wp2_with fail
                        go_roundw
                        case rel => exact ⟨k + 1, _, by go_num, by omega, (((HFc.out.drewN _).put1 HLT2.out _).drewN _).put2 HLT2.out _, step12 HNs HLF.out HFk.out (freed_mk (by omega) (by omega) (by omega) (by omega) (by omega) (by omega))⟩
                        case measure => simp [intOf]; omega
                    · have q2' : decide (u < m) = false := decide_eq_false q2
                      have hl3 : 0 < l - 3 ∨ ¬ 0 < l - 3 := Decidable.em _
                      rcases hl3 with hl3 | hl3
                      all_goals
                        go_quiet (fail)
                        go_wp2_with fail
                        go_quiet (fail)
                        go_wp2_with fail
                        go_roundw
                        case rel => exact ⟨k + 1, _, by go_num, by omega, ((HFc.out.drewN _).put1 HLT2.out _).drewN _, step1 HNs HLF.out HFk.out (freed_mk (by omega) (by omega) (by omega) (by omega) (by omega) (by omega))⟩
                        case measure => simp [intOf]; omega
                  · have q1' : decide (l < u) = false := decide_eq_false q1
                    by_cases q2 : u < m
                    · have hm5 : m + 5 < 500 ∨ ¬ m + 5 < 500 := Decidable.em _
                      rcases hm5 with hm5 | hm5
                      all_goals
                        go_quiet (fail)
                        go_wp2_with fail
                        go_quiet (fail)
                        go_wp2_with fail
                        go_roundw
                        case rel => exact ⟨k + 1, _, by go_num, by omega, (HFc.out.drewN _).put2 HLT2.out _, step2 HNs HLF.out HFk.out (freed_mk (by omega) (by omega) (by omega) (by omega) (by omega) (by omega))⟩
                        case measure => simp [intOf]; omega
                    · have q2' : decide (u < m) = false := decide_eq_false q2
                      go_quiet (fail)
                      go_wp2_with fail
                      go_quiet (fail)
                      go_wp2_with fail
                      go_roundw
                      case rel => exact ⟨k + 1, fs, by go_num, by omega, HFc.out.drewN _, (HNs fs).out (fun i hi => rfl) (by rw [HFk.out]; exact (freed_mk (by omega) (by omega) (by omega) (by omega) (by omega) (by omega)))⟩
                      case measure => simp [intOf]; omega
                · have hkz : ¬ (k : Int) < hs.length := by omega
                  have hfl := HF.out.len
                  obtain ⟨hck2, hB2⟩ := freed_same HCK.out hBN.out hfl (fun i hi => (HN.out i hi).1 (by omega))
                  have HB2 := Lib.hid hB2
                  have HC2 := Lib.hid hck2
                  have HFL := Lib.hid hfl
                  clear hfl hB2 hck2 hlt hk HN
                  go_wp2_with fail
                  have HBG := bidsG_any (some ⟨bF, 0, none⟩) cF p fs B wr HF.out.tr.rd HC2.out HB2.out
                  rw [HFL.out] at HBG
                  refine HBG.mono ?_
                  rintro e w14 ⟨bY, cY, rfl, hbY, hLY, hb14⟩
                  rw [HFL.out]
                  have HKz := Lib.hid (HKw.out.below hb14)
                  clear HBG
                  go_wp2_with fail
                  have HAl := alikeInt_any (some ⟨bY, 0, none⟩) (some ⟨bB, 0, none⟩) cY cB B B w14 hLY.rd HKz.out.lst.rd (by rw [hBN.out.fit.1]; omega)
                  rw [hBN.out.fit.1] at HAl
                  refine HAl.mono ?_
                  rintro e w15 ⟨rfl, hb15⟩
                  rw [decide_eq_true rfl]
                  have bl := (HKz.out.below hb15).bl
                  clear HAl
                  go_wp2_with fail
                  refine (awake_any w15).mono ?_
                  rintro e w16 ⟨rfl, hb16⟩
                  go_wp2_with fail
                  go_ret
                  exact ⟨rfl, bl.trans (hb16.mono bl.size)⟩
      · generalize hms : mostSum hs = ms at hm ⊢
        have hmsz : (ms == p) = false := by rw [beq_eq_false_iff_ne]; exact hm
        have HLN := Lib.hid hLN
        have HN := Lib.hid hN
        clear HD hlt hkz hk hms hLN hN
        go_wp2_with fail
        go_loopw [16, 89] (fun g iv wr => ∃ (k : Nat) (y : Int), g = .int .i64 y ∧ iv = .int .i64 k ∧ k ≤ hs.length ∧ ((q < k ∧ y = 1) ∨ (k ≤ q ∧ y = 0)) ∧ Hid (Below w7.heap.size w7 wr)) (fun _ iv _ => hs.length - (intOf iv).toNat)
        case atStart => exact ⟨0, 0, rfl, rfl, Nat.zero_le _, .inr ⟨Nat.zero_le _, rfl⟩, HbW⟩
        case round =>
          clear HK HbW x0 x1
          obtain ⟨k, y, rfl, rfl, hk, hy, HbW⟩ := hrel
          have HK := Lib.hid (HK7.out.below HbW.out)
          have x0 := HK.out.x0
          have x1 := HK.out.x1
          by_cases hlt : k < hs.length
          · have cB := HK.out.lst.atD (j := k) (by rw [hBN.out.fit.1]; exact hlt)
            have cN := (HLN.out.below HbW.out).atD (j := k) (by omega)
            have hd := HN.out k
            obtain ⟨u0, u1⟩ := atD_bd (fitsN_bd HO.out hBN.out.fit) k
            generalize N.getD k 0 = t at *
            generalize B.getD k 0 = u at *
            have hd2 : (k = q ∧ t = u + 1) ∨ (k ≠ q ∧ t = u) := by
              by_cases h : k = q
              · rw [if_pos h] at hd; exact .inl ⟨h, hd⟩
              · rw [if_neg h] at hd; exact .inr ⟨h, by omega⟩
            clear hd
            have f1 : decide (t < u) = false := decide_eq_false (by omega)
            have f2 : decide (u + 1 < t) = false := decide_eq_false (by omega)
            have hkz : (k : Int) < hs.length := by omega
            have hkz0 : (0 : Int) ≤ (k : Int) := by omega
            have t0 : 0 ≤ t := by omega
            have t1 : t ≤ 501 := by omega
            have y0 : 0 ≤ y := by omega
            have y1 : y ≤ 1 := by omega
            have HY : Hid ((q < k + 1 ∧ y + (t - u) = 1) ∨ (k + 1 ≤ q ∧ y + (t - u) = 0)) := by
              show _ ∨ _
              omega
            clear hy hd2
            go_wp2_with fail
            go_quiet (fail)
            go_wp2_with fail
            go_quiet (fail)
            go_wp2_with fail
            go_roundw
            case rel => exact ⟨k + 1, _, rfl, by go_num, by omega, HY.out, below_drewN HbW.out _⟩
            case measure => simp [intOf]; omega
          · have hkz : ¬ (k : Int) < hs.length := by omega
            obtain rfl : y = 1 := by omega
            clear hlt hy hk HN HLN
            go_wp2_with fail
            obtain ⟨bA, oA, hAe, hbA, e1, _, _⟩ := HK.out.rA.trip hj
            subst hAe
            have hVj : hV hs j = hs[j].1 := by unfold hV; simp [List.getD_eq_getElem?_getD, List.getElem?_eq_getElem hj]
            have hVb := hV_nonneg HO.out j
            rw [← hVj] at e1
            clear hVj
            obtain ⟨V, hV1⟩ : ∃ V, Hid (hV hs j = V) := ⟨_, rfl⟩
            rw [hV1.out] at e1 hVb
            obtain ⟨V0, V1⟩ := hVb
            have HT : ∀ m, Hid (Calls Try.prog 41 #[.int .i64 more, .int .i64 60] (wr.drewN m) fun e w' => e = .returned (.int .i64 (wrapV more 60)) ∧ w' = wr.drewN m) := fun m => wrapV_any more 60 _ (by omega) (by omega)
            obtain ⟨r0, r1⟩ := wrapV_bd more 60 (by omega)
            generalize wrapV more 60 = r at HT r0 r1
            go_quiet ((go_at_call 41; exact Calls.quiet_of_same (HT _).out))
            clear HT
            have hvr : (V + r < 1000) ∨ ¬ (V + r < 1000) := Decidable.em _
            rcases hvr with hvr | hvr
            all_goals
              go_wp2_with fail
              generalize hW8 : World.drewN wr _ = w8
              have hb8 : Below w7.heap.size w7 w8 := by rw [← hW8]; exact below_drewN HbW.out _
              clear hW8 x0 x1 e1 HK HbW
              have HK8 := Lib.hid (HK7.out.below hb8)
              refine (appealG_any (some ⟨bA, oA, none⟩) cA p hs j _ B w8 (HK8.out.rA.more (by have := HK8.out.lt; have := HK8.out.nl; omega)) HCK.out hBN.out hj (by rw [hV1.out]; omega) (by omega)).mono ?_
              rintro e w9 ⟨bT, cT, T, rfl, hLT, hTl, hTs, hTb, hTj, HTo, hb9⟩
              have hb79 := hb8.trans (hb9.mono hb8.size)
              have HK9 := Lib.hid (HK7.out.below hb79)
              have x09 := HK9.out.x0
              have x19 := HK9.out.x1
              have cB := HK9.out.lst.atD (j := j) (by rw [hBN.out.fit.1]; exact hj)
              have cTc := hLT.atD (j := j) (by omega)
              obtain ⟨u0, u1⟩ := atD_bd (fitsN_bd HO.out hBN.out.fit) j
              obtain ⟨t0, t1⟩ := atD_bd hTb j
              have HTT : ∀ m, Hid (Calls Try.prog 38 #[.slice (some ⟨bT, 0, none⟩) hs.length cT] (w9.drewN m) fun e w' => e = .returned (.int .i64 p) ∧ w' = w9.drewN m) := by
                intro m
                have := total10_any (some ⟨bT, 0, none⟩) cT T (w9.drewN m) (hLT.rd.drewN m) (by omega) (fun z hz => by have := hTb z hz; omega)
                rw [hTl, hTs] at this
                exact this
              have HLT := Lib.hid hLT
              have HTL := Lib.hid hTl
              have HTB := Lib.hid hTb
              have Hb79 := Lib.hid hb79
              generalize B.getD j 0 = u at cB u0 u1 hTj ⊢
              generalize T.getD j 0 = t at cTc t0 t1 hTj ⊢
              have hless : decide (0 < u - t) = false := decide_eq_false (by omega)
              clear hLT hTl hTs hTb HK8 hb8 hb9 hb79
              go_wp2_with fail
              go_quiet ((go_at_call 38; exact Calls.quiet_of_same (HTT _).out))
              clear HTT
              go_wp2_with fail
              generalize hW10 : World.drewN w9 _ = w10
              have hb10 : Hid (Below w9.heap.size w9 w10) := by rw [← hW10]; exact below_drewN (Below.refl _ _) _
              clear hW10 x09 x19 cB cTc hless hTj u0 u1 t0 t1
              go_loopw [180] (fun iv wr => ∃ k : Nat, iv = .int .i64 k ∧ k ≤ hs.length ∧ Hid (Below w9.heap.size w9 wr)) (fun iv _ => hs.length - (intOf iv).toNat)
              case atStart => exact ⟨0, rfl, Nat.zero_le _, hb10⟩
              case round =>
                clear hb10
                obtain ⟨k, rfl, hk, HbZ⟩ := hrel
                have HK := Lib.hid (HK9.out.below HbZ.out)
                by_cases hlt : k < hs.length
                · have cB := HK.out.lst.atD (j := k) (by rw [hBN.out.fit.1]; exact hlt)
                  have cTc := (HLT.out.below HbZ.out).atD (j := k) (by rw [HTL.out]; exact hlt)
                  obtain ⟨u0, u1⟩ := atD_bd (fitsN_bd HO.out hBN.out.fit) k
                  obtain ⟨t0, t1⟩ := atD_bd HTB.out k
                  have hto : k ≠ j → T.getD k 0 ≤ B.getD k 0 := HTo.out k
                  generalize B.getD k 0 = u at cB u0 u1 hto
                  generalize T.getD k 0 = t at cTc t0 t1 hto
                  have hkz : (k : Int) < hs.length := by omega
                  have hkz0 : (0 : Int) ≤ (k : Int) := by omega
                  by_cases hkj : k = j
                  · have d0 : ((k : Int) != (j : Int)) = false := by rw [hkj]; simp
                    clear hkj hto
                    go_wp2_with fail
                    go_quiet (fail)
                    go_wp2_with fail
                    go_roundw
                    case rel => exact ⟨k + 1, by go_num, by omega, below_drewN HbZ.out _⟩
                    case measure => simp [intOf]; omega
                  · have d0 : ((k : Int) != (j : Int)) = true := by rw [bne_iff_ne]; omega
                    have d1 : decide (u < t) = false := decide_eq_false (by have := hto hkj; omega)
                    clear hkj hto
                    go_wp2_with fail
                    go_quiet (fail)
                    go_wp2_with fail
                    go_roundw
                    case rel => exact ⟨k + 1, by go_num, by omega, below_drewN HbZ.out _⟩
                    case measure => simp [intOf]; omega
                · have hkz : ¬ (k : Int) < hs.length := by omega
                  have x0 := HK.out.x0
                  have x1 := HK.out.x1
                  have hzz : b5 < wr.heap.size := Nat.lt_of_lt_of_le HK.out.lt HK.out.nl
                  clear hlt hk
                  go_wp2_with fail
                  refine (own_any (some ⟨bA, oA, none⟩) cA p hs wr (HK.out.rA.more (by omega)) (by omega)).mono ?_
                  rintro e w12 ⟨v12, rfl, hown12, hb12⟩
                  obtain ⟨bF, cF, rfl, hbF, hTr⟩ := own_trp hown12 hn1
                  have x02 := hb12.at_ hzz x0
                  have x12 := hb12.at_ hzz x1
                  have hz12 := Nat.lt_of_lt_of_le hzz hb12.size
                  clear hown12 x0 x1 hkz
                  go_wp2_with fail
                  generalize hW13 : World.alloc w12 _ = W13
                  have HF := Lib.hid (fs_new hTr hb12 hbF rfl hW13)
                  have HN0 : Hid (Now hs B hs 0) := fun i hi => ⟨fun h => absurd h (Nat.not_lt_zero _), fun _ => rfl⟩
                  generalize w12.heap.size = bS at HF ⊢
                  clear hW13 hTr hbF x02 x12 hz12 hb12
                  go_loopw [203] (fun iv wq => ∃ (k : Nat) (fs : List (Int × Int × Int)), iv = .int .i64 k ∧ k ≤ hs.length ∧ Hid (FS wr wq bS bF cF p hs.length fs) ∧ Hid (Now hs B fs k)) (fun iv _ => hs.length - (intOf iv).toNat)
                  case atStart => exact ⟨0, hs, rfl, Nat.zero_le _, HF, HN0⟩
                  case round =>
                    clear HF HN0
                    obtain ⟨k, fs, rfl, hk, HF, HN⟩ := hrel
                    have HKw := Lib.hid (HK.out.below HF.out.bl)
                    have s0 := HF.out.s0
                    have s1 := HF.out.s1
                    by_cases hlt : k < hs.length
                    · have y0 := HKw.out.x0
                      have y1 := HKw.out.x1
                      have hbF5 : b5 < bF := Nat.lt_of_lt_of_le hzz HF.out.n0
                      have hbFB : bB < bF := Nat.lt_of_lt_of_le (Nat.lt_of_lt_of_le HK.out.ltB HK.out.nl) HF.out.n0
                      have sf := HF.out.sf
                      have sl := HF.out.sl
                      have cB := HKw.out.lst.atD (j := k) (by rw [hBN.out.fit.1]; exact hlt)
                      obtain ⟨u0, u1⟩ := atD_bd (fitsN_bd HO.out hBN.out.fit) k
                      obtain ⟨e1, e2, e3⟩ := HKw.out.rA.trip' hlt
                      have hbd := HO.out.2 hs[k] (List.getElem_mem _)
                      have HX : Hid (hs.getD k (0, 0, 0) = (hs[k].1, hs[k].2.1, hs[k].2.2)) := by
                        show _ = _
                        simp [List.getD_eq_getElem?_getD, List.getElem?_eq_getElem hlt]
                      have HFk : Hid (fs.getD k (0, 0, 0) = (hs[k].1, hs[k].2.1, hs[k].2.2)) := ((HN.out k hlt).2 (Nat.le_refl _)).trans HX.out
                      have HNs : ∀ gs, Hid ((∀ i, i ≠ k → gs.getD i (0, 0, 0) = fs.getD i (0, 0, 0)) → Freed (hs[k].1, hs[k].2.1, hs[k].2.2) (B.getD k 0) (gs.getD k (0, 0, 0)) → Now hs B gs (k + 1)) := fun gs h1 h2 => HN.out.next hlt h1 (by rw [HX.out]; exact h2)
                      have HBk : ∃ z, Hid (B.getD k 0 = z) := ⟨_, rfl⟩
                      obtain ⟨u, HBk⟩ := HBk
                      rw [HBk.out] at cB u0 u1 HNs
                      generalize hs[k].1 = v at *
                      generalize hs[k].2.1 = l at *
                      generalize hs[k].2.2 = m at *
                      obtain ⟨_, _, l0, lm, m0⟩ := hbd
                      have HLT2 := Lib.hid hlt
                      have hkz : (k : Int) < hs.length := by omega
                      have hkz0 : (0 : Int) ≤ (k : Int) := by omega
                      clear HN HX
                      go_wp2_with fail
                      generalize hWc : World.alloc wr _ = wc
                      obtain ⟨HFc, HKc, k1, k2, hsz⟩ := more_copy HF.out HKw.out hWc
                      have hFC : bF < wr.heap.size := HF.out.tr.lt
                      have hSC : bS < wr.heap.size := sl
                      generalize wr.heap.size = bC at k1 k2 hsz hFC hSC ⊢
                      clear hWc HF HKw y0 y1 cB s0 s1 e1 e2 e3 sl
                      have s0 := HFc.out.s0
                      have s1 := HFc.out.s1
                      have sl := HFc.out.sl
                      have cB := HKc.out.lst.atD (j := k) (by rw [hBN.out.fit.1]; exact hlt)
                      rw [HBk.out] at cB
                      have hlF : k < fs.length := by rw [HFc.out.len]; exact hlt
                      have HLF := Lib.hid hlF
                      obtain ⟨f1, f2, f3⟩ := HFc.out.tr.rd.trip' hlF
                      rw [Nat.zero_add] at f1 f2 f3
                      have z1 := HFc.out.tr.free (k * 3 + 1)
                      have z2 := HFc.out.tr.free (k * 3 + 2)
                      have hFl := HFc.out.tr.lt
                      generalize fs[k].1 = fa at f1
                      generalize fs[k].2.1 = fb at f2
                      generalize fs[k].2.2 = fc at f3
                      have nCF : ¬ bC = bF := by omega
                      have nFC : ¬ bF = bC := by omega
                      have nSF : ¬ bS = bF := by omega
                      have nBF : ¬ bB = bF := by omega
                      clear hlF f1 hsz
                      by_cases q1 : l < u
                      · by_cases q2 : u < m
                        · have hl3 : 0 < l - 3 ∨ ¬ 0 < l - 3 := Decidable.em _
                          have hm5 : m + 5 < 500 ∨ ¬ m + 5 < 500 := Decidable.em _
                          rcases hl3 with hl3 | hl3
                          all_goals rcases hm5 with hm5 | hm5
                          all_goals
                            go_quiet (fail)
                            go_wp2_with fail
                            go_quiet (fail)
                            go_wp2_with fail
                            go_roundw
                            case rel => exact ⟨k + 1, _, by go_num, by omega, (((HFc.out.drewN _).put1 HLT2.out _).drewN _).put2 HLT2.out _, step12 HNs HLF.out HFk.out (freed_mk (by omega) (by omega) (by omega) (by omega) (by omega) (by omega))⟩
                            case measure => simp [intOf]; omega
                        · have q2' : decide (u < m) = false := decide_eq_false q2
                          have hl3 : 0 < l - 3 ∨ ¬ 0 < l - 3 := Decidable.em _
                          rcases hl3 with hl3 | hl3
                          all_goals
                            go_quiet (fail)
                            go_wp2_with fail
                            go_quiet (fail)
                            go_wp2_with fail
                            go_roundw
                            case rel => exact ⟨k + 1, _, by go_num, by omega, ((HFc.out.drewN _).put1 HLT2.out _).drewN _, step1 HNs HLF.out HFk.out (freed_mk (by omega) (by omega) (by omega) (by omega) (by omega) (by omega))⟩
                            case measure => simp [intOf]; omega
                      · have q1' : decide (l < u) = false := decide_eq_false q1
                        by_cases q2 : u < m
                        · have hm5 : m + 5 < 500 ∨ ¬ m + 5 < 500 := Decidable.em _
                          rcases hm5 with hm5 | hm5
                          all_goals
                            go_quiet (fail)
                            go_wp2_with fail
                            go_quiet (fail)
                            go_wp2_with fail
                            go_roundw
                            case rel => exact ⟨k + 1, _, by go_num, by omega, (HFc.out.drewN _).put2 HLT2.out _, step2 HNs HLF.out HFk.out (freed_mk (by omega) (by omega) (by omega) (by omega) (by omega) (by omega))⟩
                            case measure => simp [intOf]; omega
                        · have q2' : decide (u < m) = false := decide_eq_false q2
                          go_quiet (fail)
                          go_wp2_with fail
                          go_quiet (fail)
                          go_wp2_with fail
                          go_roundw
                          case rel => exact ⟨k + 1, fs, by go_num, by omega, HFc.out.drewN _, (HNs fs).out (fun i hi => rfl) (by rw [HFk.out]; exact (freed_mk (by omega) (by omega) (by omega) (by omega) (by omega) (by omega)))⟩
                          case measure => simp [intOf]; omega
                    · have hkz : ¬ (k : Int) < hs.length := by omega
                      have hfl := HF.out.len
                      obtain ⟨hck2, hB2⟩ := freed_same HCK.out hBN.out hfl (fun i hi => (HN.out i hi).1 (by omega))
                      have HB2 := Lib.hid hB2
                      have HC2 := Lib.hid hck2
                      have HFL := Lib.hid hfl
                      clear hfl hB2 hck2 hlt hk HN
                      go_wp2_with fail
                      have HBG := bidsG_any (some ⟨bF, 0, none⟩) cF p fs B wr HF.out.tr.rd HC2.out HB2.out
                      rw [HFL.out] at HBG
                      refine HBG.mono ?_
                      rintro e w14 ⟨bY, cY, rfl, hbY, hLY, hb14⟩
                      rw [HFL.out]
                      have HKz := Lib.hid (HKw.out.below hb14)
                      clear HBG
                      go_wp2_with fail
                      have HAl := alikeInt_any (some ⟨bY, 0, none⟩) (some ⟨bB, 0, none⟩) cY cB B B w14 hLY.rd HKz.out.lst.rd (by rw [hBN.out.fit.1]; omega)
                      rw [hBN.out.fit.1] at HAl
                      refine HAl.mono ?_
                      rintro e w15 ⟨rfl, hb15⟩
                      rw [decide_eq_true rfl]
                      have bl := (HKz.out.below hb15).bl
                      clear HAl
                      go_wp2_with fail
                      refine (awake_any w15).mono ?_
                      rintro e w16 ⟨rfl, hb16⟩
                      go_wp2_with fail
                      go_ret
                      exact ⟨rfl, bl.trans (hb16.mono bl.size)⟩
end Go.Proofs.Ytfojjecnmfkcfaa
