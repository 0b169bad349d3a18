/- fee.Refunds. -/
import Derived.Test.YtfojjecnmfkcfaaGreatRefund
import Derived.Test.YtfojjecnmfkcfaaGreatP24
namespace Go.Proofs.YtfojjecnmfkcfaaGreat
open Go.RowKit
set_option linter.unusedVariables false
set_option maxRecDepth 100000 in
set_option maxHeartbeats 8000000 in
theorem Refunds_any (A : Option Addr) (c : Nat) (p : Int) (hs : List (Int × Int × Int)) (L : Option Addr) (cl : Nat) (qs : List Int) (M : Option Addr) (cm : Nat) (ls : List Int) (days : Int) (w : World) (hr : Rd w w.heap.size A (trips hs)) (hl : hs.length ≤ 1000) (hq : Rd w w.heap.size L (ints qs)) (hql : qs.length ≤ 1000) (hm : Rd w w.heap.size M (ints ls)) (hml : ls.length ≤ 1000) :
    Calls Tryz.prog 31 #[.agg #[.int .i64 p, .slice A hs.length c], .slice L qs.length cl, .slice M ls.length cm, .int .i64 days] w (RetRd (refundL p hs qs ls days) (refundS p hs qs ls days) (refundCode p hs qs ls days) w) := by
  obtain ⟨i0, ihi, ihz0, ihz1, ihz2⟩ := info_parts infoIntP
  have HOP := fun w1 (hb : Below w.heap.size w w1) => Lib.hid (opened_any A c p hs w1 (hr.next hb) hl)
  have hempty : ∀ code, code ≠ 0 → refundCode p hs qs ls days = code → Hid (refundL p hs qs ls days = [] ∧ refundS p hs qs ls days = 0 ∧ refundCode p hs qs ls days = code) := by
    intro code h1 h2
    have h3 : refundL p hs qs ls days = [] := by unfold refundL; rw [if_neg (by rw [h2]; exact h1)]
    exact ⟨h3, by unfold refundS; rw [h3]; rfl, h2⟩
  have HE := Lib.hid hempty
  clear hempty
  by_cases h0 : givenCode p hs qs = 0
  · have hck : ckBill p hs = 0 := by
      unfold givenCode at h0
      by_cases h : ckBill p hs = 0
      · exact h
      · rw [if_neg h] at h0; exact absurd h0 h
    have hsc : sharesCode p hs.length qs = 0 := by unfold givenCode at h0; rwa [if_pos hck] at h0
    obtain ⟨hn, hz, _⟩ := sharesCode_ok hsc
    have hl6 := (housesOk_of hck).1
    obtain ⟨_, _, l1, _⟩ := ckBill_ok hck
    have HN := Lib.hid hn
    have HZ := Lib.hid hz
    have HRC : Hid (refundCode p hs qs ls days = if inB days 1 7 = true then (if ls.length = hs.length then (if ls.any (leftOkP days) = true then 4 else 0) else 3) else 4) := by show _ = _; unfold refundCode; rw [if_pos h0]
    have hq6 : qs.length ≤ 6 := by omega
    have hq1 : 1 ≤ qs.length := by omega
    have HSH := fun g ps w1 hd (hb : Below w.heap.size w w1) => Lib.hid (shares_any g p A hs.length c ps L cl qs w1 hd (hq.next hb) hql)
    rw [hsc] at HSH
    have H0 := Lib.hid hck
    clear h0 hsc hn hz hck
    go_enter Tryz.func31, Tryz.ntmps31
    go_wp2_with fail
    generalize hWa : World.alloc (World.alloc w _) _ = Wa
    have hba : Below w.heap.size w Wa := by rw [← hWa]; go_grown
    have ka : w.heap.size + 1 < Wa.heap.size := by rw [← hWa]; simp
    have ya0 : Wa.cell? ⟨w.heap.size, 0, none⟩ = some (.int .i64 p) := by rw [← hWa]; simp
    have ya1 : Wa.cell? ⟨w.heap.size, 1, none⟩ = some (.slice A hs.length c) := by rw [← hWa]; simp
    have ya2 : Wa.cell? ⟨w.heap.size + 1, 0, none⟩ = some (.int .i64 days) := by rw [← hWa]; simp
    clear hWa
    refine (HOP _ hba).out.mono ?_
    rintro e w1 (⟨_, g, rfl, hg, hd, hb1⟩ | ⟨hne, _⟩)
    · have hbw : Below w.heap.size w w1 := hba.trans (hb1.mono hba.size)
      have ka1 := Nat.lt_of_lt_of_le ka hb1.size
      have y1 := hb1.at_ (by omega) ya1
      have y2 := hb1.at_ ka ya2
      clear ya0 ya1 ya2 hba ka
      go_wp2_with fail
      refine (HSH g _ w1 hd hbw).out.mono ?_
      rintro e w2 ⟨rfl, hb2⟩
      have hbw2 := hbw.trans (hb2.mono hbw.size)
      have ka2 := Nat.lt_of_lt_of_le ka1 hb2.size
      have y1 := hb2.at_ (by omega) y1
      have y2 := hb2.at_ ka1 y2
      clear hb1 hb2 hbw hd hg HOP HSH
      by_cases hin : inB days 1 7 = true
      · obtain ⟨dy1, dy7⟩ := inB_iff.1 hin
        have hin' : (!inB days 1 7) = false := by rw [hin]; rfl
        have HRC2 : Hid (refundCode p hs qs ls days = if ls.length = hs.length then (if ls.any (leftOkP days) = true then 4 else 0) else 3) := by show _ = _; rw [HRC.out, if_pos hin]
        by_cases hlen : ls.length = hs.length
        · have hlb : ((ls.length : Int) != (hs.length : Int)) = false := by rw [bne_eq_false_iff_eq]; omega
          have HRC3 : Hid (refundCode p hs qs ls days = if ls.any (leftOkP days) = true then 4 else 0) := by show _ = _; rw [HRC2.out, if_pos hlen]
          have HLN : Hid (ls.length = qs.length) := by show _ = _; have := HN.out; omega
          have HEV := Lib.hid (everyLeft_any M cm ls days ⟨w.heap.size + 1, 0, none⟩ w2 y2 ka2 (hm.next hbw2) hml)
          unfold F_Left at HEV
          have hl7 : ls.length ≤ 6 := by omega
          clear hlen
          by_cases hany : ls.any (leftOkP days) = true
          · have HRE := HE.out 4 (by omega) (by rw [HRC3.out, if_pos hany])
            rw [hany] at HEV
            clear hany
            go_wp2_with fail
            refine (in_any _ _ _ _).mono ?_
            rintro e w3 ⟨rfl, rfl⟩
            rw [hin]
            go_wp2_with fail
            refine HEV.out.mono ?_
            rintro e w3 ⟨rfl, hb3⟩
            go_wp2_with fail
            go_ret3
            rw [HRE.out.1, HRE.out.2.1, HRE.out.2.2]
            exact ⟨_, _, rfl, Rd.nil, hbw2.trans (hb3.mono hbw2.size)⟩
          · have hno : ls.any (leftOkP days) = false := by simpa using hany
            rw [hno] at HEV
            have hcode : refundCode p hs qs ls days = 0 := by rw [HRC3.out, hno]; rfl
            have HRE : Hid (refundL p hs qs ls days = refundK qs ls days qs.length ∧ refundS p hs qs ls days = (refundK qs ls days qs.length).sum ∧ refundCode p hs qs ls days = 0) := by
              have h3 : refundL p hs qs ls days = refundK qs ls days qs.length := by unfold refundL; rw [if_pos hcode]
              exact ⟨h3, by unfold refundS; rw [h3], hcode⟩
            have hlz : ∀ z ∈ ls, 0 ≤ z ∧ z ≤ days := fun z h => by
              have h2 := List.any_eq_false.1 hno z h
              simp only [leftOkP, Bool.not_eq_true', Bool.not_eq_false, inB_iff] at h2
              exact h2
            have HBD := Lib.hid (fun k => refund_bd HZ.out dy1 dy7 hlz k)
            have HKB := Lib.hid (fun k => refundK_bd HZ.out dy1 dy7 hlz k)
            obtain ⟨bq, oq, rfl, hbq⟩ := hq.addr (k := 0) (by rw [ints_length]; omega)
            obtain ⟨bm, om, rfl, hbm⟩ := hm.addr (k := 0) (by rw [ints_length]; have := HLN.out; omega)
            clear hany hno hcode hlz
            go_wp2_with fail
            refine (in_any _ _ _ _).mono ?_
            rintro e w3 ⟨rfl, rfl⟩
            rw [hin]
            go_wp2_with fail
            refine HEV.out.mono ?_
            rintro e W4 ⟨rfl, hb3⟩
            have HB4 := Lib.hid (hbw2.trans (hb3.mono hbw2.size))
            have Y4 := Lib.hid (hb3.at_ ka2 y2)
            have ka4 := Nat.lt_of_lt_of_le ka2 hb3.size
            clear hb3 HEV y1 y2 hbw2 hin hin' hlb
            go_wp2_with fail
            go_loopw [13, 14, 15, 49] (fun v _ _ iv wr => ∃ (i : Nat) (v0 : Value), v0 = v ∧ iv = .int .i64 i ∧ i ≤ qs.length ∧ Hid (wr.ownsRow W4.heap.size 3 1 v0 i (ints (refundK qs ls days i))) ∧ Hid (Below W4.heap.size W4 wr)) (fun _ _ _ iv _ => qs.length - (intOf iv).toNat)
            case atStart => exact ⟨0, _, rfl, rfl, Nat.zero_le _, World.ownsRow_nil _ _ _ _, Below.refl _ _⟩
            case round =>
              obtain ⟨i, v0, hv0, rfl, hi, HOW, HY⟩ := hrel
              subst hv0
              by_cases hiq : i < qs.length
              · have hil : i < ls.length := by have := HLN.out; omega
                have HKS := Lib.hid (refundK_succ qs ls days i)
                have hbd := HBD.out i
                have e1 : qs.getD i 0 = qs[i] := by simp [List.getD_eq_getElem?_getD, List.getElem?_eq_getElem hiq]
                have e2 : ls.getD i 0 = ls[i] := by simp [List.getD_eq_getElem?_getD, List.getElem?_eq_getElem hil]
                rw [e1, e2] at hbd HKS
                obtain ⟨b0, b1, b2, b3⟩ := hbd
                obtain ⟨a, ha⟩ : ∃ a, qs[i] * ls[i] = a := ⟨_, rfl⟩
                rw [ha] at b0 b1 b2 b3 HKS
                have wz : IntKind.i64.wrap (qs[i] * ls[i]) = a := by rw [ha]; exact IntWalk.i64_in _ (by omega)
                obtain ⟨f, hf⟩ : ∃ f, a / days = f := ⟨_, rfl⟩
                rw [hf] at b2 b3 HKS
                have wf : a.tdiv days = f := by rw [Int.tdiv_eq_ediv_of_nonneg b0]; exact hf
                have ww : IntKind.i64.wrap f = f := IntWalk.i64_in _ (by omega)
                have hd0 : ¬ days = 0 := by omega
                have hiz : (i : Int) < qs.length := by omega
                have hiz2 : (i : Int) < ls.length := by omega
                have hi0 : (0 : Int) ≤ (i : Int) := by omega
                have hbr := HB4.out.trans (HY.out.mono HB4.out.size)
                have s1 := (hq.below hbr).int' hiq
                have s2 := (hm.below hbr).int' hil
                have hbq' : bq < wr.heap.size := Nat.lt_of_lt_of_le hbq hbr.size
                have hbm' : bm < wr.heap.size := Nat.lt_of_lt_of_le hbm hbr.size
                have yd := HY.out.at_ ka4 Y4.out
                have kd := Nat.lt_of_lt_of_le ka4 HY.out.size
                clear e1 e2 ha hbr
                obtain ⟨Wr, hWr⟩ : ∃ x, x = wr := ⟨_, rfl⟩
                subst hWr
                go_upto_region 17 with fail
                refine wp_inv 10 (by kernel_rfl) (by kernel_rfl) (by kernel_rfl) (by decide) (FL [PEq v0, PEq (.int .i64 qs[i]), PEq (.slice (some ⟨bm, om, none⟩) ls.length cm), PEq (.int .i64 (i : Int)), PEq (.pointer (some ⟨bm, om + i, none⟩)), PEq (.int .i64 ls[i]), PEq (.int .i64 a), PEq (.int .i64 days), PEq (.int .i64 f), PRow Wr.heap.size [.int .i64 f]])
                  (fun x => Below Wr.heap.size Wr x) (fun x y => Below x.heap.size x y) (FL.keepB (by simp [stbB_eq, stbB_row])) (below_drew Wr) ?_ ?_
                · intro i o hi' ho listed vals a w5 hdep hM hAt K hK
                  have HI := Lib.hid hM.inv
                  match i, hi' with
                  | 0, _ =>
                    injection ho with ho
                    subst ho
                    obtain ⟨e13, e13'⟩ := hAt.slot 13 (by kernel_rfl) (by rfl)
                    go_simp
                    exact hK _ w5 (Below.refl _ _) HI.out rfl
                  | 1, _ =>
                    injection ho with ho
                    subst ho
                    obtain ⟨e15, e15'⟩ := hAt.slot 15 (by kernel_rfl) (by rfl)
                    go_simp
                    exact hK _ w5 (Below.refl _ _) HI.out rfl
                  | 2, _ =>
                    injection ho with ho
                    subst ho
                    obtain ⟨e2, e2'⟩ := hAt.slot 2 (by kernel_rfl) (by rfl)
                    go_simp
                    exact hK _ w5 (Below.refl _ _) HI.out rfl
                  | 3, _ =>
                    injection ho with ho
                    subst ho
                    obtain ⟨e14, e14'⟩ := hAt.slot 14 (by kernel_rfl) (by rfl)
                    go_simp
                    exact hK _ w5 (Below.refl _ _) HI.out rfl
                  | 4, _ =>
                    injection ho with ho
                    subst ho
                    have l2 := hdep ⟨2, .data⟩ (by simp) rfl
                    obtain ⟨x2, x2'⟩ := hAt.dep 2 (d := 56) (by omega) l2 (by rfl) (hM.fact 2 (by omega) l2)
                    have l3 := hdep ⟨3, .data⟩ (by simp) rfl
                    obtain ⟨x3, x3'⟩ := hAt.dep 3 (d := 57) (by omega) l3 (by rfl) (hM.fact 3 (by omega) l3)
                    go_simp
                    exact hK _ w5 (Below.refl _ _) HI.out rfl
                  | 5, _ =>
                    injection ho with ho
                    subst ho
                    have l4 := hdep ⟨4, .data⟩ (by simp) rfl
                    obtain ⟨x4, x4'⟩ := hAt.dep 4 (d := 58) (by omega) l4 (by rfl) (hM.fact 4 (by omega) l4)
                    have c0 := HI.out.at_ hbm' s2
                    have c1 := Nat.lt_of_lt_of_le hbm' HI.out.size
                    go_simp
                    exact hK _ w5 (Below.refl _ _) HI.out rfl
                  | 6, _ =>
                    injection ho with ho
                    subst ho
                    have l1 := hdep ⟨1, .data⟩ (by simp) rfl
                    obtain ⟨x1, x1'⟩ := hAt.dep 1 (d := 55) (by omega) l1 (by rfl) (hM.fact 1 (by omega) l1)
                    have l5 := hdep ⟨5, .data⟩ (by simp) rfl
                    obtain ⟨x5, x5'⟩ := hAt.dep 5 (d := 59) (by omega) l5 (by rfl) (hM.fact 5 (by omega) l5)
                    go_simp
                    exact hK _ w5 (Below.refl _ _) HI.out rfl
                  | 7, _ =>
                    injection ho with ho
                    subst ho
                    obtain ⟨e7, e7'⟩ := hAt.slot 7 (by kernel_rfl) (by rfl)
                    have c0 := HI.out.at_ kd yd
                    have c1 := Nat.lt_of_lt_of_le kd HI.out.size
                    go_simp
                    exact hK _ w5 (Below.refl _ _) HI.out rfl
                  | 8, _ =>
                    injection ho with ho
                    subst ho
                    have l6 := hdep ⟨6, .data⟩ (by simp) rfl
                    obtain ⟨x6, x6'⟩ := hAt.dep 6 (d := 60) (by omega) l6 (by rfl) (hM.fact 6 (by omega) l6)
                    have l7 := hdep ⟨7, .data⟩ (by simp) rfl
                    obtain ⟨x7, x7'⟩ := hAt.dep 7 (d := 61) (by omega) l7 (by rfl) (hM.fact 7 (by omega) l7)
                    go_simp
                    exact hK _ w5 (Below.refl _ _) HI.out rfl
                  | 9, _ =>
                    injection ho with ho
                    subst ho
                    have l8 := hdep ⟨8, .data⟩ (by simp) rfl
                    obtain ⟨x8, x8'⟩ := hAt.dep 8 (d := 62) (by omega) l8 (by rfl) (hM.fact 8 (by omega) l8)
                    go_simp
                    exact hK _ _ (below_new _ _) (HI.out.alloc HI.out.size _) ⟨w5.heap.size, rfl, HI.out.size, by simp, news_new w5 [.int .i64 f] _ rfl⟩
                · intro vals w5 hM
                  have HI := Lib.hid hM.inv
                  have f0 : vals 0 = v0 := hM.all (by decide) 0 (by omega)
                  have f1 : vals 1 = .int .i64 qs[i] := hM.all (by decide) 1 (by omega)
                  have f2 : vals 2 = .slice (some ⟨bm, om, none⟩) ls.length cm := hM.all (by decide) 2 (by omega)
                  have f3 : vals 3 = .int .i64 (i : Int) := hM.all (by decide) 3 (by omega)
                  have f4 : vals 4 = .pointer (some ⟨bm, om + i, none⟩) := hM.all (by decide) 4 (by omega)
                  have f5 : vals 5 = .int .i64 ls[i] := hM.all (by decide) 5 (by omega)
                  have f6 : vals 6 = .int .i64 a := hM.all (by decide) 6 (by omega)
                  have f7 : vals 7 = .int .i64 days := hM.all (by decide) 7 (by omega)
                  have f8 : vals 8 = .int .i64 f := hM.all (by decide) 8 (by omega)
                  obtain ⟨k9, f9, g9, z9, h9⟩ := hM.all (by decide) 9 (by omega)
                  clear hM
                  simp only [putAll, List.range, List.range.loop, List.foldl_cons, List.foldl_nil, f0, f1, f2, f3, f4, f5, f6, f7, f8, f9]
                  clear f0 f1 f2 f3 f4 f5 f6 f7 f8 f9
                  change wpAny _ _ _ _ _ _ (Act.put (Act.put (Act.put (Act.put (Act.put (Act.put (Act.put (Act.put (Act.put (Act.put _ (some 54) _) (some 55) _) (some 56) _) (some 57) _) (some 58) _) (some 59) _) (some 60) _) (some 61) _) (some 62) _) (some 63) _) _
                  simp only [Act.put, List.setIfInBounds_toArray, List.set_cons_zero, List.set_cons_succ]
                  have HR := Lib.hid h9
                  clear h9
                  refine tail_step 10 _ (by kernel_rfl) rfl rfl (fun K' hK => ?_)
                  refine wp_append_own w5 _ _ _ rfl W4.heap.size 3 i0 _ 1 8 Tryz.underlying22 ihi ihz0 ihz1 ihz2 rfl (by decide) _ i (ints (refundK qs ls days i)) rfl (own_keep HOW.out HI.out) ⟨k9, 0, none⟩ 1 1 [.int .i64 f] rfl rfl HR.out (by simp [Value.oneCell']) (by simp only [maxLen]; omega) (by omega) (by have := HI.out.size; have := HY.out.size; omega) ?_
                  intro v1 w8 hown1 hgrow1 _
                  refine hK _ _ ?_
                  clear hK K'
                  have HY8 : Hid (Below W4.heap.size W4 w8) := (HY.out.trans (HI.out.mono HY.out.size)).grown hgrow1 (Nat.le_trans HY.out.size HI.out.size) (fun q hq => (HOW.out.lt q hq).1)
                  have HO1 : Hid (w8.ownsRow W4.heap.size 3 1 v1 (i + 1) (ints (refundK qs ls days (i + 1)))) := by
                    show World.ownsRow _ _ _ _ _ _ _
                    rw [HKS.out, ints_app]; exact hown1
                  clear hown1 hgrow1
                  refine tail_step 11 _ (by kernel_rfl) rfl rfl (fun K' hK => ?_)
                  go_simp
                  refine hK _ _ ?_
                  clear hK K'
                  refine wpAny_done (by kernel_rfl) ?_ _
                  go_wp2_with fail
                  go_roundw
                  case rel => exact ⟨i + 1, _, rfl, by go_num, by omega, HO1, HY8⟩
                  case measure => simp [intOf]; omega
              · obtain rfl : i = qs.length := by omega
                have hkb := HKB.out qs.length
                have hown := HOW.out
                obtain ⟨B, cB, rfl, _, hB⟩ := own_slice hown
                have HSUM : Hid (Calls Tryz.prog 82 #[.slice B qs.length cB] wr fun e w' => e = .returned (.int .i64 (refundK qs ls days qs.length).sum) ∧ wr = w') := by
                  have h := sum_any B cB (refundK qs ls days qs.length) wr hB (by rw [refundK_len]; omega) (fun z hz => by
                    unfold refundK at hz
                    obtain ⟨j, _, rfl⟩ := List.mem_map.1 hz
                    have h4 := HBD.out j
                    obtain ⟨_, _, t0, t1⟩ := h4
                    generalize qs.getD j 0 * ls.getD j 0 / days = x at *
                    omega)
                  rw [refundK_len] at h
                  exact h
                have HBB := Lib.hid hB
                clear hown hB
                go_wp2_with fail
                refine HSUM.out.mono ?_
                rintro e w9 ⟨rfl, rfl⟩
                go_wp2_with fail
                go_ret3
                rw [HRE.out.1, HRE.out.2.1, HRE.out.2.2]
                exact ⟨B, cB, by rw [refundK_len]; rfl, HBB.out, HB4.out.trans (HY.out.mono HB4.out.size)⟩
        · have hlb : ((ls.length : Int) != (hs.length : Int)) = true := by rw [bne_iff_ne]; omega
          have HRE := HE.out 3 (by omega) (by rw [HRC2.out, if_neg hlen])
          clear hlen
          go_wp2_with fail
          refine (in_any _ _ _ _).mono ?_
          rintro e w3 ⟨rfl, rfl⟩
          rw [hin]
          go_wp2_with fail
          go_ret3
          rw [HRE.out.1, HRE.out.2.1, HRE.out.2.2]
          exact ⟨_, _, rfl, Rd.nil, hbw2⟩
      · have hin0 : inB days 1 7 = false := by simpa using hin
        have HRE := HE.out 4 (by omega) (by rw [HRC.out, if_neg hin])
        clear hin
        go_wp2_with fail
        refine (in_any _ _ _ _).mono ?_
        rintro e w3 ⟨rfl, rfl⟩
        rw [hin0]
        go_wp2_with fail
        go_ret3
        rw [HRE.out.1, HRE.out.2.1, HRE.out.2.2]
        exact ⟨_, _, rfl, Rd.nil, hbw2⟩
    · exact absurd H0.out hne
  · have HRE := HE.out (givenCode p hs qs) h0 (by unfold refundCode; rw [if_neg h0])
    by_cases hck : ckBill p hs = 0
    · have hg : givenCode p hs qs = sharesCode p hs.length qs := by unfold givenCode; rw [if_pos hck]
      rw [hg] at HRE h0
      have HSH := fun g ps w1 hd (hb : Below w.heap.size w w1) => Lib.hid (shares_any g p A hs.length c ps L cl qs w1 hd (hq.next hb) hql)
      have h0' : (sharesCode p hs.length qs != 0) = true := by rw [bne_iff_ne]; exact h0
      have H0 := Lib.hid hck
      clear hck hg h0
      go_enter Tryz.func31, Tryz.ntmps31
      go_wp2_with fail
      refine (HOP _ (by go_grown)).out.mono ?_
      rintro e w1 (⟨_, g, rfl, hg, hd, hb1⟩ | ⟨hne, _⟩)
      · have hbw : Below w.heap.size w w1 := Below.trans (by go_grown) (hb1.mono (by simp; omega))
        go_wp2_with fail
        refine (HSH g _ w1 hd hbw).out.mono ?_
        rintro e w2 ⟨rfl, hb2⟩
        go_wp2_with fail
        go_ret3
        rw [HRE.out.1, HRE.out.2.1, HRE.out.2.2]
        exact ⟨_, _, rfl, Rd.nil, hbw.trans (hb2.mono hbw.size)⟩
      · exact absurd H0.out hne
    · have hg : givenCode p hs qs = ckBill p hs := by unfold givenCode; rw [if_neg hck]
      rw [hg] at HRE
      have h0' : (ckBill p hs != 0) = true := by rw [bne_iff_ne]; exact hck
      have H0 := Lib.hid hck
      clear hck hg h0
      go_enter Tryz.func31, Tryz.ntmps31
      go_wp2_with fail
      refine (HOP _ (by go_grown)).out.mono ?_
      rintro e w1 (⟨h, _⟩ | ⟨_, rfl, hb1⟩)
      · exact absurd h H0.out
      · have hbw : Below w.heap.size w w1 := Below.trans (by go_grown) (hb1.mono (by simp; omega))
        go_wp2_with fail
        go_ret3
        rw [HRE.out.1, HRE.out.2.1, HRE.out.2.2]
        exact ⟨_, _, rfl, Rd.nil, hbw⟩
end Go.Proofs.YtfojjecnmfkcfaaGreat
