/- FeePaid returns true, whatever the numbers; what is passed in reads as it did. No condition. -/
import Derived.Test.YtfojjecnmfkcfaaP20
import Derived.Deep.DeepCutAuto
namespace Go.Proofs.Ytfojjecnmfkcfaa
open Go.RowKit
set_option linter.unusedVariables false
theorem rest_small {cs ps : List (Int × Int)} {g l : Int} (h : AccOk cs ps g l) (d : Int) : ∀ z ∈ restK cs ps d cs.length, -1000000000000 ≤ z ∧ z ≤ 1000000000000 := by
  intro z hz
  unfold restK at hz
  obtain ⟨i, _, rfl⟩ := List.mem_map.1 hz
  have := restOf_bd (day := d) (uptoF_nonneg h.p0 d) h.call i
  omega
set_option maxRecDepth 100000 in
set_option maxHeartbeats 8000000 in
theorem feePaid_walk (A1 : Option Addr) (c1 : Nat) (zs1 : List Int) (w : World) (h1 : Bytes w A1 zs1) :
    Calls Try.prog 13 #[.slice A1 zs1.length c1] w fun e w' => e = .returned (.bool true) ∧ Below w.heap.size w w' := by
  go_enter Try.func13, Try.ntmps13
  go_wp2_with fail
  refine (fill_any A1 c1 zs1 w h1).mono ?_
  rintro e w1 ⟨g1, rfl, hg1, hC1, hb1⟩
  go_wp2_with fail
  refine (madeAccount_any g1 A1 c1 zs1 6 6 w1 ⟨_, _, hC1⟩ (by omega) (by omega)).mono ?_
  rintro e w2 ⟨gr, la, cs, ps, v, u, x, y, rfl, hgr, hla, hcl, hpl, hEC, hEP, hov, hou, hC2, hg2⟩
  obtain ⟨A, cA, rfl, hEA⟩ := ent_of_own hov
  obtain ⟨B, cB, rfl, hEB⟩ := ent_of_own hou
  have hAcc : Acc w2 A B cA cB cs ps gr la := ⟨hEA, hEB, made_acc hgr hla hcl hpl hEC hEP⟩
  have b2 : Below w.heap.size w w2 := hb1.grown hg2 hb1.size (fun k hk => by injection hk; omega)
  obtain ⟨b, hb⟩ : ∃ b, Hid (b = w2.heap.size) := ⟨_, rfl⟩
  obtain ⟨W, hW⟩ : ∃ W, W = w2.alloc (.cells #[.slice A cs.length cA, .slice B ps.length cB, .int .i64 gr, .int .i64 la] 76) := ⟨_, rfl⟩
  have nw := news_new w2 [.slice A cs.length cA, .slice B ps.length cB, .int .i64 gr, .int .i64 la] 76 rfl
  have hbw := below_new w2 (.cells #[.slice A cs.length cA, .slice B ps.length cB, .int .i64 gr, .int .i64 la] 76)
  have hlb : w2.heap.size < W.heap.size := by rw [hW]; simp
  have x0 : W.cell? ⟨w2.heap.size, 0, none⟩ = some (.slice A cs.length cA) := by rw [hW]; exact nw 0 _ rfl
  have x1 : W.cell? ⟨w2.heap.size, 1, none⟩ = some (.slice B ps.length cB) := by rw [hW]; exact nw 1 _ rfl
  have x2 : W.cell? ⟨w2.heap.size, 2, none⟩ = some (.int .i64 gr) := by rw [hW]; exact nw 2 _ rfl
  have x3 : W.cell? ⟨w2.heap.size, 3, none⟩ = some (.int .i64 la) := by rw [hW]; exact nw 3 _ rfl
  have HA : Hid (Acc W A B cA cB cs ps gr la) := by rw [hW]; exact hAcc.next hbw
  have HB : Hid (Below w.heap.size w W) := by rw [hW]; exact b2.trans (hbw.mono b2.size)
  have HEC := Lib.hid hEC
  have HEP := Lib.hid hEP
  clear nw hbw b2 hAcc hEA hEB hov hou hC1 hC2 hg1 hg2 hb1 h1 hEC hEP hb
  go_wp2_with fail
  rw [← hW]
  generalize w2.heap.size = b at x0 x1 x2 x3 hlb ⊢
  clear hW
  refine (paidG_any HA.out).mono ?_
  rintro e w3 ⟨vp, rfl, hop, hb3⟩
  obtain ⟨P, cP, rfl, hcP, hP⟩ := own_slice hop
  have y0 := hb3.at_ hlb x0
  have y1 := hb3.at_ hlb x1
  have y2 := hb3.at_ hlb x2
  have y3 := hb3.at_ hlb x3
  have hl3 := Nat.lt_of_lt_of_le hlb hb3.size
  have HP3 := Lib.hid hP
  have HA3 := Lib.hid (HA.out.next hb3)
  have HB3 := Lib.hid (HB.out.trans (hb3.mono HB.out.size))
  clear x0 x1 x2 x3 hb3 hop hP HA HB hlb
  go_wp2_with fail
  refine (checkAccG_any HA3.out).mono ?_
  rintro e w4 ⟨rfl, hb4⟩
  have x0 := hb4.at_ hl3 y0
  have x1 := hb4.at_ hl3 y1
  have x2 := hb4.at_ hl3 y2
  have x3 := hb4.at_ hl3 y3
  have hlb := Nat.lt_of_lt_of_le hl3 hb4.size
  have HP := Lib.hid (HP3.out.next hb4)
  have HA := Lib.hid (HA3.out.next hb4)
  have HB := Lib.hid (HB3.out.trans (hb4.mono HB3.out.size))
  clear y0 y1 y2 y3 hb4 HP3 HA3 HB3 hl3
  go_wp2_with fail
  generalize hW4 : w4 = W4 at *
  go_loopw [6] (fun dv wr => ∃ d : Nat, dv = .int .i64 d ∧ d ≤ 130 ∧ Hid (Below W4.heap.size W4 wr)) (fun dv _ => 130 - (intOf dv).toNat)
  case atStart => exact ⟨0, rfl, by omega, Below.refl _ _⟩
  case round =>
    obtain ⟨d, rfl, hd, HW⟩ := hrel
    by_cases hlt : d < 130
    · have hlt' : (d : Int) < 130 := by omega
      have y0 := HW.out.at_ hlb x0
      have y1 := HW.out.at_ hlb x1
      have y2 := HW.out.at_ hlb x2
      have y3 := HW.out.at_ hlb x3
      have hlr := Nat.lt_of_lt_of_le hlb HW.out.size
      have HAr := Lib.hid (HA.out.next HW.out)
      have HPr := Lib.hid (HP.out.next HW.out)
      go_wp2_with fail
      refine (restsG_any HAr.out (by omega) (by omega)).mono ?_
      rintro e w5 ⟨vr, rfl, hor, hb5⟩
      obtain ⟨Q, cQ, rfl, hcQ, hQ⟩ := own_slice hor
      have HQ5 := Lib.hid hQ
      have z0 := hb5.at_ hlr y0
      have z1 := hb5.at_ hlr y1
      have z2 := hb5.at_ hlr y2
      have z3 := hb5.at_ hlr y3
      have hl5 := Nat.lt_of_lt_of_le hlr hb5.size
      have HA5 := Lib.hid (HAr.out.next hb5)
      have HP5 := Lib.hid (HPr.out.next hb5)
      have HW5 := Lib.hid (HW.out.trans (hb5.mono HW.out.size))
      clear y0 y1 y2 y3 hb5 hor hQ HAr HPr hlr
      go_wp2_with fail
      refine (owingG_any HA5.out (by omega) (by omega)).mono ?_
      rintro e w6 ⟨rfl, hb6⟩
      have y0 := hb6.at_ hl5 z0
      have y1 := hb6.at_ hl5 z1
      have y2 := hb6.at_ hl5 z2
      have y3 := hb6.at_ hl5 z3
      have hl6 := Nat.lt_of_lt_of_le hl5 hb6.size
      have HA6 := Lib.hid (HA5.out.next hb6)
      have HP6 := Lib.hid (HP5.out.next hb6)
      have HQ6 := Lib.hid (HQ5.out.next hb6)
      have HW6 := Lib.hid (HW5.out.trans (hb6.mono HW5.out.size))
      clear z0 z1 z2 z3 hb6 HA5 HP5 HQ5 HW5 hl5
      obtain ⟨sc, HSC⟩ : ∃ s, Hid (uptoF cs d = s) := ⟨_, rfl⟩
      obtain ⟨sp, HSP⟩ : ∃ s, Hid (uptoF ps d = s) := ⟨_, rfl⟩
      obtain ⟨ow, HOW⟩ : ∃ s, Hid (max 0 (sc - sp) = s) := ⟨_, rfl⟩
      obtain ⟨cr, HCR⟩ : ∃ s, Hid (max 0 (sp - sc) = s) := ⟨_, rfl⟩
      rw [HSC.out, HSP.out, HOW.out, HCR.out]
      have hsum := restK_sum cs ps d cs.length
      rw [restSum_eq HA.out.ok.c0 d _ (uptoF_nonneg HA.out.ok.p0 d) _ (Nat.le_refl _), List.take_length, HSC.out, HSP.out, HOW.out] at hsum
      have htot := total10_any Q cQ (restK cs ps d cs.length) w6 HQ6.out (by rw [restK_length]; have := HA.out.ok.clen; omega) (rest_small HA.out.ok d)
      rw [restK_length, hsum] at htot
      have HTOT := Lib.hid htot
      clear hsum htot
      go_wp2_with fail
      refine HTOT.out.mono ?_
      rintro e w7 ⟨rfl, rfl⟩
      clear HTOT
      go_wp2_with fail
      generalize hw6 : w7 = W6 at *
      have hscb := uptoF_bd (l := cs) (fun e he => by have := HA.out.ok.call e he; omega) d
      have hspb := uptoF_bd (l := ps) (fun e he => by have := HA.out.ok.pall e he; omega) d
      rw [HSC.out] at hscb
      rw [HSP.out] at hspb
      have hcl8 := HA.out.ok.clen
      have hpl8 := HA.out.ok.plen
      go_loopw [13, 82] (fun gv iv wr2 => ∃ m : Nat, iv = .int .i64 m ∧ m ≤ ps.length ∧ gv = .int .i64 (uptoF (ps.take m) d) ∧ Hid (Below W6.heap.size W6 wr2)) (fun _ iv _ => ps.length - (intOf iv).toNat)
      case atStart => exact ⟨0, rfl, by omega, by rw [List.take_zero]; rfl, Below.refl _ _⟩
      case round =>
        obtain ⟨m, rfl, hm, rfl, HX⟩ := hrel
        by_cases hlm : m < ps.length
        · obtain ⟨b2, o2, rfl, hbb, e1, e2⟩ := (HA6.out.eb.rd.below HX.out).pair hlm
          have hbb' : b2 < wr.heap.size := Nat.lt_of_lt_of_le hbb HX.out.size
          obtain ⟨v1, v2, v3, v4⟩ := HA.out.ok.pall ps[m] (List.getElem_mem _)
          have hub := uptoF_bd (l := ps.take m) (fun e he => by have := HA.out.ok.pall e (List.mem_of_mem_take he); omega) d
          rw [List.length_take] at hub
          obtain ⟨hub1, hub2⟩ := hub
          have hS := uptoF_succ ps d m hlm
          by_cases hdd : ps[m].1 ≤ d
          · rw [if_pos hdd] at hS
            have HS := Lib.hid hS
            clear hS
            go_wp2_with fail
            go_roundw
            case rel => exact ⟨m + 1, by go_num, by omega, by rw [HS.out], HX.out.alloc HX.out.size _⟩
            case measure => simp [intOf]; omega
          · rw [if_neg hdd, Int.add_zero] at hS
            have HS := Lib.hid hS
            clear hS
            go_wp2_with fail
            go_roundw
            case rel => exact ⟨m + 1, by go_num, by omega, by rw [HS.out], HX.out.alloc HX.out.size _⟩
            case measure => simp [intOf]; omega
        · have hfin : uptoF (ps.take m) d = sp := by rw [List.take_of_length_le (by omega), HSP.out]
          rw [hfin]
          clear hfin
          have z0 := HX.out.at_ hl6 y0
          have hl7 := Nat.lt_of_lt_of_le hl6 HX.out.size
          have HA7 := Lib.hid (HA6.out.next HX.out)
          have HP7 := Lib.hid (HP6.out.next HX.out)
          have HQ7 := Lib.hid (HQ6.out.next HX.out)
          have HW7 := Lib.hid (HW6.out.trans (HX.out.mono HW6.out.size))
          clear HX y0 y1 y2 y3 HA6 HP6 HQ6 HW6
          go_wp2_with fail
          generalize hw7 : wr = W7 at *
          go_loopw [12, 16, 98] (fun cv ov iv wr2 => ∃ (m : Nat) (o : Bool), iv = .int .i64 m ∧ m ≤ cs.length ∧ cv = .int .i64 (uptoF (cs.take m) d) ∧ ov = .bool o ∧ Hid (o = true → sp < allOf cs m) ∧ Hid (Below W7.heap.size W7 wr2)) (fun _ _ iv _ => cs.length - (intOf iv).toNat)
          case atStart => exact ⟨0, false, rfl, by omega, by rw [List.take_zero]; rfl, rfl, fun h => (by cases h), Below.refl _ _⟩
          case round =>
            obtain ⟨m, o, rfl, hm, rfl, rfl, HO, HX⟩ := hrel
            by_cases hlm : m < cs.length
            · obtain ⟨b2, o2, rfl, hbb, e1, e2⟩ := (HA7.out.ea.rd.below HX.out).pair hlm
              obtain ⟨b3, o3, rfl, hbb3, e3⟩ := (HP7.out.below HX.out).int (t := paidL cs ps) (k := m) (by unfold paidL; rw [paidK_length]; exact hlm)
              obtain ⟨b4, o4, rfl, hbb4, e4⟩ := (HQ7.out.below HX.out).int (t := restK cs ps d cs.length) (k := m) (by rw [restK_length]; exact hlm)
              have f3 : (paidL cs ps)[m]'(by unfold paidL; rw [paidK_length]; exact hlm) = paidAt cs ps m := by simp [paidL, paidK]
              have f4 : (restK cs ps d cs.length)[m]'(by rw [restK_length]; exact hlm) = restOf cs d (uptoF ps d) m := by simp [restK]
              rw [f3] at e3
              rw [f4, HSP.out] at e4
              clear f3 f4
              have hbb' : b2 < wr.heap.size := Nat.lt_of_lt_of_le hbb HX.out.size
              have hbb3' : b3 < wr.heap.size := Nat.lt_of_lt_of_le hbb3 HX.out.size
              have hbb4' : b4 < wr.heap.size := Nat.lt_of_lt_of_le hbb4 HX.out.size
              have hmi : (m : Int) < cs.length := by omega
              obtain ⟨v1, v2, v3, v4⟩ := HA.out.ok.call cs[m] (List.getElem_mem _)
              have hub := uptoF_bd (l := cs.take m) (fun e he => by have := HA.out.ok.call e (List.mem_of_mem_take he); omega) d
              rw [List.length_take] at hub
              obtain ⟨hub1, hub2⟩ := hub
              have hS := uptoF_succ cs d m hlm
              have hgd : cs.getD m (0, 0) = cs[m] := by simp [List.getD_eq_getElem?_getD, List.getElem?_eq_getElem hlm]
              have HM := Lib.hid (allOf_mono (cs := cs) HA.out.ok.c0 (i := m) (j := m + 1) (by omega) (by omega))
              by_cases hdd : cs[m].1 ≤ d
              · rw [if_pos hdd] at hS
                have HS := Lib.hid hS
                have hT := told_of (cs := cs) (ps := ps) (d := (d : Int)) (fun e he => by have := HA.out.ok.call e he; omega) (up_of HA.out.ok.crise) (up_of HA.out.ok.prise) HA.out.ok.p0 hlm hdd
                obtain ⟨r0, r1, rz, ge, full, op⟩ := hT
                rw [hgd] at r1 ge full
                rw [HSP.out] at r0 r1 rz full op
                clear hS hgd
                generalize restOf cs d sp m = r at e4 r0 r1 rz full op
                generalize paidAt cs ps m = pd at e3 rz ge
                have d1 : decide (r < 0) = false := decide_eq_false (by omega)
                have d2 : decide (cs[m].2 < r) = false := decide_eq_false (by omega)
                have HCASE : ∃ (k : Nat), Hid (k = 0) ∧ ((r = 0 ∧ o = false ∧ pd ≠ -1 ∧ pd ≤ d ∧ cs[m].1 ≤ pd) ∨ (0 < r ∧ (o = true → r = cs[m].2) ∧ (pd = -1 ∨ (pd ≠ -1 ∧ (d : Int) < pd ∧ cs[m].1 ≤ pd)))) := by
                  refine ⟨0, rfl, ?_⟩
                  by_cases hr : r = 0
                  · obtain ⟨q1, q2⟩ := rz.1 hr
                    refine .inl ⟨hr, ?_, q1, q2, ge q1⟩
                    cases o with
                    | false => rfl
                    | true => have := full (HO.out rfl); omega
                  · refine .inr ⟨by omega, fun h => full (HO.out h), ?_⟩
                    by_cases hp : pd = -1
                    · exact .inl hp
                    · refine .inr ⟨hp, ?_, ge hp⟩
                      by_cases hq : pd ≤ d
                      · exact absurd (rz.2 ⟨hp, hq⟩) hr
                      · omega
                obtain ⟨_, _, hcase⟩ := HCASE
                have HOP := Lib.hid op
                clear rz ge full op HO HM
                rcases hcase with ⟨rfl, rfl, q1, q2, q3⟩ | ⟨q0, qo, hpd⟩
                · have d4 : (pd != -1) = true := by simpa using q1
                  have d5 : decide (pd ≤ d) = true := decide_eq_true q2
                  have d6 : decide (pd < cs[m].1) = false := decide_eq_false (by omega)
                  clear q1 q2 q3 HOP d1 r0 r1
                  go_wp2_with fail
                  go_quiet (fail)
                  go_wp2_with fail
                  go_quiet (fail)
                  go_wp2_with fail
                  go_roundw
                  case rel => exact ⟨m + 1, false, by go_num, by omega, by rw [HS.out], rfl, fun h => (by cases h), below_drewN (HX.out.alloc HX.out.size _) _⟩
                  case measure => simp [intOf]; omega
                · have dz : (r == 0) = false := by rw [beq_eq_false_iff_ne]; omega
                  have dp : decide (0 < r) = true := decide_eq_true q0
                  have HOP2 := Lib.hid (HOP.out q0)
                  clear HOP
                  rcases hpd with rfl | ⟨q1, q2, q3⟩
                  · cases o with
                    | false =>
                      clear qo
                      go_wp2_with fail
                      go_quiet (fail)
                      go_wp2_with fail
                      go_quiet (fail)
                      go_wp2_with fail
                      go_roundw
                      case rel => exact ⟨m + 1, true, by go_num, by omega, by rw [HS.out], rfl, fun _ => HOP2.out, below_drewN (HX.out.alloc HX.out.size _) _⟩
                      case measure => simp [intOf]; omega
                    | true =>
                      have qr := qo rfl
                      have d3 : (r != cs[m].2) = false := by simpa using qr
                      clear qo qr
                      go_wp2_with fail
                      go_quiet (fail)
                      go_wp2_with fail
                      go_quiet (fail)
                      go_wp2_with fail
                      go_roundw
                      case rel => exact ⟨m + 1, true, by go_num, by omega, by rw [HS.out], rfl, fun _ => HOP2.out, below_drewN (HX.out.alloc HX.out.size _) _⟩
                      case measure => simp [intOf]; omega
                  · have d4 : (pd != -1) = true := by simpa using q1
                    have d5 : decide (pd ≤ d) = false := decide_eq_false (by omega)
                    have d6 : decide (pd < cs[m].1) = false := decide_eq_false (by omega)
                    clear q1 q2 q3
                    cases o with
                    | false =>
                      clear qo
                      go_wp2_with fail
                      go_quiet (fail)
                      go_wp2_with fail
                      go_quiet (fail)
                      go_wp2_with fail
                      go_roundw
                      case rel => exact ⟨m + 1, true, by go_num, by omega, by rw [HS.out], rfl, fun _ => HOP2.out, below_drewN (HX.out.alloc HX.out.size _) _⟩
                      case measure => simp [intOf]; omega
                    | true =>
                      have qr := qo rfl
                      have d3 : (r != cs[m].2) = false := by simpa using qr
                      clear qo qr
                      go_wp2_with fail
                      go_quiet (fail)
                      go_wp2_with fail
                      go_quiet (fail)
                      go_wp2_with fail
                      go_roundw
                      case rel => exact ⟨m + 1, true, by go_num, by omega, by rw [HS.out], rfl, fun _ => HOP2.out, below_drewN (HX.out.alloc HX.out.size _) _⟩
                      case measure => simp [intOf]; omega
              · rw [if_neg hdd, Int.add_zero] at hS
                have HS := Lib.hid hS
                rw [restOf_far hlm hdd] at e4
                have hdd' : (d : Int) < cs[m].1 := by omega
                clear hS hgd
                have HO2 : Hid (o = true → sp < allOf cs (m + 1)) := fun h => by have h1 := HO.out h; have h2 := HM.out; omega
                clear HM
                go_wp2_with fail
                go_roundw
                case rel => exact ⟨m + 1, o, by go_num, by omega, by rw [HS.out], rfl, HO2, HX.out.alloc HX.out.size _⟩
                case measure => simp [intOf]; omega
            · have hfin : uptoF (cs.take m) d = sc := by rw [List.take_of_length_le (by omega), HSC.out]
              rw [hfin]
              clear hfin
              have HWE := Lib.hid (HW7.out.trans (HX.out.mono HW7.out.size))
              have hq1 : (if 0 < sc - sp then sc - sp else 0) = ow := by rw [← HOW.out]; split <;> omega
              have hq2 : (if 0 < sp - sc then sp - sc else 0) = cr := by rw [← HCR.out]; split <;> omega
              go_wp2_with fail
              all_goals
                go_roundw
                case rel => exact ⟨d + 1, by go_num, by omega, HWE⟩
                case measure => simp [intOf]; omega
    · have hdz : decide ((d : Int) < 130) = false := decide_eq_false (by omega)
      go_wp2_with fail
      refine (awake_any _).mono ?_
      rintro e w15 ⟨rfl, hb15⟩
      go_wp2_with fail
      go_ret
      have hx := HB.out.trans (HW.out.mono HB.out.size)
      exact ⟨rfl, hx.trans (hb15.mono hx.size)⟩
end Go.Proofs.Ytfojjecnmfkcfaa
