/- The reference's Refunds. -/
import Derived.Test.YtfojjecnmfkcfaaGreatGiven
import Derived.Test.YtfojjecnmfkcfaaGreatP14
import Derived.Test.YtfojjecnmfkcfaaGreatP25
namespace Go.Proofs.YtfojjecnmfkcfaaGreat
open Go.RowKit
set_option linter.unusedVariables false
def refundCode (p : Int) (hs : List (Int × Int × Int)) (qs ls : List Int) (days : Int) : Int :=
  if givenCode p hs qs = 0 then (if inB days 1 7 = true then (if ls.length = hs.length then (if ls.any (leftOkP days) = true then 4 else 0) else 3) else 4) else givenCode p hs qs
def refundK (qs ls : List Int) (days : Int) (k : Nat) : List Int := (List.range k).map fun i => qs.getD i 0 * ls.getD i 0 / days
def refundL (p : Int) (hs : List (Int × Int × Int)) (qs ls : List Int) (days : Int) : List Int := if refundCode p hs qs ls days = 0 then refundK qs ls days qs.length else []
def refundS (p : Int) (hs : List (Int × Int × Int)) (qs ls : List Int) (days : Int) : Int := (refundL p hs qs ls days).sum
theorem refundK_len (qs ls : List Int) (days : Int) (k : Nat) : (refundK qs ls days k).length = k := by simp [refundK]
theorem refundK_succ (qs ls : List Int) (days : Int) (k : Nat) : refundK qs ls days (k + 1) = refundK qs ls days k ++ [qs.getD k 0 * ls.getD k 0 / days] := by
  unfold refundK; rw [List.range_succ]; simp
theorem ints_app (l : List Int) (z : Int) : ints (l ++ [z]) = ints l ++ [.int .i64 z] := by unfold ints; simp
theorem refund_bd {qs ls : List Int} {days : Int} (hq : ∀ z ∈ qs, 0 ≤ z ∧ z ≤ 500) (h1 : 1 ≤ days) (h7 : days ≤ 7) (hl : ∀ z ∈ ls, 0 ≤ z ∧ z ≤ days) (k : Nat) : 0 ≤ qs.getD k 0 * ls.getD k 0 ∧ qs.getD k 0 * ls.getD k 0 ≤ 3500 ∧ 0 ≤ qs.getD k 0 * ls.getD k 0 / days ∧ qs.getD k 0 * ls.getD k 0 / days ≤ 3500 := by
  have a : 0 ≤ qs.getD k 0 ∧ qs.getD k 0 ≤ 500 := by
    by_cases hk : k < qs.length
    · have := hq qs[k] (List.getElem_mem _)
      simp [List.getD_eq_getElem?_getD, List.getElem?_eq_getElem hk]; omega
    · simp [List.getD_eq_getElem?_getD, List.getElem?_eq_none (show qs.length ≤ k by omega)]
  have b : 0 ≤ ls.getD k 0 ∧ ls.getD k 0 ≤ 7 := by
    by_cases hk : k < ls.length
    · have := hl ls[k] (List.getElem_mem _)
      simp [List.getD_eq_getElem?_getD, List.getElem?_eq_getElem hk]; omega
    · simp [List.getD_eq_getElem?_getD, List.getElem?_eq_none (show ls.length ≤ k by omega)]
  have m0 := Int.mul_nonneg a.1 b.1
  have m1 : qs.getD k 0 * ls.getD k 0 ≤ 500 * 7 := Int.mul_le_mul a.2 b.2 b.1 (by omega)
  have d0 : 0 ≤ qs.getD k 0 * ls.getD k 0 / days := Int.ediv_nonneg m0 (by omega)
  have d1 : qs.getD k 0 * ls.getD k 0 / days ≤ qs.getD k 0 * ls.getD k 0 := Int.ediv_le_self _ m0
  omega
theorem refundK_bd {qs ls : List Int} {days : Int} (hq : ∀ z ∈ qs, 0 ≤ z ∧ z ≤ 500) (h1 : 1 ≤ days) (h7 : days ≤ 7) (hl : ∀ z ∈ ls, 0 ≤ z ∧ z ≤ days) : ∀ k, 0 ≤ (refundK qs ls days k).sum ∧ (refundK qs ls days k).sum ≤ 3500 * k
  | 0 => by simp [refundK]
  | k + 1 => by
    have ih := refundK_bd hq h1 h7 hl k
    have := refund_bd hq h1 h7 hl k
    have e : (refundK qs ls days (k + 1)).sum = (refundK qs ls days k).sum + qs.getD k 0 * ls.getD k 0 / days := by rw [refundK_succ, List.sum_append]; simp
    rw [e]
    obtain ⟨_, _, t0, t1⟩ := this
    generalize qs.getD k 0 * ls.getD k 0 / days = x at *
    omega
theorem div_is {a d n : Int} (hd : 1 ≤ d) (h1 : n * d ≤ a) (h2 : a < (n + 1) * d) : n = a / d := by
  have e1 : n ≤ a / d := Int.le_ediv_of_mul_le (by omega) h1
  have e2 : a / d < n + 1 := Int.ediv_lt_of_lt_mul (by omega) h2
  omega
def RetRS (xs : List Int) (d code : Int) (W : World) (e : Ending) (w' : World) : Prop := RetRd xs d code W e w'
set_option maxRecDepth 100000 in
set_option maxHeartbeats 8000000 in
theorem refRefunds_any (A : Option Addr) (c : Nat) (p : Int) (hs : List (Int × Int × Int)) (L : Option Addr) (cl : Nat) (qs : List Int) (M : Option Addr) (cm : Nat) (ls : List Int) (days : Int) (w : World) (hr : Rd w w.heap.size A (trips hs)) (hl : hs.length ≤ 1000) (hq : Rd w w.heap.size L (ints qs)) (hql : qs.length ≤ 1000) (hm : Rd w w.heap.size M (ints ls)) (hml : ls.length ≤ 1000) :
    Calls Tryz.prog 32 #[.agg #[.int .i64 p, .slice A hs.length c], .slice L qs.length cl, .slice M ls.length cm, .int .i64 days] w (RetRd (refundL p hs qs ls days) (refundS p hs qs ls days) (refundCode p hs qs ls days) w) := by
  obtain ⟨i0, ihi, ihz0, ihz1, ihz2⟩ := info_parts infoIntP
  have HC := fun w1 (hb : Below w.heap.size w w1) => Lib.hid (rGiven_any A c p hs L cl qs w1 (hr.next hb) hl (hq.next hb) hql)
  have hempty : ∀ code, code ≠ 0 → refundCode p hs qs ls days = code → Hid (refundL p hs qs ls days = [] ∧ refundS p hs qs ls days = 0 ∧ refundCode p hs qs ls days = code) := by
    intro code h1 h2
    have h3 : refundL p hs qs ls days = [] := by unfold refundL; rw [if_neg (by rw [h2]; exact h1)]
    exact ⟨h3, by unfold refundS; rw [h3]; rfl, h2⟩
  have HE := Lib.hid hempty
  clear hempty
  by_cases h0 : givenCode p hs qs = 0
  · have hck : ckBill p hs = 0 := by
      unfold givenCode at h0
      by_cases h : ckBill p hs = 0
      · exact h
      · rw [if_neg h] at h0; exact absurd h0 h
    have hsc : sharesCode p hs.length qs = 0 := by unfold givenCode at h0; rwa [if_pos hck] at h0
    obtain ⟨hn, hz, _⟩ := sharesCode_ok hsc
    have hl6 := (housesOk_of hck).1
    obtain ⟨_, _, l1, _⟩ := ckBill_ok hck
    have HN := Lib.hid hn
    have HZ := Lib.hid hz
    have HRC : Hid (refundCode p hs qs ls days = if inB days 1 7 = true then (if ls.length = hs.length then (if ls.any (leftOkP days) = true then 4 else 0) else 3) else 4) := by show _ = _; unfold refundCode; rw [if_pos h0]
    have hq6 : qs.length ≤ 6 := by omega
    have hq1 : 1 ≤ qs.length := by omega
    rw [h0] at HC
    clear h0 hck hsc hn hz
    go_enter Tryz.func32, Tryz.ntmps32
    go_wp2_with fail
    refine (HC _ (by go_grown)).out.mono ?_
    rintro e w1 ⟨rfl, hb1⟩
    have hbw : Below w.heap.size w w1 := Below.trans (by go_grown) (hb1.mono (by simp))
    clear hb1
    by_cases hin : inB days 1 7 = true
    · obtain ⟨dy1, dy7⟩ := inB_iff.1 hin
      have hin' : (!inB days 1 7) = false := by rw [hin]; rfl
      have HRC2 : Hid (refundCode p hs qs ls days = if ls.length = hs.length then (if ls.any (leftOkP days) = true then 4 else 0) else 3) := by show _ = _; rw [HRC.out, if_pos hin]
      clear hin
      by_cases hlen : ls.length = qs.length
      · have hlb : ((ls.length : Int) != (qs.length : Int)) = false := by rw [bne_eq_false_iff_eq]; omega
        have HRC3 : Hid (refundCode p hs qs ls days = if ls.any (leftOkP days) = true then 4 else 0) := by show _ = _; rw [HRC2.out, if_pos (by rw [hlen]; exact HN.out)]
        have HLN := Lib.hid hlen
        have hl7 : ls.length ≤ 6 := by omega
        obtain ⟨bq, oq, rfl, hbq⟩ := hq.addr (k := 0) (by rw [ints_length]; omega)
        obtain ⟨bm, om, rfl, hbm⟩ := hm.addr (k := 0) (by rw [ints_length]; omega)
        clear hlen
        go_wp2_with fail
        refine (off_any _ _ _ _).mono ?_
        rintro e w2 ⟨rfl, rfl⟩
        go_wp2_with fail
        go_loopw [12] (fun iv wr => ∃ k : Nat, iv = .int .i64 k ∧ k ≤ ls.length ∧ Hid ((ls.take k).any (leftOkP days) = false) ∧ Hid (Below w1.heap.size w1 wr)) (fun iv _ => ls.length - (intOf iv).toNat)
        case atStart => exact ⟨0, rfl, Nat.zero_le _, rfl, Below.refl _ _⟩
        case round =>
          obtain ⟨k, rfl, hk, HNo, HX⟩ := hrel
          have hbr := hbw.trans (HX.out.mono hbw.size)
          by_cases hlt : k < ls.length
          · have s1 := (hm.below hbr).int' hlt
            have hbm' : bm < wr.heap.size := Nat.lt_of_lt_of_le hbm hbr.size
            have HAny := Lib.hid (any_take_succ (leftOkP days) ls k hlt)
            have hkz : (k : Int) < ls.length := by omega
            have hk0 : (0 : Int) ≤ (k : Int) := by omega
            by_cases hin : inB ls[k] 0 days = true
            · have hin' : (!inB ls[k] 0 days) = false := by rw [hin]; rfl
              have HN2 : Hid ((ls.take (k + 1)).any (leftOkP days) = false) := by show _ = false; rw [HAny.out, HNo.out]; simp [leftOkP, hin]
              clear hin
              go_wp2_with fail
              refine (off_any _ _ _ _).mono ?_
              rintro e w2 ⟨rfl, rfl⟩
              go_wp2_with fail
              go_roundw
              case rel => exact ⟨k + 1, by go_num, by omega, HN2, HX⟩
              case measure => simp [intOf]; omega
            · have hin' : (!inB ls[k] 0 days) = true := by simpa using hin
              have HRE := HE.out 4 (by omega) (by rw [HRC3.out, if_pos (List.any_eq_true.2 ⟨ls[k], List.getElem_mem _, hin'⟩)])
              clear hin
              go_wp2_with fail
              refine (off_any _ _ _ _).mono ?_
              rintro e w2 ⟨rfl, rfl⟩
              go_wp2_with fail
              go_ret3
              rw [HRE.out.1, HRE.out.2.1, HRE.out.2.2]
              exact ⟨_, _, rfl, Rd.nil, hbr⟩
          · obtain rfl : k = ls.length := by omega
            have hno := HNo.out
            rw [List.take_of_length_le (Nat.le_refl _)] at hno
            have hcode : refundCode p hs qs ls days = 0 := by rw [HRC3.out, hno]; rfl
            have HRE : Hid (refundL p hs qs ls days = refundK qs ls days qs.length ∧ refundS p hs qs ls days = (refundK qs ls days qs.length).sum ∧ refundCode p hs qs ls days = 0) := by
              have h3 : refundL p hs qs ls days = refundK qs ls days qs.length := by unfold refundL; rw [if_pos hcode]
              exact ⟨h3, by unfold refundS; rw [h3], hcode⟩
            have hlz : ∀ z ∈ ls, 0 ≤ z ∧ z ≤ days := fun z h => by
              have h2 := List.any_eq_false.1 hno z h
              simp only [leftOkP, Bool.not_eq_true', Bool.not_eq_false, inB_iff] at h2
              exact h2
            have HBD := Lib.hid (fun k => refund_bd HZ.out dy1 dy7 hlz k)
            have HKB := Lib.hid (fun k => refundK_bd HZ.out dy1 dy7 hlz k)
            clear hno hcode hlz hlt HNo
            obtain ⟨W2, hW2⟩ : ∃ x, x = wr := ⟨_, rfl⟩
            subst hW2
            have HB2 := Lib.hid hbr
            clear hbr HX
            go_wp2_with fail
            go_loopw [13, 14, 15, 16] (fun v sv iv _ wr => ∃ (i : Nat) (v0 : Value), v0 = v ∧ iv = .int .i64 i ∧ i ≤ ls.length ∧ sv = .int .i64 (refundK qs ls days i).sum ∧ Hid (wr.ownsRow W2.heap.size 3 1 v0 i (ints (refundK qs ls days i))) ∧ Hid (Below W2.heap.size W2 wr)) (fun _ _ iv _ _ => ls.length - (intOf iv).toNat)
            case atStart => exact ⟨0, _, rfl, rfl, Nat.zero_le _, rfl, World.ownsRow_nil _ _ _ _, Below.refl _ _⟩
            case round =>
              obtain ⟨i, v0, hv0, rfl, hi, rfl, HOW, HY⟩ := hrel
              subst hv0
              have hkb := HKB.out i
              by_cases hil : i < ls.length
              · have hiq : i < qs.length := by have := HLN.out; omega
                have HKS := Lib.hid (refundK_succ qs ls days i)
                have hbd := HBD.out i
                have e1 : qs.getD i 0 = qs[i] := by simp [List.getD_eq_getElem?_getD, List.getElem?_eq_getElem hiq]
                have e2 : ls.getD i 0 = ls[i] := by simp [List.getD_eq_getElem?_getD, List.getElem?_eq_getElem hil]
                rw [e1, e2] at hbd HKS
                obtain ⟨b0, b1, b2, b3⟩ := hbd
                obtain ⟨a, ha⟩ : ∃ a, qs[i] * ls[i] = a := ⟨_, rfl⟩
                rw [ha] at b0 b1 b2 b3 HKS
                have wz : IntKind.i64.wrap (qs[i] * ls[i]) = a := by rw [ha]; exact IntWalk.i64_in _ (by omega)
                have hiz : (i : Int) < ls.length := by omega
                have hiz2 : (i : Int) < qs.length := by omega
                have hi0 : (0 : Int) ≤ (i : Int) := by omega
                obtain ⟨f, hf⟩ : ∃ f, a / days = f := ⟨_, rfl⟩
                rw [hf] at b2 b3 HKS
                have hf1 : f * days ≤ a := by rw [← hf]; exact Int.ediv_mul_le _ (by omega)
                have hf2 : a < (f + 1) * days := by rw [← hf]; exact Int.lt_ediv_add_one_mul_self _ (by omega)
                have HF1 := Lib.hid hf1
                have HF2 := Lib.hid hf2
                clear e1 e2 ha hf1 hf2 hf
                go_wp2_with fail
                go_loopw [16] (fun nv wr => ∃ n : Int, nv = .int .i64 n ∧ 0 ≤ n ∧ n ≤ f ∧ Hid (wr.ownsRow W2.heap.size 3 1 v0 i (ints (refundK qs ls days i))) ∧ Hid (Below W2.heap.size W2 wr)) (fun nv _ => 4000 - (intOf nv).toNat)
                case atStart => exact ⟨0, rfl, by omega, by omega, HOW, HY⟩
                case round =>
                  clear HOW HY
                  obtain ⟨n, rfl, n0, n1, HOW, HY⟩ := hrel
                  have hbr := HB2.out.trans (HY.out.mono HB2.out.size)
                  have s1 := (hq.below hbr).int' hiq
                  have s2 := (hm.below hbr).int' hil
                  have hbq' : bq < wr.heap.size := Nat.lt_of_lt_of_le hbq hbr.size
                  have hbm' : bm < wr.heap.size := Nat.lt_of_lt_of_le hbm hbr.size
                  have hnd : 0 ≤ (n + 1) * days ∧ (n + 1) * days ≤ 3501 * 7 := ⟨Int.mul_nonneg (by omega) (by omega), Int.mul_le_mul (by omega) dy7 (by omega) (by omega)⟩
                  obtain ⟨x, hx⟩ : ∃ x, (n + 1) * days = x := ⟨_, rfl⟩
                  rw [hx] at hnd
                  have wx : IntKind.i64.wrap ((n + 1) * days) = x := by rw [hx]; exact IntWalk.i64_in _ (by omega)
                  have wn : IntKind.i64.wrap (n + 1) = n + 1 := IntWalk.i64_in _ (by omega)
                  by_cases hle : x ≤ a
                  · have hn1 : n + 1 ≤ f := by
                      by_cases h : n + 1 ≤ f
                      · exact h
                      · have e : n = f := by omega
                        have := HF2.out; rw [← e, hx] at this; omega
                    clear hx
                    go_wp2_with fail
                    go_quiet (fail)
                    go_wp2_with fail
                    go_roundw
                    case rel => exact ⟨n + 1, rfl, by omega, hn1, own_keep HOW.out (below_drewN (Below.refl _ _) _), below_drewN HY.out _⟩
                    case measure => simp [intOf]; omega
                  · have hnf : n = f := by
                      by_cases h : n = f
                      · exact h
                      · have h1 : (n + 1) * days ≤ f * days := Int.mul_le_mul_of_nonneg_right (by omega) (by omega)
                        have := HF1.out; omega
                    subst hnf
                    clear hx
                    go_wp2_with fail
                    go_quiet (fail)
                    go_wp2_with (at_builtin; refine wpList_append_own_at _ rfl _ _ 22 rfl W2.heap.size 3 i0 _ 1 8 Tryz.underlying22 ihi ihz0 ihz1 ihz2 rfl (by decide) _ i _ rfl (own_keep HOW.out ((below_drewN (Below.refl _ _) nq).trans ((below_new _ _).mono (Nat.le_refl _)))) ⟨wr.heap.size, 0, none⟩ 1 1 [.int .i64 n] rfl rfl (news_new _ _ _ rfl) (by simp [Value.oneCell']) (by simp only [maxLen]; omega) (by omega) (by have := HY.out.size; simp; omega) ?_; intro v2 w4 hown1 hgrow1 _ hat1)
                    refine ⟨⟨i + 1, _, rfl, by go_num, by omega, ?_, ?_, ?_⟩, by simp [intOf]; omega⟩
                    · rw [HKS.out, List.sum_append]; simp
                    · rw [HKS.out, ints_app]; exact hown1
                    · exact ((below_drewN HY.out nq).alloc HY.out.size _).grown hgrow1 (by have := HY.out.size; simp; omega) (fun q hq => (HOW.out.lt q hq).1)
              · obtain rfl : i = ls.length := by omega
                have hKL : Hid (ls.length = qs.length) := HLN.out
                go_wp2_with fail
                go_ret3
                rw [HRE.out.1, HRE.out.2.1, HRE.out.2.2]
                have hown := HOW.out
                rw [hKL.out] at hown ⊢
                obtain ⟨B, cB, rfl, _, hB⟩ := own_slice hown
                exact ⟨B, cB, by rw [refundK_len]; rfl, hB, HB2.out.trans (HY.out.mono HB2.out.size)⟩
      · have hlb : ((ls.length : Int) != (qs.length : Int)) = true := by rw [bne_iff_ne]; omega
        have HRE := HE.out 3 (by omega) (by rw [HRC2.out, if_neg (by have := HN.out; omega)])
        clear hlen
        go_wp2_with fail
        refine (off_any _ _ _ _).mono ?_
        rintro e w2 ⟨rfl, rfl⟩
        go_wp2_with fail
        go_ret3
        rw [HRE.out.1, HRE.out.2.1, HRE.out.2.2]
        exact ⟨_, _, rfl, Rd.nil, hbw⟩
    · have hin' : (!inB days 1 7) = true := by simpa using hin
      have HRE := HE.out 4 (by omega) (by rw [HRC.out, if_neg hin])
      clear hin
      go_wp2_with fail
      refine (off_any _ _ _ _).mono ?_
      rintro e w2 ⟨rfl, rfl⟩
      go_wp2_with fail
      go_ret3
      rw [HRE.out.1, HRE.out.2.1, HRE.out.2.2]
      exact ⟨_, _, rfl, Rd.nil, hbw⟩
  · have HRE := HE.out (givenCode p hs qs) h0 (by unfold refundCode; rw [if_neg h0])
    have h0' : (givenCode p hs qs != 0) = true := by rw [bne_iff_ne]; exact h0
    clear h0
    go_enter Tryz.func32, Tryz.ntmps32
    go_wp2_with fail
    refine (HC _ (by go_grown)).out.mono ?_
    rintro e w1 ⟨rfl, hb1⟩
    have hbw : Below w.heap.size w w1 := Below.trans (by go_grown) (hb1.mono (by simp))
    go_wp2_with fail
    go_ret3
    rw [HRE.out.1, HRE.out.2.1, HRE.out.2.2]
    exact ⟨_, _, rfl, Rd.nil, hbw⟩
end Go.Proofs.YtfojjecnmfkcfaaGreat
