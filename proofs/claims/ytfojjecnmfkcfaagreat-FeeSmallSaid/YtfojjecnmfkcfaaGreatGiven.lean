/- The reference's errors of shares, and its Outbids. -/
import Derived.Test.YtfojjecnmfkcfaaGreatP12
namespace Go.Proofs.YtfojjecnmfkcfaaGreat
open Go.RowKit
set_option linter.unusedVariables false
def givenCode (p : Int) (hs : List (Int × Int × Int)) (qs : List Int) : Int := if ckBill p hs = 0 then sharesCode p hs.length qs else ckBill p hs
theorem infoRPair : (Tryz.prog.info? 78).map (fun i => (i.zero, i.size, i.bytes)) = some (some (.agg #[.int .i64 0, .int .i64 0]), 2, 16) := by kernel_rfl
set_option maxRecDepth 100000 in
set_option maxHeartbeats 4000000 in
theorem rGiven_any (A : Option Addr) (c : Nat) (p : Int) (hs : List (Int × Int × Int)) (L : Option Addr) (cl : Nat) (qs : List Int) (w : World) (hr : Rd w w.heap.size A (trips hs)) (hl : hs.length ≤ 1000) (hq : Rd w w.heap.size L (ints qs)) (hql : qs.length ≤ 1000) :
    Calls Tryz.prog 88 #[.agg #[.int .i64 p, .slice A hs.length c], .slice L qs.length cl] w fun e w' => e = .returned (.int .i64 (givenCode p hs qs)) ∧ Below w.heap.size w w' := by
  have HC := fun w1 (hb : Below w.heap.size w w1) => Lib.hid (refCheck_any A c p hs w1 (hr.next hb) hl)
  by_cases h0 : ckBill p hs = 0
  · rw [h0] at HC
    have hG : givenCode p hs qs = sharesCode p hs.length qs := by unfold givenCode; rw [if_pos h0]
    rw [hG]
    clear hG h0
    go_enter Tryz.func88, Tryz.ntmps88
    go_wp2_with fail
    refine (HC _ (by go_grown)).out.mono ?_
    rintro e w1 ⟨rfl, hb1⟩
    have hbw : Below w.heap.size w w1 := Below.trans (by go_grown) (hb1.mono (by simp))
    have d0 := hb1.at_ (by simp) (news_new w [.int .i64 p, .slice A hs.length c] 56 rfl 0 _ rfl)
    have d1 := hb1.at_ (by simp) (news_new w [.int .i64 p, .slice A hs.length c] 56 rfl 1 _ rfl)
    have hz := hb1.size
    simp at hz d0 d1
    by_cases hn : qs.length = hs.length
    · have hnb : ((qs.length : Int) != (hs.length : Int)) = false := by rw [bne_eq_false_iff_eq]; omega
      have HS : Hid (sharesCode p hs.length qs = if qs.any shareOkP = true then 4 else if ¬ (qs.sum = p) then 8 else 0) := by
        show _ = _; unfold sharesCode; rw [if_neg (by simpa using hn)]
      have HQ := Lib.hid (hq.next hbw)
      have HN := Lib.hid hn
      clear hn
      go_wp2_with fail
      go_loop [6, 7] (fun sv iv => ∃ k : Nat, iv = .int .i64 k ∧ k ≤ qs.length ∧ sv = .int .i64 (qs.take k).sum ∧ Hid ((qs.take k).any shareOkP = false)) (fun _ iv => qs.length - (intOf iv).toNat)
      case atStart => exact ⟨0, rfl, Nat.zero_le _, by simp, rfl⟩
      case round =>
        obtain ⟨k, rfl, hk, rfl, HNo⟩ := hrel
        have hb := sum_le 500 (qs.take k) fun z h => by
          have h2 := List.any_eq_false.1 HNo.out z h
          simp only [shareOkP, Bool.not_eq_true', Bool.not_eq_false, inB_iff] at h2
          omega
        have hlen : ((qs.take k).length : Int) ≤ 1000 := by simp; omega
        have hlo : -500000 ≤ (qs.take k).sum := by omega
        have hhi : (qs.take k).sum ≤ 500000 := by omega
        clear hb hlen
        by_cases hlt : k < qs.length
        · obtain ⟨bq, oq, rfl, hbq, e1⟩ := HQ.out.int hlt
          have HSum := Lib.hid (take_sum qs k hlt)
          have HAny := Lib.hid (any_take_succ shareOkP qs k hlt)
          have hkz : (k : Int) < qs.length := by omega
          by_cases hin : inB qs[k] 0 500 = true
          · obtain ⟨i1, i2⟩ := inB_iff.1 hin
            have hin' : (!inB qs[k] 0 500) = false := by rw [hin]; rfl
            have HN2 : Hid ((qs.take (k + 1)).any shareOkP = false) := by
              show _ = false
              rw [HAny.out, HNo.out]; simp [shareOkP, hin]
            clear hin
            go_wp2_with fail
            refine (off_any _ _ _ _).mono ?_
            rintro e w2 ⟨rfl, rfl⟩
            go_wp2_with fail
            go_round
            case rel => exact ⟨k + 1, by go_num, by omega, by rw [HSum.out], HN2⟩
            case measure => simp [intOf]; omega
          · have hin' : (!inB qs[k] 0 500) = true := by simpa using hin
            have HYes : Hid (qs.any shareOkP = true) := List.any_eq_true.2 ⟨qs[k], List.getElem_mem _, hin'⟩
            clear hin
            go_wp2_with fail
            refine (off_any _ _ _ _).mono ?_
            rintro e w2 ⟨rfl, rfl⟩
            go_wp2_with fail
            go_ret
            exact ⟨ret_int (by rw [HS.out, if_pos HYes.out]), hbw⟩
        · obtain rfl : k = qs.length := by omega
          have hno := HNo.out
          rw [List.take_of_length_le (Nat.le_refl _)] at hno
          have e0 : (qs.take qs.length).sum = qs.sum := by rw [List.take_of_length_le (Nat.le_refl _)]
          rw [e0] at hlo hhi ⊢
          have HNN := Lib.hid hno
          clear hno e0
          by_cases hs' : qs.sum = p
          · have hsb : (qs.sum != p) = false := by rw [bne_eq_false_iff_eq]; exact hs'
            have HP := Lib.hid hs'
            clear hs'
            go_wp2_with fail
            go_ret
            exact ⟨ret_int (by rw [HS.out, if_neg (by rw [HNN.out]; simp), if_neg (by simpa using HP.out)]), hbw⟩
          · have hsb : (qs.sum != p) = true := by rw [bne_iff_ne]; exact hs'
            have HP := Lib.hid hs'
            clear hs'
            go_wp2_with fail
            go_ret
            exact ⟨ret_int (by rw [HS.out, if_neg (by rw [HNN.out]; simp), if_pos HP.out]), hbw⟩
    · have hnb : ((qs.length : Int) != (hs.length : Int)) = true := by rw [bne_iff_ne]; omega
      have HS : Hid (sharesCode p hs.length qs = 3) := by show _ = _; unfold sharesCode; rw [if_pos hn]
      clear hn
      go_wp2_with fail
      go_ret
      exact ⟨ret_int (by rw [HS.out]), hbw⟩
  · have hG : givenCode p hs qs = ckBill p hs := by unfold givenCode; rw [if_neg h0]
    rw [hG]
    have h0' : (ckBill p hs != 0) = true := by rw [bne_iff_ne]; exact h0
    clear hG h0
    go_enter Tryz.func88, Tryz.ntmps88
    go_wp2_with fail
    refine (HC _ (by go_grown)).out.mono ?_
    rintro e w1 ⟨rfl, hb1⟩
    have hbw : Below w.heap.size w w1 := Below.trans (by go_grown) (hb1.mono (by simp))
    go_wp2_with fail
    go_ret
    exact ⟨rfl, hbw⟩
set_option maxRecDepth 100000 in
set_option maxHeartbeats 8000000 in
theorem refOutbids_any (A : Option Addr) (c : Nat) (p : Int) (hs : List (Int × Int × Int)) (L : Option Addr) (cl : Nat) (qs : List Int) (w : World) (hr : Rd w w.heap.size A (trips hs)) (hl : hs.length ≤ 1000) (hq : Rd w w.heap.size L (ints qs)) (hql : qs.length ≤ 1000) :
    Calls Tryz.prog 30 #[.agg #[.int .i64 p, .slice A hs.length c], .slice L qs.length cl] w (RetOwnE 78 2 (outL p hs qs).length (pairs (outL p hs qs)) (outCode p hs qs) w) := by
  obtain ⟨i0, ihi, ihz0, ihz1, ihz2⟩ := info_parts infoRPair
  have HC := fun w1 (hb : Below w.heap.size w w1) => Lib.hid (rGiven_any A c p hs L cl qs w1 (hr.next hb) hl (hq.next hb) hql)
  by_cases h0 : givenCode p hs qs = 0
  · have hck : ckBill p hs = 0 := by
      unfold givenCode at h0
      by_cases h : ckBill p hs = 0
      · exact h
      · rw [if_neg h] at h0; exact absurd h0 h
    have hsc : sharesCode p hs.length qs = 0 := by unfold givenCode at h0; rwa [if_pos hck] at h0
    obtain ⟨hn, hz, _⟩ := sharesCode_ok hsc
    have ho := housesOk_of hck
    have hl6 := ho.1
    have HOC : Hid (outCode p hs qs = if limB hs qs hs.length then 0 else 9) := by show _ = _; unfold outCode; rw [if_pos hck, if_pos hsc]
    have HO := Lib.hid ho
    have HZ := Lib.hid hz
    have HN := Lib.hid hn
    obtain ⟨_, _, l1, _⟩ := ckBill_ok hck
    obtain ⟨bh, oh, rfl, hbh⟩ := hr.addr (k := 0) (by rw [trips_length]; omega)
    obtain ⟨bq, oq, rfl, hbq⟩ := hq.addr (k := 0) (by rw [ints_length]; omega)
    rw [h0] at HC
    clear h0 hck hsc ho hz hn
    go_enter Tryz.func30, Tryz.ntmps30
    go_wp2_with fail
    refine (HC _ (by go_grown)).out.mono ?_
    rintro e w1 ⟨rfl, hb1⟩
    have hbw : Below w.heap.size w w1 := Below.trans (by go_grown) (hb1.mono (by simp))
    have d0 := hb1.at_ (by simp) (news_new w [.int .i64 p, .slice (some ⟨bh, oh, none⟩) hs.length c] 56 rfl 0 _ rfl)
    have d1 := hb1.at_ (by simp) (news_new w [.int .i64 p, .slice (some ⟨bh, oh, none⟩) hs.length c] 56 rfl 1 _ rfl)
    have hz := hb1.size
    simp at hz d0 d1
    have X2 : Hid (w1.cell? ⟨w.heap.size, 0, none⟩ = some (.int .i64 p) ∧ w1.cell? ⟨w.heap.size, 1, none⟩ = some (.slice (some ⟨bh, oh, none⟩) hs.length c)) := ⟨d0, d1⟩
    have hzz : w.heap.size < w1.heap.size := by omega
    clear d0 d1 hb1 hz
    go_wp2_with fail
    go_loopw [7] (fun iv wr => ∃ k : Nat, iv = .int .i64 k ∧ k ≤ hs.length ∧ Hid (limB hs qs k = true) ∧ Hid (Below w1.heap.size w1 wr)) (fun iv _ => hs.length - (intOf iv).toNat)
    case atStart => exact ⟨0, rfl, Nat.zero_le _, rfl, Below.refl _ _⟩
    case round =>
      obtain ⟨k, rfl, hk, HLB, HX⟩ := hrel
      have hbr := hbw.trans (HX.out.mono hbw.size)
      by_cases hlt : k < hs.length
      · have hlq : k < qs.length := by have := HN.out; omega
        obtain ⟨x1, x2, x3⟩ := (hr.below hbr).trip' hlt
        have s1 := (hq.below hbr).int' hlq
        have hbh' : bh < wr.heap.size := Nat.lt_of_lt_of_le hbh hbr.size
        have hbq' : bq < wr.heap.size := Nat.lt_of_lt_of_le hbq hbr.size
        have y1 := HX.out.at_ hzz X2.out.2
        have yl := Nat.lt_of_lt_of_le hzz HX.out.size
        have hkz : (k : Int) < hs.length := by omega
        have hkq : (k : Int) < qs.length := by have := HN.out; omega
        have hk0 : (0 : Int) ≤ (k : Int) := by omega
        have eq1 : qs.getD k 0 = qs[k] := by simp [List.getD_eq_getElem?_getD, List.getElem?_eq_getElem hlq]
        have eM : hM hs k = hs[k].2.2 := by unfold hM; simp [List.getD_eq_getElem?_getD, List.getElem?_eq_getElem hlt]
        have eL : hL hs k = hs[k].2.1 := by unfold hL; simp [List.getD_eq_getElem?_getD, List.getElem?_eq_getElem hlt]
        have HSU := Lib.hid (limB_succ hs qs k)
        rw [eq1, eM, eL] at HSU
        have HFA := Lib.hid (limB_false (hs := hs) (qs := qs) hlt)
        rw [eq1, eM, eL] at HFA
        clear eq1 eM eL
        generalize qs[k] = q at *
        generalize hs[k].2.1 = lo at *
        generalize hs[k].2.2 = hi at *
        by_cases hin : inB q lo hi = true
        · have hin' : (!inB q lo hi) = false := by rw [hin]; rfl
          have HOFF : ∀ n, Hid (Calls Tryz.prog 75 #[.int .i64 q, .int .i64 lo, .int .i64 hi] (wr.drewN n) fun e w' => e = .returned (.bool false) ∧ w' = wr.drewN n) := fun n => by
            have h := off_any q lo hi (wr.drewN n)
            rw [hin'] at h
            exact h.mono fun e w' ⟨a, b⟩ => ⟨a, b.symm⟩
          clear hin'
          have HLB2 : Hid (limB hs qs (k + 1) = true) := by show _ = true; rw [HSU.out, HLB.out, hin]; rfl
          clear hin
          go_wp2_with fail
          go_quiet ((go_at_call 75; exact Calls.quiet_of_same (HOFF _).out))
          go_wp2_with fail
          go_roundw
          case rel => exact ⟨k + 1, by go_num, by omega, HLB2, below_drewN HX.out _⟩
          case measure => simp [intOf]; omega
        · have hin0 : inB q lo hi = false := by simpa using hin
          have hin' : (!inB q lo hi) = true := by rw [hin0]; rfl
          have HOFF : ∀ n, Hid (Calls Tryz.prog 75 #[.int .i64 q, .int .i64 lo, .int .i64 hi] (wr.drewN n) fun e w' => e = .returned (.bool true) ∧ w' = wr.drewN n) := fun n => by
            have h := off_any q lo hi (wr.drewN n)
            rw [hin'] at h
            exact h.mono fun e w' ⟨a, b⟩ => ⟨a, b.symm⟩
          clear hin'
          have hoc : outCode p hs qs = 9 := by rw [HOC.out, HFA.out hin0]; rfl
          have HRES : Hid (outL p hs qs = [] ∧ outCode p hs qs = 9) := ⟨by unfold outL; rw [hoc]; rfl, hoc⟩
          clear hoc
          clear hin
          go_wp2_with fail
          go_quiet ((go_at_call 75; exact Calls.quiet_of_same (HOFF _).out))
          go_wp2_with fail
          go_ret2
          rw [HRES.out.1, HRES.out.2]
          exact ⟨_, rfl, World.ownsRow_nil _ _ _ _, below_drewN hbr _⟩
      · obtain rfl : k = hs.length := by omega
        have hoc : outCode p hs qs = 0 := by rw [HOC.out, HLB.out]; rfl
        have hol : outL p hs qs = outRows hs qs hs.length := by unfold outL; rw [if_pos hoc]
        have HOL : Hid (outCode p hs qs = 0 ∧ outL p hs qs = outRows hs qs hs.length) := ⟨hoc, hol⟩
        have y1 := HX.out.at_ hzz X2.out.2
        have hkz : ¬ (hs.length : Int) < qs.length := by have := HN.out; omega
        clear hoc hol hlt HLB
        obtain ⟨W2, hW2⟩ : ∃ x, x = wr := ⟨_, rfl⟩
        subst hW2
        have HB2 := Lib.hid hbr
        have X3 : Hid (W2.cell? ⟨w.heap.size, 0, none⟩ = some (.int .i64 p) ∧ W2.cell? ⟨w.heap.size, 1, none⟩ = some (.slice (some ⟨bh, oh, none⟩) hs.length c)) := ⟨HX.out.at_ hzz X2.out.1, y1⟩
        have hz2 := Nat.lt_of_lt_of_le hzz HX.out.size
        clear hbr HX X2
        go_wp2_with fail
        go_loopw [8, 9, 10] (fun v iv _ wr => ∃ (i : Nat) (v0 : Value), v0 = v ∧ iv = .int .i64 i ∧ i ≤ hs.length ∧ Hid (wr.ownsRow W2.heap.size 78 2 v0 (outRows hs qs i).length (pairs (outRows hs qs i))) ∧ Hid (Below W2.heap.size W2 wr)) (fun _ iv _ _ => hs.length - (intOf iv).toNat)
        case atStart => exact ⟨0, _, rfl, rfl, Nat.zero_le _, World.ownsRow_nil _ _ _ _, Below.refl _ _⟩
        case round =>
          obtain ⟨i, v0, hv0, rfl, hi, HOW, HY⟩ := hrel
          subst hv0
          by_cases hil : i < hs.length
          · have hiz : (i : Int) < qs.length := by have := HN.out; omega
            have HOR := Lib.hid (outRows_succ hs qs i)
            have hol := outRows_len hs qs i
            have hmul : i * hs.length ≤ 36 := Nat.mul_le_mul (show i ≤ 6 by omega) hl6
            go_wp2_with fail
            go_loopw [8, 10] (fun v kv wr => ∃ (k : Nat) (v0 : Value), v0 = v ∧ kv = .int .i64 k ∧ k ≤ hs.length ∧ Hid (wr.ownsRow W2.heap.size 78 2 v0 (outRows hs qs i ++ outRow hs qs i k).length (pairs (outRows hs qs i ++ outRow hs qs i k))) ∧ Hid (Below W2.heap.size W2 wr)) (fun _ kv _ => hs.length - (intOf kv).toNat)
            case atStart => exact ⟨0, _, rfl, rfl, Nat.zero_le _, by simpa [outRow] using HOW, HY⟩
            case round =>
              clear HOW HY
              obtain ⟨k, v1, hv1, rfl, hk, HOW, HY⟩ := hrel
              subst hv1
              by_cases hkl : k < hs.length
              · have hkz : (k : Int) < qs.length := by have := HN.out; omega
                have x0 := HY.out.at_ hz2 X3.out.1
                have x1 := HY.out.at_ hz2 X3.out.2
                have xl := Nat.lt_of_lt_of_le hz2 HY.out.size
                have hbr := HB2.out.trans (HY.out.mono HB2.out.size)
                have HRO := Lib.hid (rOutbids_any (some ⟨bh, oh, none⟩) c p hs (some ⟨bq, oq, none⟩) cl qs i k wr (hr.next hbr) HO.out (hq.next hbr) HN.out HZ.out hil hkl)
                have hrl := outRow_len hs qs i k
                clear hbr
                go_wp2_with fail
                refine HRO.out.mono ?_
                rintro e w3 ⟨rfl, hb3⟩
                have HOW3 := Lib.hid (own_keep HOW.out hb3)
                have HY3 := Lib.hid (HY.out.trans (hb3.mono HY.out.size))
                clear HOW HY hb3 HRO x0 x1 xl
                by_cases hob : outB hs qs i k = true
                · have HMO := Lib.hid (outRow_more hob)
                  go_wp2_with (at_builtin; refine wpList_append_own_at _ rfl _ _ 73 rfl W2.heap.size 78 i0 _ 2 16 Tryz.underlying73 ihi ihz0 ihz1 ihz2 rfl (by decide) _ _ _ rfl (own_keep HOW3.out (below_new _ _)) ⟨w3.heap.size, 0, none⟩ 1 1 [.int .i64 i, .int .i64 k] rfl rfl (news_new _ _ _ rfl) (by simp [Value.oneCell']) (by simp only [maxLen, List.length_append]; omega) (by simp only [List.length_append]; omega) (by have := HY3.out.size; simp; omega) ?_; intro v2 w4 hown1 hgrow1 _ hat1)
                  go_roundw
                  case rel =>
                    refine ⟨k + 1, _, rfl, by go_num, by omega, ?_, ?_⟩
                    · rw [HMO.out, ← List.append_assoc]
                      have e : pairs ((outRows hs qs i ++ outRow hs qs i k) ++ [((i : Int), (k : Int))]) = pairs (outRows hs qs i ++ outRow hs qs i k) ++ [.int .i64 i, .int .i64 k] := by unfold pairs; rw [List.flatMap_append]; rfl
                      rw [e, List.length_append (bs := [_])]
                      exact hown1
                    · exact (HY3.out.alloc HY3.out.size _).grown hgrow1 (by have := HY3.out.size; simp; omega) (fun q hq => (HOW3.out.lt q hq).1)
                  case measure => simp [intOf]; omega
                · have hob0 : outB hs qs i k = false := by simpa using hob
                  have HMO := Lib.hid (outRow_skip hob0)
                  go_wp2_with fail
                  go_roundw
                  case rel => exact ⟨k + 1, _, rfl, by go_num, by omega, by rw [HMO.out]; exact HOW3, HY3⟩
                  case measure => simp [intOf]; omega
              · obtain rfl : k = hs.length := by omega
                have hkz : ¬ (hs.length : Int) < qs.length := by have := HN.out; omega
                go_wp2_with fail
                go_roundw
                case rel => exact ⟨i + 1, _, rfl, by go_num, by omega, by rw [HOR.out]; exact HOW, HY⟩
                case measure => simp [intOf]; omega
          · obtain rfl : i = hs.length := by omega
            have hkz : ¬ (hs.length : Int) < qs.length := by have := HN.out; omega
            go_wp2_with fail
            go_ret2
            rw [HOL.out.1, HOL.out.2]
            exact ⟨_, rfl, HOW.out.base_ HB2.out.size, HB2.out.trans (HY.out.mono HB2.out.size)⟩
  · have hoc : outCode p hs qs = givenCode p hs qs := by
      unfold outCode givenCode at *
      by_cases hck : ckBill p hs = 0
      · rw [if_pos hck] at h0 ⊢
        rw [if_neg h0, if_pos hck]
      · rw [if_neg hck, if_neg hck]
    have hol : outL p hs qs = [] := by unfold outL; rw [hoc, if_neg h0]
    rw [hoc, hol]
    have h0' : (givenCode p hs qs != 0) = true := by rw [bne_iff_ne]; exact h0
    clear h0 hoc hol
    go_enter Tryz.func30, Tryz.ntmps30
    go_wp2_with fail
    refine (HC _ (by go_grown)).out.mono ?_
    rintro e w1 ⟨rfl, hb1⟩
    have hbw : Below w.heap.size w w1 := Below.trans (by go_grown) (hb1.mono (by simp))
    go_wp2_with fail
    go_ret2
    exact ⟨_, rfl, World.ownsRow_nil _ _ _ _, hbw⟩
end Go.Proofs.YtfojjecnmfkcfaaGreat
