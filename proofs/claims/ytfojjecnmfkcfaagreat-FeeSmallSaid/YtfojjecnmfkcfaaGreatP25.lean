/- The reference: the sum of all values, and the error of a bill with all values 0. The exact shares. The reference's exact shares. The reference's shares by remainders. The reference's Bids, with its error. -/
import Derived.Test.YtfojjecnmfkcfaaGreatP12
import Derived.Test.YtfojjecnmfkcfaaGreatP9
import Derived.Test.YtfojjecnmfkcfaaGreatP24
import Derived.Deep.LoopGhost
import Derived.Test.YtfojjecnmfkcfaaGreatP14
namespace Go.Proofs.YtfojjecnmfkcfaaGreat
open Go.RowKit
set_option linter.unusedVariables false
set_option maxHeartbeats 1000000 in
theorem rValues_any (A : Option Addr) (c : Nat) (p : Int) (hs : List (Int × Int × Int)) (w : World) (hr : Rd w w.heap.size A (trips hs)) (ho : housesOk hs) :
    Calls Tryz.prog 79 #[.agg #[.int .i64 p, .slice A hs.length c]] w fun e w' => e = .returned (.int .i64 (valueSum hs)) ∧ Below w.heap.size w w' := by
  have hl6 := ho.1
  go_enter Tryz.func79, Tryz.ntmps79
  go_wp2_with fail
  obtain ⟨W1, hW1⟩ : ∃ W1, W1 = w.alloc (.cells #[.int .i64 p, .slice A hs.length c] 56) := ⟨_, rfl⟩
  rw [← hW1]
  have c1 : W1.cell? ⟨w.heap.size, 1, none⟩ = some (.slice A hs.length c) := by rw [hW1]; exact news_new w [.int .i64 p, .slice A hs.length c] 56 rfl 1 _ rfl
  have k3 : Below w.heap.size w W1 := by rw [hW1]; exact below_new _ _
  have k4 : w.heap.size < W1.heap.size := by rw [hW1]; simp
  have hr1 := hr.below k3
  clear hW1
  go_wp2_with fail
  go_loop [3, 4] (fun v i => ∃ k : Nat, k ≤ hs.length ∧ i = .int .i64 k ∧ v = .int .i64 ((hs.map (·.1)).take k).sum) (fun _ i => hs.length - (intOf i).toNat)
  case atStart => exact ⟨0, Nat.zero_le _, rfl, by simp⟩
  case round =>
    obtain ⟨k, hk, rfl, rfl⟩ := hrel
    have hb := valueSum_bd hs ho k
    by_cases hlt : k < hs.length
    · obtain ⟨b, off, rfl, hbb, x1, x2, x3⟩ := hr1.trip hlt
      have HS := Lib.hid (map_take_sum hs k hlt)
      obtain ⟨u1, u2, _⟩ := ho.2 hs[k] (List.getElem_mem _)
      have hbb' : b < W1.heap.size := by omega
      have hkz : (k : Int) < hs.length := by omega
      obtain ⟨b1, b2⟩ := hb
      go_wp2_with fail
      go_round
      case rel => exact ⟨k + 1, by omega, by go_num, by rw [HS.out]⟩
      case measure => simp [intOf]; omega
    · obtain rfl : k = hs.length := by omega
      go_wp2_with fail
      go_ret
      exact ⟨ret_int (by rw [List.take_of_length_le (by simp)]; rfl), k3⟩
set_option maxHeartbeats 1000000 in
theorem rValued_any (A : Option Addr) (c : Nat) (p : Int) (hs : List (Int × Int × Int)) (w : World) (hr : Rd w w.heap.size A (trips hs)) (hl : hs.length ≤ 1000) :
    Calls Tryz.prog 78 #[.agg #[.int .i64 p, .slice A hs.length c]] w fun e w' => e = .returned (.int .i64 (shareCode p hs)) ∧ Below w.heap.size w w' := by
  have HC := fun w1 (hb : Below w.heap.size w w1) => Lib.hid (refCheck_any A c p hs w1 (hr.next hb) hl)
  by_cases h0 : ckBill p hs = 0
  · have ho := housesOk_of h0
    have HV := fun w1 (hb : Below w.heap.size w w1) => Lib.hid (rValues_any A c p hs w1 (hr.next hb) ho)
    rw [h0] at HC
    by_cases hv : valueSum hs = 0
    · have e1 : shareCode p hs = 1 := by unfold shareCode; rw [if_pos h0, if_pos hv]
      rw [e1]
      clear e1 h0
      have hv' : (valueSum hs == 0) = true := by rw [beq_iff_eq]; exact hv
      clear hv
      go_enter Tryz.func78, Tryz.ntmps78
      go_wp2_with fail
      refine (HC _ (by go_grown)).out.mono ?_
      rintro e w1 ⟨rfl, hb1⟩
      have hbw : Below w.heap.size w w1 := Below.trans (by go_grown) (hb1.mono (by simp))
      have d0 := hb1.at_ (by simp) (news_new w [.int .i64 p, .slice A hs.length c] 56 rfl 0 _ rfl)
      have d1 := hb1.at_ (by simp) (news_new w [.int .i64 p, .slice A hs.length c] 56 rfl 1 _ rfl)
      have hz := hb1.size
      simp at hz d0 d1
      go_wp2_with fail
      refine (HV _ hbw).out.mono ?_
      rintro e w2 ⟨rfl, hb2⟩
      have hbw2 := hbw.trans (hb2.mono hbw.size)
      go_wp2_with fail
      go_ret
      exact ⟨rfl, hbw2⟩
    · have e1 : shareCode p hs = 0 := by unfold shareCode; rw [if_pos h0, if_neg hv]
      rw [e1]
      clear e1 h0
      have hv' : (valueSum hs == 0) = false := by rw [beq_eq_false_iff_ne]; exact hv
      clear hv
      go_enter Tryz.func78, Tryz.ntmps78
      go_wp2_with fail
      refine (HC _ (by go_grown)).out.mono ?_
      rintro e w1 ⟨rfl, hb1⟩
      have hbw : Below w.heap.size w w1 := Below.trans (by go_grown) (hb1.mono (by simp))
      have d0 := hb1.at_ (by simp) (news_new w [.int .i64 p, .slice A hs.length c] 56 rfl 0 _ rfl)
      have d1 := hb1.at_ (by simp) (news_new w [.int .i64 p, .slice A hs.length c] 56 rfl 1 _ rfl)
      have hz := hb1.size
      simp at hz d0 d1
      go_wp2_with fail
      refine (HV _ hbw).out.mono ?_
      rintro e w2 ⟨rfl, hb2⟩
      have hbw2 := hbw.trans (hb2.mono hbw.size)
      go_wp2_with fail
      go_ret
      exact ⟨rfl, hbw2⟩
  · have e1 : shareCode p hs = ckBill p hs := by unfold shareCode; rw [if_neg h0]
    rw [e1]
    have h0' : (ckBill p hs != 0) = true := by rw [bne_iff_ne]; exact h0
    have H0 := Lib.hid h0
    clear h0 e1
    go_enter Tryz.func78, Tryz.ntmps78
    go_wp2_with fail
    refine (HC _ (by go_grown)).out.mono ?_
    rintro e w1 ⟨rfl, hb1⟩
    have hbw : Below w.heap.size w w1 := Below.trans (by go_grown) (hb1.mono (by simp))
    go_wp2_with fail
    go_ret
    exact ⟨rfl, hbw⟩
end Go.Proofs.YtfojjecnmfkcfaaGreat
namespace Go.Proofs.YtfojjecnmfkcfaaGreat
open Go.RowKit
set_option linter.unusedVariables false
theorem infoRatio : (Tryz.prog.info? 65).map (fun i => (i.zero, i.size, i.bytes)) = some (some (.agg #[.int .i64 0, .int .i64 0]), 2, 16) := by kernel_rfl
def ratL (p : Int) (hs : List (Int × Int × Int)) : List (Int × Int) := hs.map fun x => (lowN (p * x.1).toNat (valueSum hs).toNat, lowD (p * x.1).toNat (valueSum hs).toNat)
def exactL (p : Int) (hs : List (Int × Int × Int)) : List (Int × Int) := if shareCode p hs = 0 then ratL p hs else []
theorem ratL_len (p : Int) (hs : List (Int × Int × Int)) : (ratL p hs).length = hs.length := by simp [ratL]
theorem ratL_get {p : Int} {hs : List (Int × Int × Int)} {k N D : Nat} (h : k < hs.length) (hN : p * hs[k].1 = N) (hD : valueSum hs = D) : (ratL p hs)[k]'(by rw [ratL_len]; exact h) = (lowN N D, lowD N D) := by
  simp [ratL, hN, hD]
set_option maxRecDepth 100000 in
set_option maxHeartbeats 4000000 in
theorem Exact_any (A : Option Addr) (c : Nat) (p : Int) (hs : List (Int × Int × Int)) (w : World) (hr : Rd w w.heap.size A (trips hs)) (hl : hs.length ≤ 1000) :
    Calls Tryz.prog 20 #[.agg #[.int .i64 p, .slice A hs.length c]] w (RetOwnE 65 2 (exactL p hs).length (pairs (exactL p hs)) (shareCode p hs) w) := by
  obtain ⟨i0, ihi, ihz0, ihz1, ihz2⟩ := info_parts infoRatio
  have HO := fun w1 (hb : Below w.heap.size w w1) => Lib.hid (opened_any A c p hs w1 (hr.next hb) hl)
  by_cases h0 : ckBill p hs = 0
  · have ho := housesOk_of h0
    obtain ⟨p0, p1, l1, _⟩ := ckBill_ok h0
    have H0 := Lib.hid h0
    have hl6 := ho.1
    have HT := fun g A' ps W hd hr' => Lib.hid (total_any g p A' c hs ps W hd hr' ho)
    by_cases hv : valueSum hs = 0
    · have e1 : shareCode p hs = 1 := by unfold shareCode; rw [if_pos h0, if_pos hv]
      have e2 : exactL p hs = [] := by unfold exactL; rw [e1]; rfl
      rw [e1, e2]
      rw [hv] at HT
      clear h0 e1 e2
      go_enter Tryz.func20, Tryz.ntmps20
      go_wp2_with fail
      refine (HO _ (by go_grown)).out.mono ?_
      rintro e w1 (⟨_, g, rfl, hg, hd, hb1⟩ | ⟨hne, _⟩)
      · have hbw : Below w.heap.size w w1 := Below.trans (by go_grown) (hb1.mono (by simp))
        go_wp2_with fail
        refine (HT g _ _ _ hd (hr.next hbw)).out.mono ?_
        rintro e w2 ⟨rfl, hb2⟩
        have hbw2 : Below w.heap.size w w2 := hbw.trans (hb2.mono hbw.size)
        go_wp2_with fail
        go_ret2
        exact ⟨_, rfl, World.ownsRow_nil _ _ _ _, hbw2⟩
      · exact absurd H0.out hne
    · have e1 : shareCode p hs = 0 := by unfold shareCode; rw [if_pos h0, if_neg hv]
      have e2 : exactL p hs = ratL p hs := by unfold exactL; rw [if_pos e1]
      have e3 : (ratL p hs).length = hs.length := ratL_len p hs
      rw [e1, e2, e3]
      have hv' : (valueSum hs == 0) = false := by rw [beq_eq_false_iff_ne]; exact hv
      obtain ⟨v1, v2⟩ := valueSum_pos ho hv
      obtain ⟨D, hD⟩ : ∃ D : Nat, valueSum hs = D := ⟨(valueSum hs).toNat, by omega⟩
      rw [hD] at HT v1 v2 hv'
      have HDv := Lib.hid hD
      clear h0 e1 e2 e3 hD hv
      obtain ⟨bh, oh, rfl, hbh⟩ := hr.addr (k := 0) (by rw [trips_length]; omega)
      go_enter Tryz.func20, Tryz.ntmps20
      go_wp2_with fail
      refine (HO _ (by go_grown)).out.mono ?_
      rintro e w1 (⟨_, g, rfl, hg, hd, hb1⟩ | ⟨hne, _⟩)
      · have hbw : Below w.heap.size w w1 := Below.trans (by go_grown) (hb1.mono (by simp))
        have hc0 := hb1.cell (p := ⟨w.heap.size, 0, none⟩) (by simp)
        have hc1 := hb1.cell (p := ⟨w.heap.size, 1, none⟩) (by simp)
        have hz1 := hb1.size
        simp at hg hc0 hc1 hz1
        go_wp2_with fail
        refine (HT g _ _ _ hd (hr.next hbw)).out.mono ?_
        rintro e w2 ⟨rfl, hb2⟩
        have hz2 := hb2.size
        have hgl := hd.lt
        have d2 := Lib.hid (hd.below hb2)
        have y0 := hb2.at_ (by omega) hc0
        have y1 := hb2.at_ (by omega) hc1
        have hbw2 : Below w.heap.size w w2 := hbw.trans (hb2.mono hbw.size)
        clear hb2 hc0 hc1 hd hb1
        go_wp2_with fail
        have X2 : Hid (w2.cell? ⟨w.heap.size, 0, none⟩ = some (.int .i64 p) ∧ w2.cell? ⟨w.heap.size, 1, none⟩ = some (.slice (some ⟨bh, oh, none⟩) hs.length c)) := ⟨y0, y1⟩
        clear y0 y1
        go_loopw [6, 8, 25] (fun v _ i wr => ∃ (k : Nat) (v0 : Value), v0 = v ∧ k ≤ hs.length ∧ i = .int .i64 k ∧ Hid (wr.ownsRow w2.heap.size 65 2 v k (pairs ((ratL p hs).take k))) ∧ Below w2.heap.size w2 wr) (fun _ _ i _ => hs.length - (intOf i).toNat)
        case atStart => exact ⟨0, _, rfl, Nat.zero_le _, rfl, World.ownsRow_nil _ _ _ _, Below.refl _ _⟩
        case round =>
          obtain ⟨k, v0, hv0, hk, rfl, HOW, hbr⟩ := hrel
          subst hv0
          have hbwr : Below w.heap.size w wr := hbw2.trans (hbr.mono hbw2.size)
          by_cases hlt : k < hs.length
          · obtain ⟨x1, x2, x3⟩ := (hr.below hbwr).trip' hlt
            have hbh' : bh < wr.heap.size := Nat.lt_of_lt_of_le hbh hbwr.size
            obtain ⟨u1, u2, _⟩ := ho.2 hs[k] (List.getElem_mem _)
            obtain ⟨n1, n2⟩ := mul_bd p0 p1 u1 u2 (by omega)
            obtain ⟨N, hN⟩ : ∃ N : Nat, p * hs[k].1 = N := ⟨(p * hs[k].1).toNat, by omega⟩
            have q1 : IntKind.i64.wrap (p * hs[k].1) = (N : Int) := by rw [IntWalk.i64_in _ (by omega), hN]
            have HPS : Hid (pairs ((ratL p hs).take (k + 1)) = pairs ((ratL p hs).take k) ++ [.int .i64 (lowN N D), .int .i64 (lowD N D)]) := by
              show _ = _
              rw [pairs_snoc _ k (by rw [ratL_len]; exact hlt), ratL_get hlt hN HDv.out]
            rw [hN] at n1 n2
            have hkz : (k : Int) < hs.length := by omega
            clear hN
            go_upto_region 10 with fail
            generalize hW4 : World.alloc wr _ = W4
            have hb4 : Below wr.heap.size wr W4 := by rw [← hW4]; exact below_new _ _
            have y8 : W4.cell? ⟨wr.heap.size, 0, none⟩ = some (.int .i64 hs[k].1) := by rw [← hW4]; exact news_new wr [.int .i64 hs[k].1, .int .i64 hs[k].2.1, .int .i64 hs[k].2.2] 37 rfl 0 _ rfl
            have k8 : wr.heap.size < W4.heap.size := by rw [← hW4]; simp
            have hb24 := hbr.trans (hb4.mono hbr.size)
            have k0 : w.heap.size < W4.heap.size := by have := hbwr.size; omega
            have y0 := hb24.at_ (show w.heap.size < w2.heap.size by omega) X2.out.1
            have HTT : Hid (∀ W', Below W4.heap.size W4 W' → Calls Tryz.prog 76 #[.pointer (some ⟨g, 0, none⟩)] W' fun e w' => e = .returned (.int .i64 (D : Int)) ∧ Below W'.heap.size W' w') := by
              refine Lib.hid fun W' hW' => ?_
              have hb := hb24.trans (hW'.mono hb24.size)
              refine ((HT g _ _ W' (d2.out.below hb) (hr.next (hbw2.trans (hb.mono hbw2.size)))).out).mono ?_
              rintro e w' ⟨rfl, h⟩
              exact ⟨rfl, h⟩
            have HB4 := Lib.hid hb4
            clear hW4 x1 x2 x3 hb24
            generalize wr.heap.size = b8 at y8 k8 ⊢
            refine wp_inv 10 (by kernel_rfl) (by kernel_rfl) (by kernel_rfl) (by decide) (FL [PEq v0, PEq (.pointer (some ⟨w.heap.size, 0, none⟩)), PEq (.int .i64 p), PEq (.pointer (some ⟨b8, 0, none⟩)), PEq (.int .i64 hs[k].1), PEq (.int .i64 (N : Int)), PEq (.pointer (some ⟨g, 0, none⟩)), PEq (.int .i64 (D : Int)), PEq (.agg #[.int .i64 (lowN N D), .int .i64 (lowD N D)]), PRow W4.heap.size [.int .i64 (lowN N D), .int .i64 (lowD N D)]])
              (fun x => Below W4.heap.size W4 x) (fun x y => Below x.heap.size x y) (FL.keepB (by simp [stbB_eq, stbB_row])) (below_drew W4) ?_ ?_
            · intro i o hi' ho listed vals a w5 hdep hM hAt K hK
              have HI := Lib.hid hM.inv
              match i, hi' with
              | 0, _ =>
                injection ho with ho
                subst ho
                obtain ⟨e6, e6'⟩ := hAt.slot 6 (by kernel_rfl) (by rfl)
                go_simp
                exact hK _ w5 (Below.refl _ _) HI.out rfl
              | 1, _ =>
                injection ho with ho
                subst ho
                obtain ⟨e1, e1'⟩ := hAt.slot 1 (by kernel_rfl) (by rfl)
                go_simp
                exact hK _ w5 (Below.refl _ _) HI.out rfl
              | 2, _ =>
                injection ho with ho
                subst ho
                have l1 := hdep ⟨1, .data⟩ (by simp) rfl
                obtain ⟨x1, x1'⟩ := hAt.dep 1 (d := 30) (by omega) l1 (by rfl) (hM.fact 1 (by omega) l1)
                have c0 := HI.out.at_ k0 y0
                have c1 := Nat.lt_of_lt_of_le k0 HI.out.size
                go_simp
                exact hK _ w5 (Below.refl _ _) HI.out rfl
              | 3, _ =>
                injection ho with ho
                subst ho
                obtain ⟨e8, e8'⟩ := hAt.slot 8 (by kernel_rfl) (by rfl)
                go_simp
                exact hK _ w5 (Below.refl _ _) HI.out rfl
              | 4, _ =>
                injection ho with ho
                subst ho
                have l3 := hdep ⟨3, .data⟩ (by simp) rfl
                obtain ⟨x3, x3'⟩ := hAt.dep 3 (d := 32) (by omega) l3 (by rfl) (hM.fact 3 (by omega) l3)
                have c0 := HI.out.at_ k8 y8
                have c1 := Nat.lt_of_lt_of_le k8 HI.out.size
                go_simp
                exact hK _ w5 (Below.refl _ _) HI.out rfl
              | 5, _ =>
                injection ho with ho
                subst ho
                have l2 := hdep ⟨2, .data⟩ (by simp) rfl
                obtain ⟨x2, x2'⟩ := hAt.dep 2 (d := 31) (by omega) l2 (by rfl) (hM.fact 2 (by omega) l2)
                have l4 := hdep ⟨4, .data⟩ (by simp) rfl
                obtain ⟨x4, x4'⟩ := hAt.dep 4 (d := 33) (by omega) l4 (by rfl) (hM.fact 4 (by omega) l4)
                go_simp
                exact hK _ w5 (Below.refl _ _) HI.out rfl
              | 6, _ =>
                injection ho with ho
                subst ho
                obtain ⟨e4, e4'⟩ := hAt.slot 4 (by kernel_rfl) (by rfl)
                go_simp
                exact hK _ w5 (Below.refl _ _) HI.out rfl
              | 7, _ =>
                injection ho with ho
                subst ho
                have l6 := hdep ⟨6, .data⟩ (by simp) rfl
                obtain ⟨x6, x6'⟩ := hAt.dep 6 (d := 35) (by omega) l6 (by rfl) (hM.fact 6 (by omega) l6)
                go_simp
                refine (HTT.out w5 HI.out).mono ?_
                rintro e w6 ⟨rfl, hb6⟩
                exact hK _ w6 hb6 (HI.out.trans (hb6.mono HI.out.size)) rfl
              | 8, _ =>
                injection ho with ho
                subst ho
                have l5 := hdep ⟨5, .data⟩ (by simp) rfl
                obtain ⟨x5, x5'⟩ := hAt.dep 5 (d := 34) (by omega) l5 (by rfl) (hM.fact 5 (by omega) l5)
                have l7 := hdep ⟨7, .data⟩ (by simp) rfl
                obtain ⟨x7, x7'⟩ := hAt.dep 7 (d := 36) (by omega) l7 (by rfl) (hM.fact 7 (by omega) l7)
                go_simp
                refine (lowest_any N D (by omega) (by omega) (by omega) w5).mono ?_
                rintro e w6 ⟨rfl, hb6⟩
                exact hK _ w6 hb6 (HI.out.trans (hb6.mono HI.out.size)) rfl
              | 9, _ =>
                injection ho with ho
                subst ho
                have l8 := hdep ⟨8, .data⟩ (by simp) rfl
                obtain ⟨x8, x8'⟩ := hAt.dep 8 (d := 37) (by omega) l8 (by rfl) (hM.fact 8 (by omega) l8)
                go_simp
                exact hK _ _ (below_new _ _) (HI.out.alloc HI.out.size _) ⟨w5.heap.size, rfl, HI.out.size, by simp, news_new w5 [.int .i64 (lowN N D), .int .i64 (lowD N D)] _ rfl⟩
            · intro vals w5 hM
              have HI := Lib.hid hM.inv
              have f0 : vals 0 = v0 := hM.all (by decide) 0 (by omega)
              have f1 : vals 1 = .pointer (some ⟨w.heap.size, 0, none⟩) := hM.all (by decide) 1 (by omega)
              have f2 : vals 2 = .int .i64 p := hM.all (by decide) 2 (by omega)
              have f3 : vals 3 = .pointer (some ⟨b8, 0, none⟩) := hM.all (by decide) 3 (by omega)
              have f4 : vals 4 = .int .i64 hs[k].1 := hM.all (by decide) 4 (by omega)
              have f5 : vals 5 = .int .i64 (N : Int) := hM.all (by decide) 5 (by omega)
              have f6 : vals 6 = .pointer (some ⟨g, 0, none⟩) := hM.all (by decide) 6 (by omega)
              have f7 : vals 7 = .int .i64 (D : Int) := hM.all (by decide) 7 (by omega)
              have f8 : vals 8 = .agg #[.int .i64 (lowN N D), .int .i64 (lowD N D)] := hM.all (by decide) 8 (by omega)
              obtain ⟨k9, f9, g9, z9, h9⟩ := hM.all (by decide) 9 (by omega)
              clear hM
              simp only [putAll, List.range, List.range.loop, List.foldl_cons, List.foldl_nil, f0, f1, f2, f3, f4, f5, f6, f7, f8, f9]
              clear f0 f1 f2 f3 f4 f5 f6 f7 f8 f9
              change wpAny _ _ _ _ _ _ (Act.put (Act.put (Act.put (Act.put (Act.put (Act.put (Act.put (Act.put (Act.put (Act.put _ (some 29) _) (some 30) _) (some 31) _) (some 32) _) (some 33) _) (some 34) _) (some 35) _) (some 36) _) (some 37) _) (some 38) _) _
              simp only [Act.put, List.setIfInBounds_toArray, List.set_cons_zero, List.set_cons_succ]
              have HR := Lib.hid h9
              clear h9
              refine tail_step 10 _ (by kernel_rfl) rfl rfl (fun K' hK => ?_)
              refine wp_append_own w5 _ _ _ rfl w2.heap.size 65 i0 _ 2 16 Tryz.underlying59 ihi ihz0 ihz1 ihz2 rfl (by decide) _ k (pairs ((ratL p hs).take k)) rfl (own_keep HOW.out (HB4.out.trans (HI.out.mono HB4.out.size))) ⟨k9, 0, none⟩ 1 1 [.int .i64 (lowN N D), .int .i64 (lowD N D)] rfl rfl HR.out (by simp [Value.oneCell']) (by simp only [maxLen]; omega) (by omega) (by have := HI.out.size; have := HB4.out.size; have := hbr.size; omega) ?_
              intro v1 w8 hown1 hgrow1 _
              refine hK _ _ ?_
              clear hK K'
              rw [← HPS.out] at hown1
              have hb8 : Below w2.heap.size w2 w8 := (hbr.trans ((HB4.out.trans (HI.out.mono HB4.out.size)).mono hbr.size)).grown hgrow1 (Nat.le_trans hbr.size (Nat.le_trans HB4.out.size HI.out.size)) (fun q hq => (HOW.out.lt q hq).1)
              have HO1 := Lib.hid hown1
              clear hown1 hgrow1
              refine tail_step 11 _ (by kernel_rfl) rfl rfl (fun K' hK => ?_)
              go_simp
              refine hK _ _ ?_
              clear hK K'
              refine wpAny_done (by kernel_rfl) ?_ _
              go_wp2_with fail
              go_roundw
              case rel => exact ⟨k + 1, _, rfl, by omega, by go_num, HO1, hb8⟩
              case measure => simp [intOf]; omega
          · obtain rfl : k = hs.length := by omega
            have hown := HOW.out
            rw [List.take_of_length_le (by rw [ratL_len]; exact Nat.le_refl _)] at hown
            go_wp2_with fail
            go_ret2
            exact ⟨_, rfl, hown.base_ hbw2.size, hbwr⟩
      · exact absurd H0.out hne
  · have e1 : shareCode p hs = ckBill p hs := by unfold shareCode; rw [if_neg h0]
    have e2 : exactL p hs = [] := by unfold exactL; rw [e1, if_neg h0]
    rw [e1, e2]
    have h0' : (ckBill p hs != 0) = true := by rw [bne_iff_ne]; exact h0
    have H0 := Lib.hid h0
    clear h0 e1 e2
    go_enter Tryz.func20, Tryz.ntmps20
    go_wp2_with fail
    refine (HO _ (by go_grown)).out.mono ?_
    rintro e w1 (⟨h, _⟩ | ⟨_, rfl, hb1⟩)
    · exact absurd h H0.out
    · have hbw : Below w.heap.size w w1 := Below.trans (by go_grown) (hb1.mono (by simp))
      go_wp2_with fail
      go_ret2
      exact ⟨_, rfl, World.ownsRow_nil _ _ _ _, hbw⟩
end Go.Proofs.YtfojjecnmfkcfaaGreat
namespace Go.Proofs.YtfojjecnmfkcfaaGreat
open Go.RowKit
set_option linter.unusedVariables false
theorem Lst.drew' {w : World} {b : Nat} {d : List Int} (h : Lst w b d) : Lst w.drew b d := ⟨h.lt, h.cells, h.free⟩
theorem grownBy_drew {a b : World} {g : Option Nat} (h : a.grownBy b g) : a.grownBy b.drew g := ⟨h.os, h.tape, h.output, h.size, h.block⟩
theorem toNat_ediv2 {a b : Int} (ha : 0 ≤ a) (hb : 0 ≤ b) : (a / b).toNat = a.toNat / b.toNat := by
  obtain ⟨x, rfl⟩ := Int.eq_ofNat_of_zero_le ha
  obtain ⟨y, rfl⟩ := Int.eq_ofNat_of_zero_le hb
  rw [← Int.natCast_ediv]; rfl
theorem red_both {N D : Nat} {dd a b : Int} (h : Red N D dd.toNat a.toNat b.toNat) (hd : 2 ≤ dd) (ha : 0 ≤ a) (hb : 1 ≤ b) (h1 : a % dd = 0) (h2 : b % dd = 0) : ∃ x y : Int, (a.tdiv dd = x ∧ a / dd = x) ∧ (b.tdiv dd = y ∧ b / dd = y) ∧ Red N D dd.toNat x.toNat y.toNat ∧ 0 ≤ x ∧ x ≤ a ∧ 1 ≤ y ∧ y < b := by
  have e1 : (a / dd).toNat = a.toNat / dd.toNat := toNat_ediv2 ha (by omega)
  have e2 : (b / dd).toNat = b.toNat / dd.toNat := toNat_ediv2 (by omega) (by omega)
  have g1 : a.toNat % dd.toNat = 0 := by rw [← Int.toNat_emod ha (by omega), h1]; rfl
  have g2 : b.toNat % dd.toNat = 0 := by rw [← Int.toNat_emod (by omega) (by omega), h2]; rfl
  obtain ⟨h3, h4⟩ := h.divide (by omega) g1 g2
  have h5 := h3.b1
  rw [← e2] at h4 h5
  refine ⟨a / dd, b / dd, ⟨Int.tdiv_eq_ediv_of_nonneg ha, rfl⟩, ⟨Int.tdiv_eq_ediv_of_nonneg (by omega), rfl⟩, by rw [e1, e2]; exact h3, Int.ediv_nonneg ha (by omega), ?_, by omega, by omega⟩
  have := Nat.div_le_self a.toNat dd.toNat
  have h6 : 0 ≤ a / dd := Int.ediv_nonneg ha (by omega)
  rw [← e1] at this
  omega
theorem red_next {N D : Nat} {dd a b : Int} (h : Red N D dd.toNat a.toNat b.toNat) (hd : 2 ≤ dd) (hn : ¬ (a % dd = 0 ∧ b % dd = 0)) (ha : 0 ≤ a := by omega) (hb : 1 ≤ b := by omega) : Red N D (dd + 1).toNat a.toNat b.toNat := by
  have e : (dd + 1).toNat = dd.toNat + 1 := by omega
  rw [e]
  refine h.step fun h3 => hn ?_
  have g1 := Int.toNat_emod ha (show (0 : Int) ≤ dd by omega)
  have g2 := Int.toNat_emod (show (0 : Int) ≤ b by omega) (show (0 : Int) ≤ dd by omega)
  have k1 := Int.emod_nonneg a (show dd ≠ 0 by omega)
  have k2 := Int.emod_nonneg b (show dd ≠ 0 by omega)
  omega
theorem red_end {N D : Nat} {dd a b : Int} (h : Red N D dd.toNat a.toNat b.toNat) (hb : 1 ≤ b) (ha : 0 ≤ a) (hd : b < dd) : a = lowN N D ∧ b = lowD N D := by
  obtain ⟨h1, h2⟩ := h.done (by omega)
  unfold lowN lowD
  omega
set_option maxRecDepth 100000 in
set_option maxHeartbeats 8000000 in
theorem rExact_any (A : Option Addr) (c : Nat) (p : Int) (hs : List (Int × Int × Int)) (w : World) (hr : Rd w w.heap.size A (trips hs)) (hl : hs.length ≤ 1000) :
    Calls Tryz.prog 21 #[.agg #[.int .i64 p, .slice A hs.length c]] w (RetOwnE 65 2 (exactL p hs).length (pairs (exactL p hs)) (shareCode p hs) w) := by
  obtain ⟨i0, ihi, ihz0, ihz1, ihz2⟩ := info_parts infoRatio
  have HC := fun w1 (hb : Below w.heap.size w w1) => Lib.hid (rValued_any A c p hs w1 (hr.next hb) hl)
  by_cases h0 : shareCode p hs = 0
  · have hck : ckBill p hs = 0 := by
      unfold shareCode at h0
      by_cases h : ckBill p hs = 0
      · exact h
      · rw [if_neg h] at h0; exact absurd h0 h
    have hv : valueSum hs ≠ 0 := by
      intro h
      unfold shareCode at h0
      rw [if_pos hck, if_pos h] at h0; omega
    have ho := housesOk_of hck
    obtain ⟨p0, p1, l1, _⟩ := ckBill_ok hck
    have hl6 := ho.1
    have e2 : exactL p hs = ratL p hs := by unfold exactL; rw [if_pos h0]
    have e3 : (ratL p hs).length = hs.length := ratL_len p hs
    rw [h0, e2, e3]
    rw [h0] at HC
    obtain ⟨v1, v2⟩ := valueSum_pos ho hv
    obtain ⟨D, hD⟩ : ∃ D : Nat, valueSum hs = D := ⟨(valueSum hs).toNat, by omega⟩
    have HT := fun w1 (hb : Below w.heap.size w w1) => Lib.hid (rValues_any A c p hs w1 (hr.next hb) ho)
    rw [hD] at HT v1 v2
    have HDv := Lib.hid hD
    have HO := Lib.hid ho
    clear h0 e2 e3 hD hv hck ho
    obtain ⟨bh, oh, rfl, hbh⟩ := hr.addr (k := 0) (by rw [trips_length]; omega)
    go_enter Tryz.func21, Tryz.ntmps21
    go_wp2_with fail
    refine (HC _ (by go_grown)).out.mono ?_
    rintro e w1 ⟨rfl, hb1⟩
    have hbw : Below w.heap.size w w1 := Below.trans (by go_grown) (hb1.mono (by simp))
    have d0 := hb1.at_ (by simp) (news_new w [.int .i64 p, .slice (some ⟨bh, oh, none⟩) hs.length c] 56 rfl 0 _ rfl)
    have d1 := hb1.at_ (by simp) (news_new w [.int .i64 p, .slice (some ⟨bh, oh, none⟩) hs.length c] 56 rfl 1 _ rfl)
    have hz := hb1.size
    simp at hz d0 d1
    have X2 : Hid (w1.cell? ⟨w.heap.size, 0, none⟩ = some (.int .i64 p) ∧ w1.cell? ⟨w.heap.size, 1, none⟩ = some (.slice (some ⟨bh, oh, none⟩) hs.length c)) := ⟨d0, d1⟩
    clear d0 d1 hb1
    go_wp2_with fail
    go_loopw [5, 6, 7, 8] (fun v i _ _ wr => ∃ (k : Nat) (v0 : Value), v0 = v ∧ k ≤ hs.length ∧ i = .int .i64 k ∧ Hid (wr.ownsRow w1.heap.size 65 2 v k (pairs ((ratL p hs).take k))) ∧ Below w1.heap.size w1 wr) (fun _ i _ _ _ => hs.length - (intOf i).toNat)
    case atStart => exact ⟨0, _, rfl, Nat.zero_le _, rfl, World.ownsRow_nil _ _ _ _, Below.refl _ _⟩
    case round =>
      obtain ⟨k, v0, hv0, hk, rfl, HOW, hbr⟩ := hrel
      subst hv0
      have hbwr : Below w.heap.size w wr := hbw.trans (hbr.mono hbw.size)
      have y0 := hbr.at_ (show w.heap.size < w1.heap.size by omega) X2.out.1
      have y1 := hbr.at_ (show w.heap.size < w1.heap.size by omega) X2.out.2
      have k0 : w.heap.size < wr.heap.size := Nat.lt_of_lt_of_le (show w.heap.size < w1.heap.size by omega) hbr.size
      by_cases hlt : k < hs.length
      · obtain ⟨x1, x2, x3⟩ := (hr.below hbwr).trip' hlt
        have hbh' : bh < wr.heap.size := Nat.lt_of_lt_of_le hbh hbwr.size
        obtain ⟨u1, u2, _⟩ := HO.out.2 hs[k] (List.getElem_mem _)
        obtain ⟨n1, n2⟩ := mul_bd p0 p1 u1 u2 (by omega)
        obtain ⟨N, hN⟩ : ∃ N : Nat, p * hs[k].1 = N := ⟨(p * hs[k].1).toNat, by omega⟩
        have q1 : IntKind.i64.wrap (p * hs[k].1) = (N : Int) := by rw [IntWalk.i64_in _ (by omega), hN]
        have HPS : Hid (pairs ((ratL p hs).take (k + 1)) = pairs ((ratL p hs).take k) ++ [.int .i64 (lowN N D), .int .i64 (lowD N D)]) := by
          show _ = _
          rw [pairs_snoc _ k (by rw [ratL_len]; exact hlt), ratL_get hlt hN HDv.out]
        rw [hN] at n1 n2
        have hkz : (k : Int) < hs.length := by omega
        have hk0 : (0 : Int) ≤ (k : Int) := by omega
        clear hN x2 x3
        obtain ⟨Wr, hWr⟩ : ∃ x, x = wr := ⟨_, rfl⟩
        subst hWr
        go_upto_region 8 with fail
        have HTT : Hid (∀ W', Below Wr.heap.size Wr W' → Calls Tryz.prog 79 #[.agg #[.int .i64 p, .slice (some ⟨bh, oh, none⟩) hs.length c]] W' fun e w' => e = .returned (.int .i64 (D : Int)) ∧ Below W'.heap.size W' w') := by
          refine Lib.hid fun W' hW' => ?_
          refine ((HT W' (hbwr.trans (hW'.mono hbwr.size))).out).mono ?_
          rintro e w' ⟨rfl, h⟩
          exact ⟨rfl, h⟩
        refine wp_inv 13 (by kernel_rfl) (by kernel_rfl) (by kernel_rfl) (by decide) (FL [PEq (.pointer (some ⟨w.heap.size, 0, none⟩)), PEq (.int .i64 p), PEq (.pointer (some ⟨w.heap.size, 1, none⟩)), PEq (.slice (some ⟨bh, oh, none⟩) hs.length c), PEq (.int .i64 (k : Int)), PEq (.pointer (some ⟨bh, oh + k * 3, none⟩)), PEq (.pointer (some ⟨bh, oh + k * 3, none⟩)), PEq (.int .i64 hs[k].1), PEq (.int .i64 (N : Int)), PEq (.agg #[.int .i64 p, .slice (some ⟨bh, oh, none⟩) hs.length c]), PEq (.int .i64 (D : Int)), PEq (.agg #[.int .i64 (N : Int), .int .i64 (D : Int)]), PNew Wr.heap.size [.int .i64 0, .int .i64 0]])
          (fun x => Below Wr.heap.size Wr x) (fun x y => Below x.heap.size x y) (FL.keepB (by simp [stbB_eq, stbB_new])) (below_drew Wr) ?_ ?_
        · intro i o hi' ho listed vals a w5 hdep hM hAt K hK
          have HI := Lib.hid hM.inv
          match i, hi' with
          | 0, _ =>
            injection ho with ho
            subst ho
            obtain ⟨e1, e1'⟩ := hAt.slot 1 (by kernel_rfl) (by rfl)
            go_simp
            exact hK _ w5 (Below.refl _ _) HI.out rfl
          | 1, _ =>
            injection ho with ho
            subst ho
            have l0 := hdep ⟨0, .data⟩ (by simp) rfl
            obtain ⟨x0, x0'⟩ := hAt.dep 0 (d := 21) (by omega) l0 (by rfl) (hM.fact 0 (by omega) l0)
            have c0 := HI.out.at_ k0 y0
            have c1 := HI.out.at_ k0 y1
            have c2 := Nat.lt_of_lt_of_le k0 HI.out.size
            go_simp
            exact hK _ w5 (Below.refl _ _) HI.out rfl
          | 2, _ =>
            injection ho with ho
            subst ho
            obtain ⟨e1, e1'⟩ := hAt.slot 1 (by kernel_rfl) (by rfl)
            go_simp
            exact hK _ w5 (Below.refl _ _) HI.out rfl
          | 3, _ =>
            injection ho with ho
            subst ho
            have l2 := hdep ⟨2, .data⟩ (by simp) rfl
            obtain ⟨x2, x2'⟩ := hAt.dep 2 (d := 23) (by omega) l2 (by rfl) (hM.fact 2 (by omega) l2)
            have c0 := HI.out.at_ k0 y0
            have c1 := HI.out.at_ k0 y1
            have c2 := Nat.lt_of_lt_of_le k0 HI.out.size
            go_simp
            exact hK _ w5 (Below.refl _ _) HI.out rfl
          | 4, _ =>
            injection ho with ho
            subst ho
            obtain ⟨e6, e6'⟩ := hAt.slot 6 (by kernel_rfl) (by rfl)
            go_simp
            exact hK _ w5 (Below.refl _ _) HI.out rfl
          | 5, _ =>
            injection ho with ho
            subst ho
            have l3 := hdep ⟨3, .data⟩ (by simp) rfl
            obtain ⟨x3, x3'⟩ := hAt.dep 3 (d := 24) (by omega) l3 (by rfl) (hM.fact 3 (by omega) l3)
            have l4 := hdep ⟨4, .data⟩ (by simp) rfl
            obtain ⟨x4, x4'⟩ := hAt.dep 4 (d := 25) (by omega) l4 (by rfl) (hM.fact 4 (by omega) l4)
            go_simp
            exact hK _ w5 (Below.refl _ _) HI.out rfl
          | 6, _ =>
            injection ho with ho
            subst ho
            have l5 := hdep ⟨5, .data⟩ (by simp) rfl
            obtain ⟨x5, x5'⟩ := hAt.dep 5 (d := 26) (by omega) l5 (by rfl) (hM.fact 5 (by omega) l5)
            go_simp
            exact hK _ w5 (Below.refl _ _) HI.out rfl
          | 7, _ =>
            injection ho with ho
            subst ho
            have l6 := hdep ⟨6, .data⟩ (by simp) rfl
            obtain ⟨x6, x6'⟩ := hAt.dep 6 (d := 27) (by omega) l6 (by rfl) (hM.fact 6 (by omega) l6)
            have c0 := HI.out.at_ hbh' x1
            have c1 := Nat.lt_of_lt_of_le hbh' HI.out.size
            go_simp
            exact hK _ w5 (Below.refl _ _) HI.out rfl
          | 8, _ =>
            injection ho with ho
            subst ho
            have l1 := hdep ⟨1, .data⟩ (by simp) rfl
            obtain ⟨x1, x1'⟩ := hAt.dep 1 (d := 22) (by omega) l1 (by rfl) (hM.fact 1 (by omega) l1)
            have l7 := hdep ⟨7, .data⟩ (by simp) rfl
            obtain ⟨x7, x7'⟩ := hAt.dep 7 (d := 28) (by omega) l7 (by rfl) (hM.fact 7 (by omega) l7)
            go_simp
            exact hK _ w5 (Below.refl _ _) HI.out rfl
          | 9, _ =>
            injection ho with ho
            subst ho
            obtain ⟨e1, e1'⟩ := hAt.slot 1 (by kernel_rfl) (by rfl)
            have c0 := HI.out.at_ k0 y0
            have c1 := HI.out.at_ k0 y1
            have c2 := Nat.lt_of_lt_of_le k0 HI.out.size
            go_simp
            exact hK _ w5 (Below.refl _ _) HI.out rfl
          | 10, _ =>
            injection ho with ho
            subst ho
            have l9 := hdep ⟨9, .data⟩ (by simp) rfl
            obtain ⟨x9, x9'⟩ := hAt.dep 9 (d := 30) (by omega) l9 (by rfl) (hM.fact 9 (by omega) l9)
            go_simp
            refine (HTT.out w5 HI.out).mono ?_
            rintro e w6 ⟨rfl, hb6⟩
            exact hK _ w6 hb6 (HI.out.trans (hb6.mono HI.out.size)) rfl
          | 11, _ =>
            injection ho with ho
            subst ho
            have l8 := hdep ⟨8, .data⟩ (by simp) rfl
            obtain ⟨x8, x8'⟩ := hAt.dep 8 (d := 29) (by omega) l8 (by rfl) (hM.fact 8 (by omega) l8)
            have l10 := hdep ⟨10, .data⟩ (by simp) rfl
            obtain ⟨x10, x10'⟩ := hAt.dep 10 (d := 31) (by omega) l10 (by rfl) (hM.fact 10 (by omega) l10)
            go_simp
            exact hK _ w5 (Below.refl _ _) HI.out rfl
          | 12, _ =>
            injection ho with ho
            subst ho
            go_simp
            exact hK _ _ (below_new _ _) (HI.out.alloc HI.out.size _) ⟨w5.heap.size, rfl, HI.out.size, by simp, fun j u hu => by have := news_new w5 [.int .i64 0, .int .i64 0] 65 rfl j u hu; rwa [addr_add, Nat.zero_add] at this, by simp⟩
        · intro vals w5 hM
          have HI := Lib.hid hM.inv
          have f0 : vals 0 = .pointer (some ⟨w.heap.size, 0, none⟩) := hM.all (by decide) 0 (by omega)
          have f1 : vals 1 = .int .i64 p := hM.all (by decide) 1 (by omega)
          have f2 : vals 2 = .pointer (some ⟨w.heap.size, 1, none⟩) := hM.all (by decide) 2 (by omega)
          have f3 : vals 3 = .slice (some ⟨bh, oh, none⟩) hs.length c := hM.all (by decide) 3 (by omega)
          have f4 : vals 4 = .int .i64 (k : Int) := hM.all (by decide) 4 (by omega)
          have f5 : vals 5 = .pointer (some ⟨bh, oh + k * 3, none⟩) := hM.all (by decide) 5 (by omega)
          have f6 : vals 6 = .pointer (some ⟨bh, oh + k * 3, none⟩) := hM.all (by decide) 6 (by omega)
          have f7 : vals 7 = .int .i64 hs[k].1 := hM.all (by decide) 7 (by omega)
          have f8 : vals 8 = .int .i64 (N : Int) := hM.all (by decide) 8 (by omega)
          have f9 : vals 9 = .agg #[.int .i64 p, .slice (some ⟨bh, oh, none⟩) hs.length c] := hM.all (by decide) 9 (by omega)
          have f10 : vals 10 = .int .i64 (D : Int) := hM.all (by decide) 10 (by omega)
          have f11 : vals 11 = .agg #[.int .i64 (N : Int), .int .i64 (D : Int)] := hM.all (by decide) 11 (by omega)
          obtain ⟨k9, f12, g9, z9, h9, fr9⟩ := hM.all (by decide) 12 (by omega)
          clear hM
          simp only [putAll, List.range, List.range.loop, List.foldl_cons, List.foldl_nil, f0, f1, f2, f3, f4, f5, f6, f7, f8, f9, f10, f11, f12]
          clear f0 f1 f2 f3 f4 f5 f6 f7 f8 f9 f10 f11 f12
          change wpAny _ _ _ _ _ _ (Act.put (Act.put (Act.put (Act.put (Act.put (Act.put (Act.put (Act.put (Act.put (Act.put (Act.put (Act.put (Act.put _ (some 21) _) (some 22) _) (some 23) _) (some 24) _) (some 25) _) (some 26) _) (some 27) _) (some 28) _) (some 29) _) (some 30) _) (some 31) _) (some 32) _) (some 7) _) _
          simp only [Act.put, List.setIfInBounds_toArray, List.set_cons_zero, List.set_cons_succ]
          have z0 := h9 0 _ rfl
          have z1 := h9 1 _ rfl
          have HL0 : Hid (Lst w5 k9 [0, 0]) := ⟨z9, fun j u hu => by
            match j, hu with
            | 0, hu => cases hu; exact z0
            | 1, hu => cases hu; exact z1, fr9⟩
          have fr0 := fr9 0
          have fr1 := fr9 1
          clear h9 fr9
          refine tail_step 13 _ (by kernel_rfl) rfl rfl (fun K' hK => ?_)
          go_simp
          refine hK _ _ ?_
          clear hK K'
          refine wpAny_done (by kernel_rfl) ?_ _
          obtain ⟨W9, hW9⟩ : ∃ x, x = (w5.setCell ⟨k9, 0, none⟩ (.int .i64 (N : Int))).setCell ⟨k9, 1, none⟩ (.int .i64 (D : Int)) := ⟨_, rfl⟩
          rw [← hW9]
          have HL9 : Hid (Lst W9 k9 [(N : Int), (D : Int)]) := by rw [hW9]; exact (HL0.out.put (j := 0) (by simp) N).put (j := 1) (by simp) D
          have hb9 : Below Wr.heap.size Wr W9 := by rw [hW9]; exact (HI.out.setCell (p := ⟨k9, 0, none⟩) g9 _).setCell (p := ⟨k9, 1, none⟩) g9 _
          have HB9 := Lib.hid hb9
          have HOW9 := Lib.hid (own_keep HOW.out hb9)
          have hz9 := hb9.size
          have HR0 : Hid (Red N D 2 N D) := Red.start (by omega)
          clear hW9 HL0 hb9 HI HTT z0 z1 fr0 fr1 z9 q1 x1 y0 y1
          go_wp2_with fail
          go_loopw [8] (fun dv wq => ∃ dd a b : Int, dv = .int .i64 dd ∧ Hid (Red N D dd.toNat a.toNat b.toNat) ∧ Hid (Lst wq k9 [a, b]) ∧ Hid (W9.grownBy wq (some k9)) ∧ 2 ≤ dd ∧ dd ≤ D + 1 ∧ 0 ≤ a ∧ a ≤ 500000 ∧ 1 ≤ b ∧ b ≤ D) (fun dv _ => D + 1 - (intOf dv).toNat)
          case atStart => exact ⟨2, N, D, rfl, HR0, HL9, grownBy_self _ _, by omega, by omega, by omega, by omega, by omega, by omega⟩
          case round =>
            obtain ⟨dd, a, b, rfl, HRed, HL, HG, d2, d3, a0, a1, b0, b1⟩ := hrel
            have c0 : wr.cell? ⟨k9, 0, none⟩ = some (.int .i64 a) := HL.out.at_ (j := 0) (by simp)
            have c1 : wr.cell? ⟨k9, 1, none⟩ = some (.int .i64 b) := HL.out.at_ (j := 1) (by simp)
            have cl := HL.out.lt
            by_cases hle : dd ≤ b
            · have d4 : dd ≤ D := by omega
              go_wp2_with fail
              go_loopw [] (fun wx => ∃ x y : Int, Hid (Red N D dd.toNat x.toNat y.toNat) ∧ Hid (Lst wx k9 [x, y]) ∧ Hid (W9.grownBy wx (some k9)) ∧ 0 ≤ x ∧ x ≤ 500000 ∧ 1 ≤ y ∧ y ≤ D) (fun wx => (intOf ((wx.cell? ⟨k9, 1, none⟩).getD (.int .i64 0))).toNat)
              case atStart => exact ⟨a, b, HRed, HL, HG, by omega, by omega, by omega, by omega⟩
              case round =>
                clear HRed HL HG a0 a1 b0 b1 c0 c1 cl hle
                obtain ⟨x, y, HRx, HLx, HGx, x0, x1, y0, y1⟩ := hrel
                have c0 : wr.cell? ⟨k9, 0, none⟩ = some (.int .i64 x) := HLx.out.at_ (j := 0) (by simp)
                have c1 : wr.cell? ⟨k9, 1, none⟩ = some (.int .i64 y) := HLx.out.at_ (j := 1) (by simp)
                have f0 := HLx.out.free 0
                have f1 := HLx.out.free 1
                have cl := HLx.out.lt
                have dz : ¬ dd = 0 := by omega
                by_cases hx : x % dd = 0
                · by_cases hy : y % dd = 0
                  · obtain ⟨u, v, ⟨hu, hu2⟩, ⟨hv, hv2⟩, hRed, u0, u1, v0, v1⟩ := red_both HRx.out d2 x0 y0 hx hy
                    have HRu := Lib.hid hRed
                    clear hRed
                    have w1 : IntKind.i64.wrap u = u := IntWalk.i64_in _ (by omega)
                    have w2 : IntKind.i64.wrap v = v := IntWalk.i64_in _ (by omega)
                    go_wp2_with fail
                    go_region
                    go_wp2_with fail
                    refine ⟨⟨u, v, HRu, ?_, ?_, by omega, by omega, by omega, by omega⟩, ?_⟩
                    · exact ((HLx.out.put (j := 0) (by simp) u).put (j := 1) (by simp) v).drew'
                    · exact grownBy_drew (grownBy_trans HGx.out (grownBy_trans (grownBy_setCell _ _ _ _) (grownBy_setCell _ _ _ _)))
                    · have hq : World.cell? (World.drew ((wr.setCell ⟨k9, 0, none⟩ (.int .i64 u)).setCell ⟨k9, 1, none⟩ (.int .i64 v))) ⟨k9, 1, none⟩ = some (.int .i64 v) := ((HLx.out.put (j := 0) (by simp) u).put (j := 1) (by simp) v).at_ (j := 1) (by simp)
                      rw [hq, c1]
                      simp [intOf]; omega
                  · have HRn := Lib.hid (red_next HRx.out d2 (fun h => hy h.2))
                    have hy' : (y % dd == 0) = false := by rw [beq_eq_false_iff_ne]; exact hy
                    go_wp2_with fail
                    exact ⟨⟨dd + 1, x, y, rfl, HRn, HLx, HGx, by omega, by omega, by omega, by omega, by omega, by omega⟩, by simp [intOf]; omega⟩
                · have HRn := Lib.hid (red_next HRx.out d2 (fun h => hx h.1))
                  have hx' : (x % dd == 0) = false := by rw [beq_eq_false_iff_ne]; exact hx
                  go_wp2_with fail
                  exact ⟨⟨dd + 1, x, y, rfl, HRn, HLx, HGx, by omega, by omega, by omega, by omega, by omega, by omega⟩, by simp [intOf]; omega⟩
            · obtain ⟨e1, e2⟩ := red_end HRed.out b0 a0 (by omega)
              rw [e1] at c0 HL
              rw [e2] at c1 HL hle
              clear e1 e2 HRed
              have hgr := HG.out
              have HOq := Lib.hid (HOW9.out.kept HG.out (.inr (fun e => by have := (HOW.out.lt k9 e).2; omega)))
              obtain ⟨m0, m1, m2, m3⟩ := low_bd (N := N) (D := D) (by omega)
              go_wp2_with (at_builtin; refine wpList_append_own_at _ rfl _ _ 59 rfl w1.heap.size 65 i0 _ 2 16 Tryz.underlying59 ihi ihz0 ihz1 ihz2 rfl (by decide) _ _ _ rfl (HOq.out.alloc _) ⟨wr.heap.size, 0, none⟩ 1 1 [.int .i64 (lowN N D), .int .i64 (lowD N D)] rfl rfl (news_new _ _ _ rfl) (by simp [Value.oneCell']) (by simp only [maxLen]; omega) (by omega) (by simp; have := hbr.size; have := hgr.size; omega) ?_; intro v1 w8 hown1 hgrow1 _ hat1; rw [← HPS.out] at hown1)
              refine ⟨⟨k + 1, _, rfl, by omega, by go_num, hown1, ?_⟩, by simp [intOf]; omega⟩
              exact (((hbr.trans (HB9.out.mono hbr.size)).grown hgr (Nat.le_trans hbr.size HB9.out.size) (fun q hq => by injection hq; have := hbr.size; omega)).alloc (Nat.le_trans (Nat.le_trans hbr.size HB9.out.size) hgr.size) _).grown hgrow1 (by have := hbr.size; have := HB9.out.size; have := hgr.size; simp; omega) (fun q hq => (HOq.out.lt q hq).1)
      · obtain rfl : k = hs.length := by omega
        have hown := HOW.out
        rw [List.take_of_length_le (by rw [ratL_len]; exact Nat.le_refl _)] at hown
        go_wp2_with fail
        go_ret2
        exact ⟨_, rfl, hown.base_ hbw.size, hbwr⟩
  · have e2 : exactL p hs = [] := by unfold exactL; rw [if_neg h0]
    rw [e2]
    have h0' : (shareCode p hs != 0) = true := by rw [bne_iff_ne]; exact h0
    clear h0 e2
    go_enter Tryz.func21, Tryz.ntmps21
    go_wp2_with fail
    refine (HC _ (by go_grown)).out.mono ?_
    rintro e w1 ⟨rfl, hb1⟩
    have hbw : Below w.heap.size w w1 := Below.trans (by go_grown) (hb1.mono (by simp))
    go_wp2_with fail
    go_ret2
    exact ⟨_, rfl, World.ownsRow_nil _ _ _ _, hbw⟩
end Go.Proofs.YtfojjecnmfkcfaaGreat
namespace Go.Proofs.YtfojjecnmfkcfaaGreat
open Go.RowKit
set_option linter.unusedVariables false
def StbO (g : Option Nat) (p : Value → World → Prop) : Prop := ∀ v w w', p v w → w.grownBy w' g → p v w'
theorem FL.keepO {g : Option Nat} {l : List (Value → World → Prop)} (h : ∀ p ∈ l, StbO g p) (i : Nat) (v : Value) (w w' : World) (H : FL l i v w) (hb : w.grownBy w' g) : FL l i v w' := by
  unfold FL at H ⊢
  cases hl : l[i]? with
  | none => trivial
  | some p =>
    rw [hl] at H
    exact h p (List.mem_of_getElem? hl) v w w' H hb
theorem stbO_eq (g : Option Nat) (x : Value) : StbO g (PEq x) := fun _ _ _ h _ => h
theorem stbO_row {g : Option Nat} {B : Nat} (hg : ∀ b, g = some b → b < B) (xs : List Value) : StbO g (PRow B xs) := by
  rintro v w w' ⟨k, e, h1, h2, h3⟩ hb
  refine ⟨k, e, h1, Nat.lt_of_lt_of_le h2 hb.size, fun j u hu => ?_⟩
  rw [← h3 j u hu, addr_add]
  exact World.cell?_of_block (a := ⟨k, 0 + j, none⟩) (hb.block k h2 (by intro e; have := hg k e.symm; omega))
/-- Two rows of the call's own, the first one appended to by operation m; the other operations only make memory. -/
structure SG (W : World) (base m n : Nat) (facts : List (Value → World → Prop)) (v u : Value) (k : Nat) (xs xs1 ys : List Value) (l : Nat → Bool) (vals : Nat → Value) (w : World) : Prop where
  gr : W.grownBy w v.ownBlock
  fact : ∀ i, i < n → i ≠ m → l i = true → FL facts i (vals i) w
  row0 : l m = false → w.ownsRow base 3 1 v k xs
  row1 : l m = true → w.ownsRow base 3 1 (vals m) (k + 1) xs1 ∧ ∃ g cap, vals m = .slice (some ⟨g, 0, none⟩) (k + 1) cap ∧ (v.ownBlock = some g ∨ W.heap.size ≤ g)
  other : w.ownsRow base 3 1 u k ys
section
variable {W : World} {base m n : Nat} {facts : List (Value → World → Prop)} {v u : Value} {k : Nat} {xs xs1 ys : List Value} {l : Nat → Bool} {vals : Nat → Value} {w w' : World}
theorem SG.simple (h : SG W base m n facts v u k xs xs1 ys l vals w) (hs : ∀ p ∈ facts, StbO v.ownBlock p) {i : Nat} (hi : i ≠ m) {x : Value} (hb : Below w.heap.size w w') (hf : FL facts i x w') :
    SG W base m n facts v u k xs xs1 ys (fun j => if j = i then true else l j) (fun j => if j = i then x else vals j) w' := by
  refine ⟨grownBy_trans h.gr (below_grown _ hb), fun j hj hjm hl => ?_, fun hl => ?_, fun hl => ?_, own_keep h.other hb⟩
  · by_cases e : j = i
    · subst e; simpa using hf
    · simp only [if_neg e] at hl ⊢
      exact FL.keepO hs j _ _ _ (h.fact j hj hjm hl) (below_grown _ hb)
  · simp only [if_neg (Ne.symm hi)] at hl
    exact own_keep (h.row0 hl) hb
  · simp only [if_neg (Ne.symm hi)] at hl ⊢
    exact ⟨own_keep (h.row1 hl).1 hb, (h.row1 hl).2⟩
theorem SG.app (h : SG W base m n facts v u k xs xs1 ys l vals w) (hs : ∀ p ∈ facts, StbO v.ownBlock p) (hap : ∀ g, u.ownBlock = some g → v.ownBlock ≠ some g) {g cap : Nat} (hown : w'.ownsRow base 3 1 (.slice (some ⟨g, 0, none⟩) (k + 1) cap) (k + 1) xs1) (hg : w.grownBy w' v.ownBlock) (hat : v.ownBlock = some g ∨ g = w.heap.size) :
    SG W base m n facts v u k xs xs1 ys (fun j => if j = m then true else l j) (fun j => if j = m then (.slice (some ⟨g, 0, none⟩) (k + 1) cap) else vals j) w' := by
  refine ⟨grownBy_trans h.gr hg, fun j hj hjm hl => ?_, fun hl => by simp at hl, fun hl => ?_, ?_⟩
  · simp only [if_neg hjm] at hl ⊢
    exact FL.keepO hs j _ _ _ (h.fact j hj hjm hl) hg
  · simp only [if_pos]
    refine ⟨hown, g, cap, rfl, ?_⟩
    rcases hat with hat | hat
    · exact .inl hat
    · exact .inr (by rw [hat]; exact h.gr.size)
  · refine h.other.kept hg ?_
    cases hu : u.ownBlock with
    | none => exact .inl rfl
    | some b => exact .inr (fun e => hap b hu e.symm)
end
def flL (p : Int) (hs : List (Int × Int × Int)) : List Int := hs.map fun x => p * x.1 / valueSum hs
def rmL (p : Int) (hs : List (Int × Int × Int)) : List Int := hs.map fun x => p * x.1 % valueSum hs
theorem ints_snoc {l : List Int} {k : Nat} {z : Int} (h : k < l.length) (hz : l[k] = z) : ints (l.take (k + 1)) = ints (l.take k) ++ [.int .i64 z] := by
  rw [List.take_succ_eq_append_getElem h, hz]; unfold ints; simp
theorem nonneg_sum : ∀ l : List Int, (∀ x ∈ l, 0 ≤ x) → 0 ≤ l.sum
  | [], _ => by simp
  | a :: l, h => by
    have := nonneg_sum l fun x hx => h x (List.mem_cons_of_mem _ hx)
    have := h a List.mem_cons_self
    simp only [List.sum_cons]; omega
theorem take_sum_le {l : List Int} (h : ∀ x ∈ l, 0 ≤ x) (k : Nat) : 0 ≤ (l.take k).sum ∧ (l.take k).sum ≤ l.sum := by
  have h1 := nonneg_sum (l.take k) fun x hx => h x (List.mem_of_mem_take hx)
  have h2 := nonneg_sum (l.drop k) fun x hx => h x (List.mem_of_mem_drop hx)
  have h3 := congrArg List.sum (List.take_append_drop k l)
  rw [List.sum_append] at h3
  omega
theorem flL_sum {p : Int} {hs : List (Int × Int × Int)} (h6 : hs.length ≤ 6) : (flL p hs).sum = (floorsK p hs hs.length).sum := (floors_sum p hs h6).symm
theorem flL_nonneg {p : Int} {hs : List (Int × Int × Int)} (ho : housesOk hs) (h0 : valueSum hs ≠ 0) (hp : 0 ≤ p) : ∀ x ∈ flL p hs, 0 ≤ x := by
  intro x hx
  obtain ⟨y, hy, rfl⟩ := List.mem_map.1 hx
  exact Int.ediv_nonneg (Int.mul_nonneg hp (ho.2 y hy).1) (Int.le_of_lt (valueSum_pos ho h0).1)
theorem own_ap {w w' : World} {base n n' size : Nat} {v u : Value} {xs ys : List Value} {E : TypeId} {g : Nat} (hu : w.ownsRow base E size u n' ys) (hap : ∀ b, u.ownBlock = some b → v.ownBlock ≠ some b) {B : Nat} (hB : w.heap.size ≤ B) (hg : v.ownBlock = some g ∨ B ≤ g) : u.ownBlock ≠ some g := by
  intro e
  rcases hg with h | h
  · exact hap g e h
  · have := (hu.lt g e).2; omega
/-- The call has a list, and an error's code. -/
def RetRL (xs : List Int) (code : Int) (W : World) (e : Ending) (w' : World) : Prop :=
  ∃ A c, e = .returned (.tuple #[.slice A xs.length c, .int .i64 code]) ∧ Rd w' w'.heap.size A (ints xs) ∧ Below W.heap.size W w'
theorem Lst.grown {w w' : World} {b g : Nat} {d : List Int} (h : Lst w b d) (hg : w.grownBy w' (some g)) (hne : b ≠ g) : Lst w' b d := by
  have e := hg.block b h.lt (by intro e; injection e with e; exact hne e)
  exact ⟨Nat.lt_of_lt_of_le h.lt hg.size, fun j u hu => (World.cell?_of_block (a := ⟨b, j, none⟩) e).trans (h.cells j u hu), fun o => (World.frozen?_of_block (a := ⟨b, o, none⟩) e).trans (h.free o)⟩
theorem lst_get {w : World} {b : Nat} {d : List Int} (h : Lst w b d) {j : Nat} {u : Value} (hu : (ints d)[j]? = some u) : w.cell? ⟨b, j, none⟩ = some u := by
  unfold ints at hu
  rw [List.getElem?_map] at hu
  cases hd : d[j]? with
  | none => rw [hd] at hu; cases hu
  | some z =>
    rw [hd] at hu
    cases hu
    exact h.cells j z hd
def befK (p : Int) (hs : List (Int × Int × Int)) (i j : Nat) : Int := (((List.range j).countP fun (k : Nat) => befB (remOf p hs) k i : Nat) : Int)
theorem befK_all (p : Int) (hs : List (Int × Int × Int)) (i : Nat) : befK p hs i hs.length = (befN p hs i : Int) := rfl
theorem befK_le (p : Int) (hs : List (Int × Int × Int)) (i j : Nat) : 0 ≤ befK p hs i j ∧ befK p hs i j ≤ j := by
  unfold befK
  have := List.countP_le_length (p := fun (k : Nat) => befB (remOf p hs) k i) (l := List.range j)
  rw [List.length_range] at this
  omega
theorem remOf_get {p : Int} {hs : List (Int × Int × Int)} {i : Nat} (h : i < hs.length) : remOf p hs i = (rmL p hs)[i]'(by simp [rmL]; exact h) := by
  simp [remOf, rmL, List.getD_eq_getElem?_getD, List.getElem?_eq_getElem h]
theorem befK_succ {p : Int} {hs : List (Int × Int × Int)} {i j : Nat} (hi : i < hs.length) (hj : j < hs.length) : befK p hs i (j + 1) = befK p hs i j + if (rmL p hs)[i]'(by simp [rmL]; exact hi) < (rmL p hs)[j]'(by simp [rmL]; exact hj) ∨ (rmL p hs)[j]'(by simp [rmL]; exact hj) = (rmL p hs)[i]'(by simp [rmL]; exact hi) ∧ j < i then 1 else 0 := by
  unfold befK
  rw [List.range_succ, List.countP_append]
  have e : (befB (remOf p hs) j i = true) ↔ ((rmL p hs)[i]'(by simp [rmL]; exact hi) < (rmL p hs)[j]'(by simp [rmL]; exact hj) ∨ (rmL p hs)[j]'(by simp [rmL]; exact hj) = (rmL p hs)[i]'(by simp [rmL]; exact hi) ∧ j < i) := by
    rw [befB_iff]; unfold Bef
    rw [remOf_get hi, remOf_get hj]
    omega
  by_cases h : befB (remOf p hs) j i = true
  · rw [if_pos (e.1 h)]; simp [h]
  · rw [if_neg (fun h2 => h (e.2 h2))]; simp [h]
/-- Where the second loop stands: the first i shares have had their penny, if they get one. -/
def ShTo (p : Int) (hs : List (Int × Int × Int)) (i : Nat) (F : List Int) : Prop := F.length = hs.length ∧ ∀ j, j < hs.length → F.getD j 0 = (flL p hs).getD j 0 + if j < i ∧ upB p hs j = true then 1 else 0
theorem shTo_start (p : Int) (hs : List (Int × Int × Int)) : ShTo p hs 0 (flL p hs) := ⟨by simp [flL], fun j _ => by simp⟩
theorem shTo_up {p : Int} {hs : List (Int × Int × Int)} {i : Nat} {F : List Int} (h : ShTo p hs i F) (hi : i < hs.length) (hu : upB p hs i = true) : ShTo p hs (i + 1) (F.set i (F[i]'(by rw [h.1]; exact hi) + 1)) := by
  refine ⟨by rw [List.length_set]; exact h.1, fun j hj => ?_⟩
  by_cases e : j = i
  · subst e
    have h1 := h.2 j hj
    have hl : j < F.length := by rw [h.1]; exact hj
    have e1 : F.getD j 0 = F[j] := by simp [List.getD_eq_getElem?_getD, List.getElem?_eq_getElem hl]
    rw [e1, if_neg (by omega)] at h1
    have e2 : (F.set j (F[j] + 1)).getD j 0 = F[j] + 1 := by simp [List.getD_eq_getElem?_getD, hl]
    rw [e2, if_pos ⟨by omega, hu⟩]; omega
  · have e2 : (F.set i (F[i]'(by rw [h.1]; exact hi) + 1)).getD j 0 = F.getD j 0 := by simp [List.getD_eq_getElem?_getD, Ne.symm e]
    rw [e2, h.2 j hj]
    congr 1
    have : (j < i + 1 ∧ upB p hs j = true) ↔ (j < i ∧ upB p hs j = true) := ⟨fun h => ⟨by omega, h.2⟩, fun h => ⟨by omega, h.2⟩⟩
    simp only [this]
theorem shTo_not {p : Int} {hs : List (Int × Int × Int)} {i : Nat} {F : List Int} (h : ShTo p hs i F) (hu : upB p hs i = false) : ShTo p hs (i + 1) F := by
  refine ⟨h.1, fun j hj => ?_⟩
  rw [h.2 j hj]
  congr 1
  have : (j < i + 1 ∧ upB p hs j = true) ↔ (j < i ∧ upB p hs j = true) := ⟨fun h => ⟨by
    by_cases e : j = i
    · subst e; rw [hu] at h; exact absurd h.2 (by simp)
    · omega, h.2⟩, fun h => ⟨by omega, h.2⟩⟩
  simp only [this]
theorem shTo_bd {p : Int} {hs : List (Int × Int × Int)} {i : Nat} {F : List Int} {M : Int} (hn : ∀ x ∈ flL p hs, 0 ≤ x) (h : ShTo p hs i F) (hi : i < hs.length) (hM : (flL p hs).sum ≤ M) : 0 ≤ F[i]'(by rw [h.1]; exact hi) ∧ F[i]'(by rw [h.1]; exact hi) ≤ M := by
  have h1 := h.2 i hi
  have hl : i < F.length := by rw [h.1]; exact hi
  have hl2 : i < (flL p hs).length := by simp [flL]; exact hi
  have e1 : F.getD i 0 = F[i] := by simp [List.getD_eq_getElem?_getD, List.getElem?_eq_getElem hl]
  have e2 : (flL p hs).getD i 0 = (flL p hs)[i] := by simp [List.getD_eq_getElem?_getD, List.getElem?_eq_getElem hl2]
  rw [e1, e2, if_neg (by omega)] at h1
  have h2 := hn _ (List.getElem_mem hl2)
  have h3 := take_sum_le hn (i + 1)
  have h4 := take_sum_le hn i
  rw [take_sum _ i hl2] at h3
  omega
theorem rShares_end {p : Int} {hs : List (Int × Int × Int)} (ho : housesOk hs) (h0 : valueSum hs ≠ 0) (hp : 0 ≤ p) (h1 : 1 ≤ hs.length) (hc : shareCode p hs = 0) : ∀ F, ShTo p hs hs.length F → F = sharesL p hs := by
  rintro F ⟨hl, hF⟩
  have h6 : (sharesPs p hs).length = 6 := by unfold sharesPs; rw [bumps_len, floorsK_len]
  have hn := ho.1
  unfold sharesL
  rw [if_pos hc]
  apply List.ext_getElem
  · rw [hl, List.length_take, h6]; omega
  · intro j j1 j2
    rw [hl] at j1
    have e1 : F[j]'(by omega) = F.getD j 0 := by simp [List.getD_eq_getElem?_getD, List.getElem?_eq_getElem (show j < F.length by omega)]
    have e2 : (sharesPs p hs)[j]'(by omega) = (sharesPs p hs).getD j 0 := by simp [List.getD_eq_getElem?_getD, List.getElem?_eq_getElem (show j < (sharesPs p hs).length by omega)]
    have e3 : (flL p hs).getD j 0 = floorOf p hs j := by
      unfold flL floorOf
      simp [List.getD_eq_getElem?_getD, List.getElem?_eq_getElem j1]
    rw [List.getElem_take, e1, e2, hF j j1, sharesPs_up ho h0 hp h1 j1, e3]
    congr 1
    simp [j1]
set_option maxRecDepth 100000 in
set_option maxHeartbeats 8000000 in
theorem rShares_any (A : Option Addr) (c : Nat) (p : Int) (hs : List (Int × Int × Int)) (w : World) (hr : Rd w w.heap.size A (trips hs)) (hl : hs.length ≤ 1000) :
    Calls Tryz.prog 24 #[.agg #[.int .i64 p, .slice A hs.length c]] w (RetRL (sharesL p hs) (shareCode p hs) w) := by
  obtain ⟨i0, ihi, ihz0, ihz1, ihz2⟩ := info_parts infoIntP
  have HC := fun w1 (hb : Below w.heap.size w w1) => Lib.hid (rValued_any A c p hs w1 (hr.next hb) hl)
  by_cases h0 : shareCode p hs = 0
  · have hck : ckBill p hs = 0 := by
      unfold shareCode at h0
      by_cases h : ckBill p hs = 0
      · exact h
      · rw [if_neg h] at h0; exact absurd h0 h
    have hv : valueSum hs ≠ 0 := by
      intro h
      unfold shareCode at h0
      rw [if_pos hck, if_pos h] at h0; omega
    have ho := housesOk_of hck
    obtain ⟨p0, p1, l1, _⟩ := ckBill_ok hck
    have hl6 := ho.1
    rw [h0] at HC
    obtain ⟨v1, v2⟩ := valueSum_pos ho hv
    have HT := fun w1 (hb : Below w.heap.size w w1) => Lib.hid (rValues_any A c p hs w1 (hr.next hb) ho)
    have HEND := Lib.hid (rShares_end (p := p) ho hv p0 l1 h0)
    have HFN := Lib.hid (flL_nonneg ho hv p0)
    obtain ⟨s1, s2, s3⟩ := floors_bd ho hv p0
    rw [← flL_sum hl6] at s1 s2 s3
    have HUP : Hid (∀ i, upB p hs i = decide ((befN p hs i : Int) < p - (flL p hs).sum)) := by
      show ∀ i, _
      intro i; rw [flL_sum hl6]; rfl
    obtain ⟨T, hT⟩ : ∃ T, valueSum hs = T := ⟨_, rfl⟩
    rw [hT] at HT v1 v2
    have HTv := Lib.hid hT
    have HO := Lib.hid ho
    rw [h0]
    clear h0 hv hck ho hT
    obtain ⟨bh, oh, rfl, hbh⟩ := hr.addr (k := 0) (by rw [trips_length]; omega)
    go_enter Tryz.func24, Tryz.ntmps24
    go_wp2_with fail
    refine (HC _ (by go_grown)).out.mono ?_
    rintro e wa ⟨rfl, hba⟩
    have hbwa : Below w.heap.size w wa := Below.trans (by go_grown) (hba.mono (by simp))
    have d0 := hba.at_ (by simp) (news_new w [.int .i64 p, .slice (some ⟨bh, oh, none⟩) hs.length c] 56 rfl 0 _ rfl)
    have d1 := hba.at_ (by simp) (news_new w [.int .i64 p, .slice (some ⟨bh, oh, none⟩) hs.length c] 56 rfl 1 _ rfl)
    have hz := hba.size
    simp at hz d0 d1
    go_wp2_with fail
    refine (HT _ hbwa).out.mono ?_
    rintro e w1 ⟨rfl, hb1⟩
    have hbw := hbwa.trans (hb1.mono hbwa.size)
    have d0 := hb1.at_ (by omega) d0
    have d1 := hb1.at_ (by omega) d1
    have hz1 := hb1.size
    have hzz : w.heap.size < w1.heap.size := by omega
    have X2 : Hid (w1.cell? ⟨w.heap.size, 0, none⟩ = some (.int .i64 p) ∧ w1.cell? ⟨w.heap.size, 1, none⟩ = some (.slice (some ⟨bh, oh, none⟩) hs.length c)) := ⟨d0, d1⟩
    go_wp2_with fail
    clear d0 d1 hba hb1 hbwa hz hz1
    go_loopw [6, 7, 8, 9, 10] (fun v u lv iv _ wr => ∃ (k : Nat) (v0 u0 : Value), v0 = v ∧ u0 = u ∧ k ≤ hs.length ∧ iv = .int .i64 k ∧ lv = .int .i64 (p - ((flL p hs).take k).sum) ∧ Hid (wr.ownsRow w1.heap.size 3 1 v0 k (ints ((flL p hs).take k))) ∧ Hid (wr.ownsRow w1.heap.size 3 1 u0 k (ints ((rmL p hs).take k))) ∧ Hid (∀ g, u0.ownBlock = some g → v0.ownBlock ≠ some g) ∧ Hid (Below w1.heap.size w1 wr)) (fun _ _ _ iv _ _ => hs.length - (intOf iv).toNat)
    case atStart => exact ⟨0, _, _, rfl, rfl, Nat.zero_le _, rfl, by simp, World.ownsRow_nil _ _ _ _, World.ownsRow_nil _ _ _ _, fun g h => (by cases h), Below.refl _ _⟩
    case round =>
      obtain ⟨k, v0, u0, hv0, hu0, hk, rfl, rfl, HF, HR, HAP, HB⟩ := hrel
      subst hv0 hu0
      have hbwr : Below w.heap.size w wr := hbw.trans (HB.out.mono hbw.size)
      have y0 := HB.out.at_ hzz X2.out.1
      have y1 := HB.out.at_ hzz X2.out.2
      have k0 : w.heap.size < wr.heap.size := Nat.lt_of_lt_of_le hzz HB.out.size
      have hsum := take_sum_le HFN.out k
      obtain ⟨t1, t2⟩ := hsum
      by_cases hlt : k < hs.length
      · obtain ⟨x1, x2, x3⟩ := (hr.below hbwr).trip' hlt
        have hbh' : bh < wr.heap.size := Nat.lt_of_lt_of_le hbh hbwr.size
        obtain ⟨u1, u2, _⟩ := HO.out.2 hs[k] (List.getElem_mem _)
        obtain ⟨n1, n2⟩ := mul_bd p0 p1 u1 u2 (by omega)
        obtain ⟨z, hz⟩ : ∃ z, p * hs[k].1 = z := ⟨_, rfl⟩
        obtain ⟨f, hf⟩ : ∃ f, z / T = f := ⟨_, rfl⟩
        obtain ⟨r, hrr⟩ : ∃ r, z % T = r := ⟨_, rfl⟩
        have efl : (flL p hs)[k]'(by simp [flL]; exact hlt) = f := by simp [flL, hz, HTv.out, hf]
        have erm : (rmL p hs)[k]'(by simp [rmL]; exact hlt) = r := by simp [rmL, hz, HTv.out, hrr]
        have HPF := Lib.hid (ints_snoc (by simp [flL]; exact hlt) efl)
        have HPR := Lib.hid (ints_snoc (by simp [rmL]; exact hlt) erm)
        have hsf : ((flL p hs).take (k + 1)).sum = ((flL p hs).take k).sum + f := by rw [take_sum _ k (by simp [flL]; exact hlt), efl]
        have hsum2 := take_sum_le HFN.out (k + 1)
        have hf0 : 0 ≤ f := by rw [← efl]; exact HFN.out _ (List.getElem_mem _)
        have hf1 : f ≤ 500 := by omega
        have hr0 : 0 ≤ r := by rw [← hrr]; exact Int.emod_nonneg _ (by omega)
        have hr1 : r < T := by rw [← hrr]; exact Int.emod_lt_of_pos _ v1
        rw [hz] at n1 n2
        have w1' : IntKind.i64.wrap (p * hs[k].1) = z := by rw [hz]; exact IntWalk.i64_in _ (by omega)
        have w2' : IntKind.i64.wrap f = f := IntWalk.i64_in _ (by omega)
        have w3' : IntKind.i64.wrap r = r := IntWalk.i64_in _ (by omega)
        have w4' : z.tdiv T = f := by rw [Int.tdiv_eq_ediv_of_nonneg n1]; exact hf
        have w5' : z.tmod T = r := by rw [Int.tmod_eq_emod_of_nonneg n1]; exact hrr
        have hT0 : ¬ T = 0 := by omega
        have HSF := Lib.hid hsf
        have hkz : (k : Int) < hs.length := by omega
        have hk0 : (0 : Int) ≤ (k : Int) := by omega
        clear efl erm hz hsum2 hsf
        go_wp2_with fail
        go_quiet (fail)
        go_upto_region 11 with fail
        obtain ⟨Wd, hWd⟩ : ∃ x, x = wr.drewN nq := ⟨_, rfl⟩
        rw [← hWd]
        have hbd := below_drewN (Below.refl wr.heap.size wr) nq
        rw [← hWd] at hbd
        have HFd := Lib.hid (own_keep HF.out hbd)
        have HRd := Lib.hid (own_keep HR.out hbd)
        have HBd := Lib.hid (HB.out.trans (hbd.mono HB.out.size))
        have hbs := HBd.out.size
        clear hbd hWd x1 x2 x3 y0 y1
        have hS : ∀ q ∈ [PEq v0, PEq (.int .i64 z), PEq (.int .i64 T), PEq (.int .i64 f), PRow Wd.heap.size [.int .i64 f], (fun _ _ => True), PEq u0, PEq (.int .i64 z), PEq (.int .i64 T), PEq (.int .i64 r), PRow Wd.heap.size [.int .i64 r]], StbO v0.ownBlock q := by
          have hg : ∀ b, v0.ownBlock = some b → b < Wd.heap.size := fun b h => (HFd.out.lt b h).2
          intro q hq
          simp only [List.mem_cons, List.not_mem_nil, or_false] at hq
          rcases hq with rfl | rfl | rfl | rfl | rfl | rfl | rfl | rfl | rfl | rfl | rfl
          all_goals first | exact stbO_eq _ _ | exact stbO_row hg _ | exact fun _ _ _ _ _ => trivial
        refine wp_gen 11 (by kernel_rfl) (by kernel_rfl) (by kernel_rfl) (by decide) (SG Wd w1.heap.size 5 11 [PEq v0, PEq (.int .i64 z), PEq (.int .i64 T), PEq (.int .i64 f), PRow Wd.heap.size [.int .i64 f], (fun _ _ => True), PEq u0, PEq (.int .i64 z), PEq (.int .i64 T), PEq (.int .i64 r), PRow Wd.heap.size [.int .i64 r]] v0 u0 k (ints ((flL p hs).take k)) (ints ((flL p hs).take k) ++ [.int .i64 f]) (ints ((rmL p hs).take k))) (fun vals => ⟨grownBy_drew (grownBy_self _ _), fun i _ _ h => (by cases h), fun _ => HFd.out.drew, fun h => (by cases h), HRd.out.drew⟩) ?_ ?_
        · intro i o hi' ho listed vals a w5 hl hdep hM hAt K hK
          match i, hi' with
          | 0, _ =>
            injection ho with ho
            subst ho
            obtain ⟨e6, e6'⟩ := hAt.slot 6 (by kernel_rfl) (by rfl)
            go_simp
            exact hK _ w5 (hM.simple hS (by decide) (Below.refl _ _) rfl)
          | 1, _ =>
            injection ho with ho
            subst ho
            obtain ⟨e10, e10'⟩ := hAt.slot 10 (by kernel_rfl) (by rfl)
            go_simp
            exact hK _ w5 (hM.simple hS (by decide) (Below.refl _ _) rfl)
          | 2, _ =>
            injection ho with ho
            subst ho
            obtain ⟨e5, e5'⟩ := hAt.slot 5 (by kernel_rfl) (by rfl)
            go_simp
            exact hK _ w5 (hM.simple hS (by decide) (Below.refl _ _) rfl)
          | 3, _ =>
            injection ho with ho
            subst ho
            have l1 := hdep ⟨1, .data⟩ (by simp) rfl
            obtain ⟨x1, x1'⟩ := hAt.dep 1 (d := 40) (by omega) l1 (by rfl) (hM.fact 1 (by omega) (by decide) l1)
            have l2 := hdep ⟨2, .data⟩ (by simp) rfl
            obtain ⟨x2, x2'⟩ := hAt.dep 2 (d := 41) (by omega) l2 (by rfl) (hM.fact 2 (by omega) (by decide) l2)
            go_simp
            exact hK _ w5 (hM.simple hS (by decide) (Below.refl _ _) rfl)
          | 4, _ =>
            injection ho with ho
            subst ho
            have l3 := hdep ⟨3, .data⟩ (by simp) rfl
            obtain ⟨x3, x3'⟩ := hAt.dep 3 (d := 42) (by omega) l3 (by rfl) (hM.fact 3 (by omega) (by decide) l3)
            go_simp
            exact hK _ _ (hM.simple hS (by decide) (below_new _ _) ⟨w5.heap.size, rfl, hM.gr.size, by simp, news_new w5 [.int .i64 f] _ rfl⟩)
          | 5, _ =>
            injection ho with ho
            subst ho
            have l0 := hdep ⟨0, .data⟩ (by simp) rfl
            have l4 := hdep ⟨4, .data⟩ (by simp) rfl
            obtain ⟨x0, x0'⟩ := hAt.dep 0 (d := 39) (by omega) l0 (by rfl) (hM.fact 0 (by omega) (by decide) l0)
            obtain ⟨k9, f4, g4, z4, h4⟩ := hM.fact 4 (by omega) (by decide) l4
            obtain ⟨x4, x4'⟩ := hAt.dep 4 (d := 43) (by omega) l4 (by rfl) f4
            refine wp_append_lies w5 _ _ _ rfl w1.heap.size 3 i0 _ 1 8 Tryz.underlying22 ihi ihz0 ihz1 ihz2 rfl (by decide) _ k _ x0' (hM.row0 hl) ⟨k9, 0, none⟩ 1 1 [.int .i64 f] x4' rfl h4 (by simp [Value.oneCell']) (by omega) (by simp only [maxLen]; omega) (by omega) (by have := hM.gr.size; omega) _ rfl ?_
            intro g cap w8 hown1 hgrow1 hat hlt8
            exact hK _ _ (hM.app hS HAP.out hown1 hgrow1 hat)
          | 6, _ =>
            injection ho with ho
            subst ho
            obtain ⟨e7, e7'⟩ := hAt.slot 7 (by kernel_rfl) (by rfl)
            go_simp
            exact hK _ w5 (hM.simple hS (by decide) (Below.refl _ _) rfl)
          | 7, _ =>
            injection ho with ho
            subst ho
            obtain ⟨e10, e10'⟩ := hAt.slot 10 (by kernel_rfl) (by rfl)
            go_simp
            exact hK _ w5 (hM.simple hS (by decide) (Below.refl _ _) rfl)
          | 8, _ =>
            injection ho with ho
            subst ho
            obtain ⟨e5, e5'⟩ := hAt.slot 5 (by kernel_rfl) (by rfl)
            go_simp
            exact hK _ w5 (hM.simple hS (by decide) (Below.refl _ _) rfl)
          | 9, _ =>
            injection ho with ho
            subst ho
            have l7 := hdep ⟨7, .data⟩ (by simp) rfl
            obtain ⟨x7, x7'⟩ := hAt.dep 7 (d := 46) (by omega) l7 (by rfl) (hM.fact 7 (by omega) (by decide) l7)
            have l8 := hdep ⟨8, .data⟩ (by simp) rfl
            obtain ⟨x8, x8'⟩ := hAt.dep 8 (d := 47) (by omega) l8 (by rfl) (hM.fact 8 (by omega) (by decide) l8)
            go_simp
            exact hK _ w5 (hM.simple hS (by decide) (Below.refl _ _) rfl)
          | 10, _ =>
            injection ho with ho
            subst ho
            have l9 := hdep ⟨9, .data⟩ (by simp) rfl
            obtain ⟨x9, x9'⟩ := hAt.dep 9 (d := 48) (by omega) l9 (by rfl) (hM.fact 9 (by omega) (by decide) l9)
            go_simp
            exact hK _ _ (hM.simple hS (by decide) (below_new _ _) ⟨w5.heap.size, rfl, hM.gr.size, by simp, news_new w5 [.int .i64 r] _ rfl⟩)
        · intro vals w5 hM
          have f0 : vals 0 = v0 := hM.fact 0 (by omega) (by decide) (by rfl)
          have f1 : vals 1 = .int .i64 z := hM.fact 1 (by omega) (by decide) (by rfl)
          have f2 : vals 2 = .int .i64 T := hM.fact 2 (by omega) (by decide) (by rfl)
          have f3 : vals 3 = .int .i64 f := hM.fact 3 (by omega) (by decide) (by rfl)
          have f6 : vals 6 = u0 := hM.fact 6 (by omega) (by decide) (by rfl)
          have f7 : vals 7 = .int .i64 z := hM.fact 7 (by omega) (by decide) (by rfl)
          have f8 : vals 8 = .int .i64 T := hM.fact 8 (by omega) (by decide) (by rfl)
          have f9 : vals 9 = .int .i64 r := hM.fact 9 (by omega) (by decide) (by rfl)
          obtain ⟨k4, f4, _, _, _⟩ := hM.fact 4 (by omega) (by decide) (by rfl)
          obtain ⟨k10, f10, g10, z10, h10⟩ := hM.fact 10 (by omega) (by decide) (by rfl)
          obtain ⟨hown5, g5, cap5, f5, hat5⟩ := hM.row1 (by rfl)
          rw [f5] at hown5
          have HF5 := Lib.hid hown5
          have HU5 := Lib.hid hM.other
          have HG5 := Lib.hid hM.gr
          have H10 := Lib.hid h10
          have AT5 := Lib.hid hat5
          clear hM hown5 hat5 h10
          simp only [putAll, List.range, List.range.loop, List.foldl_cons, List.foldl_nil, f0, f1, f2, f3, f4, f5, f6, f7, f8, f9, f10]
          clear f0 f1 f2 f3 f4 f5 f6 f7 f8 f9 f10
          change wpAny _ _ _ _ _ _ (Act.put (Act.put (Act.put (Act.put (Act.put (Act.put (Act.put (Act.put (Act.put (Act.put (Act.put _ (some 39) _) (some 40) _) (some 41) _) (some 42) _) (some 43) _) (some 44) _) (some 45) _) (some 46) _) (some 47) _) (some 48) _) (some 49) _) _
          simp only [Act.put, List.setIfInBounds_toArray, List.set_cons_zero, List.set_cons_succ]
          refine tail_step 11 _ (by kernel_rfl) rfl rfl (fun K' hK => ?_)
          refine wp_append_lies w5 _ _ _ rfl w1.heap.size 3 i0 _ 1 8 Tryz.underlying22 ihi ihz0 ihz1 ihz2 rfl (by decide) _ k (ints ((rmL p hs).take k)) rfl HU5.out ⟨k10, 0, none⟩ 1 1 [.int .i64 r] rfl rfl H10.out (by simp [Value.oneCell']) (by omega) (by simp only [maxLen]; omega) (by omega) (by have := HG5.out.size; omega) _ rfl ?_
          intro g11 cap11 w8 hown1 hgrow1 hat hlt8
          refine hK _ _ ?_
          clear hK K'
          have hap2 : u0.ownBlock ≠ some g5 := own_ap (w' := w5) (n := k) (xs := []) HRd.out HAP.out (Nat.le_refl _) AT5.out
          have HF8 := Lib.hid (HF5.out.kept hgrow1 (.inr (fun e => hap2 e.symm)))
          have HR8 := Lib.hid hown1
          have HAP8 : Hid (∀ g, (Value.slice (some ⟨g11, 0, none⟩) (k + 1) cap11).ownBlock = some g → (Value.slice (some ⟨g5, 0, none⟩) (k + 1) cap5).ownBlock ≠ some g) := by
            show ∀ g, _ → _
            intro g e1 e2
            have e1' : g11 = g := by simpa [Value.ownBlock] using e1
            have e2' : g5 = g := by simpa [Value.ownBlock] using e2
            rcases hat with h | h
            · have h' : u0.ownBlock = some g11 := h
              exact hap2 (by rw [h', e1', e2'])
            · have h3 := (HF5.out.lt g5 rfl).2
              omega
          have HB8 : Hid (Below w1.heap.size w1 w8) := ((HBd.out.grown HG5.out HBd.out.size (fun q hq => (HFd.out.lt q hq).1)).grown hgrow1 (Nat.le_trans HBd.out.size HG5.out.size) (fun q hq => (HU5.out.lt q hq).1))
          clear hown1 hgrow1 hat HF5 HU5 HG5 H10 AT5 hap2
          refine tail_step 12 _ (by kernel_rfl) rfl rfl (fun K' hK => ?_)
          go_simp
          refine hK _ _ ?_
          clear hK K'
          refine tail_step 13 _ (by kernel_rfl) rfl rfl (fun K' hK => ?_)
          go_simp
          refine hK _ _ ?_
          clear hK K'
          refine wpAny_done (by kernel_rfl) ?_ _
          rw [← HPF.out] at HF8
          rw [← HPR.out] at HR8
          go_wp2_with fail
          go_roundw
          case rel => exact ⟨k + 1, _, _, rfl, rfl, by omega, by go_num, by rw [HSF.out]; congr 1; omega, HF8, HR8, HAP8, HB8⟩
          case measure => simp [intOf]; omega
      · obtain rfl : k = hs.length := by omega
        clear hlt
        have hF0 := HF.out
        have hR0 := HR.out
        rw [List.take_of_length_le (by simp [flL])] at hF0
        rw [List.take_of_length_le (by simp [rmL])] at hR0
        obtain ⟨bF, cF, rfl, hbF, hcF, hLF⟩ := own_lst' hF0 (by simp [flL]) l1
        obtain ⟨bR, cR, rfl, hbR, hcR, hLR⟩ := own_lst' hR0 (by simp [rmL]) l1
        have hne : bR ≠ bF := by
          intro e
          exact HAP.out bR rfl (by rw [e]; rfl)
        have hft : (flL p hs).take hs.length = flL p hs := List.take_of_length_le (by simp [flL])
        rw [hft]
        rw [hft] at t1 t2
        obtain ⟨W2, hW2⟩ : ∃ x, x = wr := ⟨_, rfl⟩
        subst hW2
        have HLF := Lib.hid hLF
        have HLR := Lib.hid hLR
        have HS0 := Lib.hid (shTo_start p hs)
        have HBW := Lib.hid hbwr
        obtain ⟨left, hleft⟩ : ∃ left, p - (flL p hs).sum = left := ⟨_, rfl⟩
        rw [hleft] at HUP ⊢
        have HFS : Hid ((flL p hs).sum ≤ 500) := by show _ ≤ _; omega
        have hle0 : 0 ≤ left := by omega
        have hle1 : left ≤ 500 := by omega
        clear hF0 hR0 hLF hLR HF HR HAP hft hleft hbwr t1 t2 s1 s2 s3
        go_wp2_with fail
        go_loopw [11, 12, 13] (fun iv _ _ wx => ∃ (i : Nat) (F : List Int), iv = .int .i64 i ∧ i ≤ hs.length ∧ Hid (ShTo p hs i F) ∧ Hid (Lst wx bF F) ∧ Hid (W2.grownBy wx (some bF))) (fun iv _ _ _ => hs.length - (intOf iv).toNat)
        case atStart => exact ⟨0, _, rfl, Nat.zero_le _, HS0, HLF, grownBy_self _ _⟩
        case round =>
          obtain ⟨i, F, rfl, hi, HS, HLx, HGx⟩ := hrel
          by_cases hil : i < hs.length
          · have hiz : (i : Int) < hs.length := by omega
            have hi0 : (0 : Int) ≤ (i : Int) := by omega
            have HU := Lib.hid (HUP.out i)
            go_wp2_with fail
            go_loopw [12, 13] (fun cv kv wx => ∃ j : Nat, kv = .int .i64 j ∧ j ≤ hs.length ∧ cv = .int .i64 (befK p hs i j) ∧ Hid (Lst wx bF F) ∧ Hid (W2.grownBy wx (some bF))) (fun _ kv _ => hs.length - (intOf kv).toNat)
            case atStart => exact ⟨0, rfl, Nat.zero_le _, rfl, HLx, HGx⟩
            case round =>
              clear HLx HGx
              obtain ⟨j, rfl, hj, rfl, HLy, HGy⟩ := hrel
              have hbk := befK_le p hs i j
              by_cases hjl : j < hs.length
              · have hjz : (j : Int) < hs.length := by omega
                have hj0 : (0 : Int) ≤ (j : Int) := by omega
                have HRy := Lib.hid (HLR.out.grown HGy.out hne)
                have ci := HRy.out.at_ (j := i) (by simp [rmL]; exact hil)
                have cj := HRy.out.at_ (j := j) (by simp [rmL]; exact hjl)
                have cl := HRy.out.lt
                have HSN := Lib.hid (befK_succ (p := p) hil hjl)
                generalize (rmL p hs)[i]'(by simp [rmL]; exact hil) = b at ci HSN
                generalize (rmL p hs)[j]'(by simp [rmL]; exact hjl) = a at cj HSN
                by_cases h1 : b < a
                · have hsn := HSN.out
                  rw [if_pos (.inl h1)] at hsn
                  have HN := Lib.hid hsn
                  clear hsn
                  go_wp2_with fail
                  go_quiet (fail)
                  go_wp2_with fail
                  go_roundw
                  case rel => exact ⟨j + 1, by go_num, by omega, by rw [HN.out], HLy.out.drewN _, only_drewN HGy.out _⟩
                  case measure => simp [intOf]; omega
                · by_cases h2 : a = b
                  · subst h2
                    by_cases h3 : j < i
                    · have hsn := HSN.out
                      rw [if_pos (.inr ⟨rfl, h3⟩)] at hsn
                      have HN := Lib.hid hsn
                      have h3z : (j : Int) < (i : Int) := by omega
                      clear hsn
                      go_wp2_with fail
                      go_quiet (fail)
                      go_wp2_with fail
                      go_roundw
                      case rel => exact ⟨j + 1, by go_num, by omega, by rw [HN.out], HLy.out.drewN _, only_drewN HGy.out _⟩
                      case measure => simp [intOf]; omega
                    · have hsn := HSN.out
                      rw [if_neg (by omega)] at hsn
                      have HN := Lib.hid hsn
                      have h3z : ¬ (j : Int) < (i : Int) := by omega
                      clear hsn
                      go_wp2_with fail
                      go_quiet (fail)
                      go_wp2_with fail
                      go_roundw
                      case rel => exact ⟨j + 1, by go_num, by omega, by rw [HN.out]; simp, HLy.out.drewN _, only_drewN HGy.out _⟩
                      case measure => simp [intOf]; omega
                  · have hsn := HSN.out
                    rw [if_neg (by omega)] at hsn
                    have HN := Lib.hid hsn
                    have h2b : (a == b) = false := by rw [beq_eq_false_iff_ne]; exact h2
                    clear hsn
                    go_wp2_with fail
                    go_quiet (fail)
                    go_wp2_with fail
                    go_roundw
                    case rel => exact ⟨j + 1, by go_num, by omega, by rw [HN.out]; simp, HLy.out.drewN _, only_drewN HGy.out _⟩
                    case measure => simp [intOf]; omega
              · obtain rfl : j = hs.length := by omega
                have hu := HU.out
                rw [← befK_all] at hu
                have hFl := HS.out.1
                have cF' := HLy.out.at_ (j := i) (by omega)
                have fF' := HLy.out.free i
                have lF' := HLy.out.lt
                by_cases hup : befK p hs i hs.length < left
                · rw [decide_eq_true hup] at hu
                  have HS1 := Lib.hid (shTo_up HS.out hil hu)
                  have hb5 := shTo_bd HFN.out HS.out hil HFS.out
                  clear hu
                  generalize F[i]'(by omega) = z at cF' HS1 hb5
                  have HL1 := Lib.hid (HLy.out.put (j := i) (by omega) (z + 1))
                  have HG1 := Lib.hid (grownBy_trans HGy.out (grownBy_setCell wr bF i (.int .i64 (z + 1))))
                  go_wp2_with fail
                  go_roundw
                  case rel => exact ⟨i + 1, _, by go_num, by omega, HS1, HL1, HG1⟩
                  case measure => simp [intOf]; omega
                · rw [decide_eq_false hup] at hu
                  have HS1 := Lib.hid (shTo_not HS.out hu)
                  clear hu
                  go_wp2_with fail
                  go_roundw
                  case rel => exact ⟨i + 1, _, by go_num, by omega, HS1, HLy, HGy⟩
                  case measure => simp [intOf]; omega
          · obtain rfl : i = hs.length := by omega
            have hE := HEND.out F HS.out
            have hFl := HS.out.1
            go_wp2_with fail
            go_ret2
            refine ⟨some ⟨bF, 0, none⟩, cF, ?_, ?_, ?_⟩
            · rw [← hE, hFl]; rfl
            · rw [← hE]
              exact fun _ => ⟨bF, 0, rfl, HLx.out.lt, fun j u hu => by rw [Nat.zero_add]; exact lst_get HLx.out hu⟩
            · exact HBW.out.grown HGx.out HBW.out.size (fun q hq => by injection hq; omega)
  · have e2 : sharesL p hs = [] := by unfold sharesL; rw [if_neg h0]
    rw [e2]
    have h0' : (shareCode p hs != 0) = true := by rw [bne_iff_ne]; exact h0
    clear h0 e2
    go_enter Tryz.func24, Tryz.ntmps24
    go_wp2_with fail
    refine (HC _ (by go_grown)).out.mono ?_
    rintro e w1 ⟨rfl, hb1⟩
    have hbw : Below w.heap.size w w1 := Below.trans (by go_grown) (hb1.mono (by simp))
    go_wp2_with fail
    go_ret2
    exact ⟨_, _, rfl, Rd.nil, hbw⟩
end Go.Proofs.YtfojjecnmfkcfaaGreat
namespace Go.Proofs.YtfojjecnmfkcfaaGreat
open Go.RowKit
set_option linter.unusedVariables false
set_option maxHeartbeats 1000000 in
theorem refBids_any (A : Option Addr) (c : Nat) (p : Int) (hs : List (Int × Int × Int)) (w : World) (hr : Rd w w.heap.size A (trips hs)) (hl : hs.length ≤ 1000) :
    Calls Tryz.prog 26 #[.agg #[.int .i64 p, .slice A hs.length c]] w (RetRL (bidsL p hs) (bidsCode p hs) w) := by
  have HC := fun w1 (hb : Below w.heap.size w w1) => Lib.hid (refCheck_any A c p hs w1 (hr.next hb) hl)
  have hnil := fun (w : World) (a : Option Addr) (n c : Nat) => Lib.run_eql_slice_nil (P := Tryz.prog) w 22 3 a n c 0 0 Tryz.underlying22
  by_cases h0 : ckBill p hs = 0
  · have ho := housesOk_of h0
    obtain ⟨p0, p1, l1, l2, _⟩ := ckBill_ok h0
    by_cases h3 : bidOk hs p = true
    · have hcode : bidsCode p hs = 0 := by unfold bidsCode; rw [if_pos h0, if_pos h3]
      have hL : bidsL p hs = (bidPs hs p).take hs.length := by unfold bidsL; rw [if_pos hcode]
      have HB := fun w1 (hb : Below w.heap.size w w1) => Lib.hid (rBids_yes A c p hs hs.length rfl w1 (hr.next hb) ho l1 p0 p1 h3)
      have hlen : (bidsL p hs).length = hs.length := by rw [hL]; exact take_len ho p
      have hn0 : ((hs.length : Int) == 0) = false := by rw [beq_eq_false_iff_ne]; omega
      rw [hcode]
      rw [h0] at HC
      have HL := Lib.hid hlen
      have HLL := Lib.hid hL
      clear h0 hcode hL hlen
      go_enter Tryz.func26, Tryz.ntmps26
      go_wp2_with fail
      refine (HC _ (by go_grown)).out.mono ?_
      rintro e w1 ⟨rfl, hb1⟩
      have hbw : Below w.heap.size w w1 := Below.trans (by go_grown) (hb1.mono (by simp))
      have d0 := hb1.at_ (by simp) (news_new w [.int .i64 p, .slice A hs.length c] 56 rfl 0 _ rfl)
      have d1 := hb1.at_ (by simp) (news_new w [.int .i64 p, .slice A hs.length c] 56 rfl 1 _ rfl)
      have hz := hb1.size
      simp at hz d0 d1
      go_wp2_with fail
      refine (HB _ hbw).out.mono ?_
      rintro e w2 ⟨b, cap, rfl, hR, hb2⟩
      have hbw2 := hbw.trans (hb2.mono hbw.size)
      go_wp2_with fail
      go_ret2
      exact ⟨some ⟨b, 0, none⟩, cap, by rw [HL.out]; rfl, by rw [HLL.out]; exact hR, hbw2⟩
    · have h3' : bidOk hs p = false := by simpa using h3
      have hcode : bidsCode p hs = 1 := by unfold bidsCode; rw [if_pos h0, if_neg h3]
      have hL : bidsL p hs = [] := by unfold bidsL; rw [hcode]; rfl
      have HB := fun w1 (hb : Below w.heap.size w w1) => Lib.hid (rBids_no A c p hs w1 (hr.next hb) ho l1 p0 p1 h3')
      rw [hcode, hL]
      rw [h0] at HC
      clear h0 hcode hL
      go_enter Tryz.func26, Tryz.ntmps26
      go_wp2_with fail
      refine (HC _ (by go_grown)).out.mono ?_
      rintro e w1 ⟨rfl, hb1⟩
      have hbw : Below w.heap.size w w1 := Below.trans (by go_grown) (hb1.mono (by simp))
      have d0 := hb1.at_ (by simp) (news_new w [.int .i64 p, .slice A hs.length c] 56 rfl 0 _ rfl)
      have d1 := hb1.at_ (by simp) (news_new w [.int .i64 p, .slice A hs.length c] 56 rfl 1 _ rfl)
      have hz := hb1.size
      simp at hz d0 d1
      go_wp2_with fail
      refine (HB _ hbw).out.mono ?_
      rintro e w2 ⟨rfl, hb2⟩
      have hbw2 := hbw.trans (hb2.mono hbw.size)
      go_wp2_with fail
      go_ret2
      exact ⟨_, _, rfl, Rd.nil, hbw2⟩
  · have hcode : bidsCode p hs = ckBill p hs := by unfold bidsCode; rw [if_neg h0]
    have hL : bidsL p hs = [] := by unfold bidsL; rw [hcode, if_neg h0]
    have h0' : (ckBill p hs != 0) = true := by rw [bne_iff_ne]; exact h0
    rw [hcode, hL]
    clear h0 hcode hL
    go_enter Tryz.func26, Tryz.ntmps26
    go_wp2_with fail
    refine (HC _ (by go_grown)).out.mono ?_
    rintro e w1 ⟨rfl, hb1⟩
    have hbw : Below w.heap.size w w1 := Below.trans (by go_grown) (hb1.mono (by simp))
    go_wp2_with fail
    go_ret2
    exact ⟨_, _, rfl, Rd.nil, hbw⟩
end Go.Proofs.YtfojjecnmfkcfaaGreat
