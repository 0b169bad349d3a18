/- FeeBid returns true, whatever the numbers; what is passed in reads as it did. No condition. -/
import Derived.Test.YtfojjecnmfkcfaaP15
import Derived.Test.YtfojjecnmfkcfaaP11
import Derived.Test.YtfojjecnmfkcfaaRows
import Derived.Deep.DeepCutAuto
import Derived.SizedLaws
namespace Go.Proofs.Ytfojjecnmfkcfaa
open Go.ChangeShapes Go.WideShapes Go.ChangeAt Go.RowKit Go.Joins
set_option linter.unusedVariables false
theorem bidsB_any (A : Option Addr) (c : Nat) (p : Int) (hs : List (Int × Int × Int)) (B : List Int) (w : World) (hr : Rd w w.heap.size A (trips hs)) (hl : hs.length ≤ 1000) (hc : ckBill p hs = 0) (hB : BidsN hs p B) :
    Calls Try.prog 36 #[.agg #[.int .i64 p, .slice A hs.length c]] w (RetOwnE 3 1 hs.length (ints B) 0 w) := by
  have h : bidsCode p hs = 0 := by unfold bidsCode; rw [if_pos hc, if_pos hB.bid]
  have h2 : bidsL p hs = B := by unfold bidsL; rw [if_pos h]; exact hB.eq.symm
  have := Bids_any A c p hs w hr hl
  rw [h, h2, hB.fit.1] at this
  exact this
theorem outbidsB_any (A : Option Addr) (c : Nat) (p : Int) (hs : List (Int × Int × Int)) (L : Option Addr) (cl : Nat) (qs : List Int) (w : World) (hr : Rd w w.heap.size A (trips hs)) (hl : hs.length ≤ 1000) (hq : Rd w w.heap.size L (ints qs)) (hc : ckBill p hs = 0) (hf : fitsN hs qs) (hs' : qs.sum = p) :
    Calls Try.prog 37 #[.agg #[.int .i64 p, .slice A hs.length c], .slice L hs.length cl] w (RetOwnE 69 2 (outRows hs qs hs.length).length (pairs (outRows hs qs hs.length)) 0 w) := by
  have := Outbids_any A c p hs L cl qs w hr hl hq (by rw [hf.1]; exact hl)
  rw [outCode_fit hc hf hs', outL_fit hc hf hs', hf.1] at this
  exact this
set_option maxRecDepth 100000 in
set_option maxHeartbeats 8000000 in
theorem feeBid_walk (A1 : Option Addr) (c1 : Nat) (zs1 : List Int) (A2 : Option Addr) (c2 : Nat) (zs2 : List Int) (w : World) (h1 : Bytes w A1 zs1) (h2 : Bytes w A2 zs2) :
    Calls Try.prog 5 #[.slice A1 zs1.length c1, .slice A2 zs2.length c2] w fun e w' => e = .returned (.bool true) ∧ Below w.heap.size w w' := by
  go_enter Try.func5, Try.ntmps5
  go_wp2_with fail
  refine (fill_any A1 c1 zs1 w h1).mono ?_
  rintro e w1 ⟨g1, rfl, hg1, hC1, hb1⟩
  go_wp2_with fail
  refine (madeBill_any g1 A1 c1 zs1 60 5 w1 ⟨_, _, hC1⟩ (by omega) (by omega)).mono ?_
  rintro e w2 ⟨p, hs, v2, rfl, hMB, hown2, _, hg2⟩
  obtain ⟨A, cA, rfl, _, hRA⟩ := own_slice hown2
  have b2 : Below w.heap.size w w2 := hb1.grown hg2 hb1.size (fun k hk => by injection hk; omega)
  have hck := ckBill_made hMB (by omega) (by omega)
  have hbk := bidOk_made hMB (by omega) (by omega)
  have ho := housesOk_of hck
  obtain ⟨B, hBN⟩ : ∃ B, Hid (BidsN hs p B) := ⟨_, bidsN ho hbk⟩
  have hn6 := ho.1
  have hn1 := hMB.l0
  have hp0 := hMB.p0
  have hp1 := hMB.p1
  have HCK := Lib.hid hck
  have HO := Lib.hid ho
  have h2' := h2.next b2
  clear hC1 hg2 hb1 hown2 hbk hck ho hMB h1
  go_wp2_with fail
  obtain ⟨W2, hW2⟩ : ∃ x, x = w2.alloc (.cells #[.int .i64 p, .slice A hs.length cA] 39) := ⟨_, rfl⟩
  rw [← hW2]
  have nb := below_new w2 (.cells #[.int .i64 p, .slice A hs.length cA] 39)
  rw [← hW2] at nb
  have x0 : W2.cell? ⟨w2.heap.size, 0, none⟩ = some (.int .i64 p) := by rw [hW2]; exact news_new w2 [.int .i64 p, .slice A hs.length cA] 39 rfl 0 _ rfl
  have x1 : W2.cell? ⟨w2.heap.size, 1, none⟩ = some (.slice A hs.length cA) := by rw [hW2]; exact news_new w2 [.int .i64 p, .slice A hs.length cA] 39 rfl 1 _ rfl
  have xl : w2.heap.size < W2.heap.size := by rw [hW2]; simp
  have bW2 := b2.trans (nb.mono b2.size)
  have hRA2 : Rd W2 w2.heap.size A (trips hs) := hRA.keep fun b o hb => nb.cell (p := ⟨b, o, none⟩) hb
  have h2W := h2'.next nb
  have hwl : w.heap.size ≤ w2.heap.size := b2.size
  generalize w2.heap.size = b5 at x0 x1 xl hRA2 hwl ⊢
  clear hW2 nb h2' h2 b2 hRA
  go_wp2_with fail
  refine (fill_any A2 c2 zs2 W2 h2W).mono ?_
  rintro e w3 ⟨g, rfl, hg3, hC3, hb3⟩
  have y0 := hb3.at_ xl x0
  have y1 := hb3.at_ xl x1
  have hRA3 : Rd w3 b5 A (trips hs) := hRA2.keep fun b o hb => hb3.cell (p := ⟨b, o, none⟩) (Nat.lt_trans hb xl)
  have b3 := bW2.trans (hb3.mono bW2.size)
  have o1 : b5 < g := by omega
  have hC3' : ChE w3 g A2 c2 zs2 := ⟨_, _, hC3⟩
  have hg4 := hC3.lt
  have yl : b5 < w3.heap.size := by omega
  clear x0 x1 hRA2 hb3 hC3 xl h2W bW2 hg3
  go_wp2_with fail
  refine (bidsB_any A cA p hs B w3 (hRA3.more (by omega)) (by omega) HCK.out hBN.out).mono ?_
  rintro e w4 ⟨v4, rfl, hown4, hb4⟩
  obtain ⟨Bb, cB, rfl, _, hRB⟩ := own_sliceI hown4
  have hBl := hBN.out.fit.1
  have x0 := hb4.at_ yl y0
  have x1 := hb4.at_ yl y1
  have hRA4 : Rd w4 b5 A (trips hs) := hRA3.keep fun b o hb => hb4.cell (p := ⟨b, o, none⟩) (Nat.lt_trans hb yl)
  have b4 := b3.trans (hb4.mono b3.size)
  have hC4 := hC3'.below hb4
  have xl := Nat.lt_of_lt_of_le yl hb4.size
  have o2 : g < w3.heap.size := hg4
  have hRB4 : RdI w4 (g + 1) w4.heap.size Bb (ints B) := fun hne => by
    obtain ⟨b, off, e, l1, l2, l3⟩ := hRB hne
    exact ⟨b, off, e, by omega, l2, l3⟩
  clear y0 y1 hRA3 b3 hC3' yl hown4 hRB hg4 hb4 o2
  go_wp2_with fail
  refine (outbidsB_any A cA p hs Bb cB B w4 (hRA4.more (by omega)) (by omega) (hRB4.rd (Nat.le_refl _)) HCK.out hBN.out.fit hBN.out.sum).mono ?_
  rintro e w5 ⟨v5, rfl, hown5, hb5⟩
  rw [outRows_still hBN.out.still] at hown5
  obtain ⟨Bo, co, rfl, _, _⟩ := own_slice hown5
  have y0 := hb5.at_ xl x0
  have y1 := hb5.at_ xl x1
  have hRA5 : Rd w5 b5 A (trips hs) := hRA4.keep fun b o hb => hb5.cell (p := ⟨b, o, none⟩) (Nat.lt_trans hb xl)
  have b5' := b4.trans (hb5.mono b4.size)
  have hC5 := hC4.below hb5
  have yl := Nat.lt_of_lt_of_le xl hb5.size
  have hz5 := hb5.size
  have hg5 := hC4.lt
  have hRB5 : RdI w5 (g + 1) w4.heap.size Bb (ints B) := hRB4.keep fun b _ hb => hb5.block b hb
  clear x0 x1 hRA4 b4 hC4 xl hown5 hRB4 hb5
  have HT : ∀ m, Hid (Calls Try.prog 38 #[.slice Bb hs.length cB] (w5.drewN m) fun e w' => e = .returned (.int .i64 p) ∧ w' = w5.drewN m) := fun m => by
    have := total10_any Bb cB B (w5.drewN m) ((hRB5.rd hz5).drewN m) (by rw [hBl]; omega) (fun z hz => by have := fitsN_bd HO.out hBN.out.fit z hz; omega)
    rw [hBl, hBN.out.sum] at this
    exact this
  go_wp2_with fail
  go_quiet ((go_at_call 38; exact Calls.quiet_of_same (HT _).out))
  clear HT
  go_wp2_with fail
  generalize hW6 : World.drewN w5 _ = w6
  have x0 : w6.cell? ⟨b5, 0, none⟩ = some (.int .i64 p) := by rw [← hW6]; exact y0
  have x1 : w6.cell? ⟨b5, 1, none⟩ = some (.slice A hs.length cA) := by rw [← hW6]; exact y1
  have hRA6 : Rd w6 b5 A (trips hs) := by rw [← hW6]; exact hRA5.drewN _
  have hC6 : ChE w6 g A2 c2 zs2 := by rw [← hW6]; exact hC5.drewN _
  have hRB6 : RdI w6 (g + 1) w4.heap.size Bb (ints B) := by rw [← hW6]; exact hRB5
  have b6 : Below w.heap.size w w6 := by rw [← hW6]; exact below_drewN b5' _
  have xl : b5 < w6.heap.size := by rw [← hW6]; exact yl
  have hz6 : w4.heap.size ≤ w6.heap.size := by rw [← hW6]; exact hz5
  clear hW6 y0 y1 hRA5 hC5 hRB5 b5' yl hz5
  go_loop [63] (fun iv => ∃ k : Nat, iv = .int .i64 k ∧ k ≤ hs.length) (fun iv => hs.length - (intOf iv).toNat)
  case atStart => exact ⟨0, rfl, Nat.zero_le _⟩
  case round =>
    obtain ⟨k, rfl, hk⟩ := hrel
    by_cases hlt : k < hs.length
    · obtain ⟨bB, oB, rfl, _, e1⟩ := (hRB6.rd hz6).int (k := k) (by omega)
      obtain ⟨bA, oA, rfl, hbA, _, e2, e3⟩ := hRA6.trip hlt
      have hf := hBN.out.fit.2 k hlt
      have eq1 : B.getD k 0 = B[k]'(by omega) := by simp [List.getD_eq_getElem?_getD, List.getElem?_eq_getElem (show k < B.length by omega)]
      have eq2 : hL hs k = hs[k].2.1 := by unfold hL; simp [List.getD_eq_getElem?_getD, List.getElem?_eq_getElem hlt]
      have eq3 : hM hs k = hs[k].2.2 := by unfold hM; simp [List.getD_eq_getElem?_getD, List.getElem?_eq_getElem hlt]
      rw [eq1, eq2, eq3] at hf
      obtain ⟨f1, f2⟩ := hf
      generalize B[k]'(by omega) = y at *
      generalize hs[k].2.1 = l at *
      generalize hs[k].2.2 = m at *
      clear eq1 eq2 eq3
      have hkz : (k : Int) < hs.length := by omega
      have hkz0 : (0 : Int) ≤ (k : Int) := by omega
      go_wp2_with fail
      go_round
      case rel => exact ⟨k + 1, by go_num, by omega⟩
      case measure => simp [intOf]; omega
    · have hkz : ¬ (k : Int) < hs.length := by omega
      go_wp2_with fail
      have HCp := Lib.hid (copyInt_any Bb cB B w6 (hRB6.rd hz6) (by omega))
      rw [hBl] at HCp
      refine HCp.out.mono ?_
      rintro e w7 ⟨v7, rfl, hown7, hb7⟩
      obtain ⟨bm, cm, rfl, hbm, _, hLst⟩ := own_lst' hown7 hBl (by omega)
      have HS : Hid (BS w w7 b5 g bm A cA p hs A2 c2 zs2 Bb cB B B) := by
        have hgl := hC6.lt
        refine ⟨hb7.at_ xl x0, hb7.at_ xl x1, hRA6.keep fun b o hb => hb7.cell (p := ⟨b, o, none⟩) (Nat.lt_trans hb xl), hC6.below hb7, ?_, hLst, b6.trans (hb7.mono b6.size), o1, by omega, by omega⟩
        exact (show RdI w7 (g + 1) bm Bb (ints B) from fun hne => by
          obtain ⟨b, off, e, l1, l2, l3⟩ := hRB6 hne
          exact ⟨b, off, e, l1, by omega, fun j u hu => (hb7.cell (p := ⟨b, off + j, none⟩) (by show b < _; omega)).trans (l3 j u hu)⟩)
      have hlenS := slotsB_len (B := B) (by omega) (fun i => fitsN_at HO.out hBN.out.fit i)
      rw [hBN.out.sum] at hlenS
      have HN0 : Hid (Near hs p B B 0) := ⟨hBN.out.fit, hBN.out.sum, by rw [distB_self]; exact Nat.le_refl _⟩
      clear HCp hown7 hb7 hLst x0 x1 hRA6 hC6 hRB6 b6 xl hz6 o1 hwl hbm hkz
      go_wp2_with fail
      refine (pullE_any g A2 c2 zs2 9 w7 HS.out.ch (by omega)).mono ?_
      rintro e w8 ⟨r8, rfl, _, hr8, hC8, hg8⟩
      obtain ⟨r80, r81⟩ := hr8 (by omega)
      have HS8 := Lib.hid (HS.out.pull hg8 hC8)
      clear HS hC8 hg8 hr8
      have hlS : (slotsB B).length ≤ 108 := by omega
      clear hlenS
      generalize hSl : (slotsB B).length = ls at hlS
      have HSl := Lib.hid hSl
      clear hSl
      go_wp2_with fail
      go_loopw [91] (fun iv wr => ∃ (k : Nat) (qs : List Int), iv = .int .i64 k ∧ (k : Int) ≤ r8 ∧ Hid (BS w wr b5 g bm A cA p hs A2 c2 zs2 Bb cB B qs) ∧ Hid (Near hs p B qs k) ∧ Hid (phiS (slotsB B) hs qs ≤ phiS (slotsB B) hs B + k * ls)) (fun iv _ => r8.toNat - (intOf iv).toNat)
      case atStart => exact ⟨0, B, rfl, by omega, HS8, HN0, by show _ ≤ _; omega⟩
      case round =>
        obtain ⟨k, qs, rfl, hk, HSr, HN, HP⟩ := hrel
        by_cases hlt : (k : Int) < r8
        · go_wp2_with fail
          refine (pullE_any g A2 c2 zs2 _ wr HSr.out.ch (by omega)).mono ?_
          rintro e w9 ⟨i9, rfl, hi9, hi9', hC9, hg9⟩
          have hi : 0 ≤ i9 ∧ i9 < hs.length := by omega
          have HS9 := Lib.hid (HSr.out.pull hg9 hC9)
          clear hC9 hg9 HSr hi9 hi9'
          go_wp2_with fail
          refine (pullE_any g A2 c2 zs2 _ w9 HS9.out.ch (by omega)).mono ?_
          rintro e w10 ⟨j9, rfl, hj9, hj9', hC10, hg10⟩
          have hj : 0 ≤ j9 ∧ j9 < hs.length := by omega
          have HS10 := Lib.hid (HS9.out.pull hg10 hC10)
          clear hC10 hg10 HS9 hj9 hj9'
          obtain ⟨i, rfl⟩ := Int.eq_ofNat_of_zero_le hi.1
          obtain ⟨j, rfl⟩ := Int.eq_ofNat_of_zero_le hj.1
          obtain ⟨hi0, hiz⟩ := hi
          obtain ⟨hj0, hjz⟩ := hj
          have hil : i < hs.length := by omega
          have hjl : j < hs.length := by omega
          have hql := HN.out.fit.1
          have il : i < qs.length := by omega
          have jl : j < qs.length := by omega
          have ci := HS10.out.lst.at_ il
          have cj := HS10.out.lst.at_ jl
          have fi := HS10.out.lst.free i
          have fj := HS10.out.lst.free j
          have ll := HS10.out.lst.lt
          have x1 := HS10.out.x1
          obtain ⟨bA, oA, hAe, hbA, _, e2, _⟩ := HS10.out.rA.trip hil
          subst hAe
          obtain ⟨_, _, e3⟩ := HS10.out.rA.trip' hjl
          have ei : qs.getD i 0 = qs[i] := by simp [List.getD_eq_getElem?_getD, List.getElem?_eq_getElem il]
          have ej : qs.getD j 0 = qs[j] := by simp [List.getD_eq_getElem?_getD, List.getElem?_eq_getElem jl]
          have eL : hL hs i = hs[i].2.1 := by unfold hL; simp [List.getD_eq_getElem?_getD, List.getElem?_eq_getElem hil]
          have eM : hM hs j = hs[j].2.2 := by unfold hM; simp [List.getD_eq_getElem?_getD, List.getElem?_eq_getElem hjl]
          obtain ⟨u1, u2⟩ := fitsN_bd HO.out HN.out.fit qs[i] (List.getElem_mem _)
          obtain ⟨u3, u4⟩ := fitsN_bd HO.out HN.out.fit qs[j] (List.getElem_mem _)
          have HMV : Hid (i ≠ j → hs[i].2.1 < qs[i] → qs[j] < hs[j].2.2 → Near hs p B ((qs.set i (qs[i] - 1)).set j (qs[j] + 1)) (k + 1) ∧ phiS (slotsB B) hs ((qs.set i (qs[i] - 1)).set j (qs[j] + 1)) ≤ phiS (slotsB B) hs B + (k + 1) * ls) := by
            show _ → _
            intro n1 n2 n3
            have h := near_any hBN.out HN.out hjl hil (fun e => n1 e.symm) (by rw [ej, eM]; exact n3) (by rw [ei, eL]; exact n2)
            have em : move qs j i = (qs.set i (qs[i] - 1)).set j (qs[j] + 1) := by
              unfold move; rw [ei, ej, List.set_comm _ _ (fun e => n1 e.symm)]
            rw [em, HSl.out] at h
            refine ⟨h.1, ?_⟩
            have h2 := h.2
            have h3 := HP.out
            have e : (k + 1) * ls = k * ls + ls := by rw [Nat.add_mul, Nat.one_mul]
            omega
          have HNW : Hid (Near hs p B qs (k + 1) ∧ phiS (slotsB B) hs qs ≤ phiS (slotsB B) hs B + (k + 1) * ls) := by
            refine ⟨⟨HN.out.fit, HN.out.sum, Nat.le_succ_of_le HN.out.near⟩, ?_⟩
            have h3 := HP.out
            have e : (k + 1) * ls = k * ls + ls := by rw [Nat.add_mul, Nat.one_mul]
            omega
          clear ei ej eL eM
          have il' : i < (qs.set i (qs[i] - 1)).length := by rw [List.length_set]; exact il
          have jl' : ∀ v, j < (qs.set i v).length := fun v => by rw [List.length_set]; exact jl
          have HJ := Lib.hid jl'
          clear jl' il'
          generalize hqi : qs[i] = qi at *
          generalize hqj : qs[j] = qj at *
          generalize hs[i].2.1 = li at *
          generalize hs[j].2.2 = mj at *
          clear hqi hqj
          by_cases hij : i = j
          · have d0 : ((i : Int) != (j : Int)) = false := by rw [hij]; simp
            have HIJ := Lib.hid hij
            clear hij
            go_wp2_with fail
            go_quiet (fail)
            go_wp2_with fail
            go_roundw
            case rel => exact ⟨k + 1, qs, by go_num, by omega, HS10.out.drewN _, HNW.out.1, HNW.out.2⟩
            case measure => simp [intOf]; omega
          · have d0 : ((i : Int) != (j : Int)) = true := by rw [bne_iff_ne]; omega
            have d00 : ¬ i = j := hij
            have d01 : ¬ j = i := fun h => hij h.symm
            clear hij
            by_cases n2 : li < qi
            · by_cases n3 : qj < mj
              · obtain ⟨hn1, hn2⟩ := HMV.out d00 n2 n3
                have HN1 := Lib.hid hn1
                have HN2 := Lib.hid hn2
                clear hn1 hn2
                go_wp2_with fail
                go_quiet (fail)
                go_wp2_with fail
                have t1 : IntKind.i64.wrap (qi - 1) = qi - 1 := IntWalk.i64_in _ (by omega)
                have t2 : IntKind.i64.wrap (qj + 1) = qj + 1 := IntWalk.i64_in _ (by omega)
                go_region
                clear t1 t2
                all_goals go_wp2_with fail
                go_roundw
                case rel => exact ⟨k + 1, _, by go_num, by omega, ((HS10.out.drewN _).put il _).put (HJ.out _) _, HN1, HN2⟩
                case measure => simp [intOf]; omega
              · have n3' : decide (qj < mj) = false := decide_eq_false n3
                go_wp2_with fail
                go_quiet (fail)
                go_wp2_with fail
                go_roundw
                case rel => exact ⟨k + 1, qs, by go_num, by omega, HS10.out.drewN _, HNW.out.1, HNW.out.2⟩
                case measure => simp [intOf]; omega
            · have n2' : decide (li < qi) = false := decide_eq_false n2
              go_wp2_with fail
              go_quiet (fail)
              go_wp2_with fail
              go_roundw
              case rel => exact ⟨k + 1, qs, by go_num, by omega, HS10.out.drewN _, HNW.out.1, HNW.out.2⟩
              case measure => simp [intOf]; omega
        · have hkz2 : ¬ (k : Int) < r8 := hlt
          have HN8 : Hid (Near hs p B qs 8) := ⟨HN.out.fit, HN.out.sum, Nat.le_trans HN.out.near (by omega)⟩
          have HP8 : Hid (phiS (slotsB B) hs qs + 0 ≤ phiS (slotsB B) hs B + 864) := by
            have h := HP.out
            have e : k * ls ≤ 8 * 108 := Nat.mul_le_mul (by omega) hlS
            show _ ≤ _
            omega
          clear HN HP HSl
          go_wp2_with fail
          clear hkz2 hlt hk
          go_loopw [147] (fun iv wr => ∃ (r : Nat) (qs : List Int), iv = .int .i64 r ∧ r ≤ 2000 ∧ Hid (BS w wr b5 g bm A cA p hs A2 c2 zs2 Bb cB B qs) ∧ Hid (Near hs p B qs 8) ∧ Hid (phiS (slotsB B) hs qs + r ≤ phiS (slotsB B) hs B + 864)) (fun iv _ => 2000 - (intOf iv).toNat)
          case atStart => exact ⟨0, qs, rfl, Nat.zero_le _, HSr, HN8, HP8⟩
          case round =>
            clear HSr HN8 HP8
            obtain ⟨r, qs, rfl, hr, HS, HN, HP⟩ := hrel
            have hr2 : r < 2000 := by
              have h := near_low hBN.out _ qs (Nat.le_refl _) HN.out
              have := HP.out
              omega
            have hrz : (r : Int) < 2000 := by omega
            have x0 := HS.out.x0
            have x1 := HS.out.x1
            have hql := HN.out.fit.1
            have hlt7 := HS.out.lst.lt
            have o1 := HS.out.o1
            have o2 := HS.out.o2
            go_wp2_with fail
            refine (outbidsB_any A cA p hs (some ⟨bm, 0, none⟩) cm qs wr (HS.out.rA.more (by omega)) (by omega) HS.out.lst.rd HCK.out HN.out.fit HN.out.sum).mono ?_
            rintro e w9 ⟨v9, rfl, hown9, hb9⟩
            obtain ⟨Bo, co, rfl, _, hRo⟩ := own_sliceI hown9
            have HS9 := Lib.hid (HS.out.below hb9)
            have hgw : g < wr.heap.size := by omega
            have hlst9 := HS9.out.lst
            clear x0 x1 hb9 hown9
            by_cases hnil : outRows hs qs hs.length = []
            · have hqB := near_still hBN.out HN.out (fun i k hi hk => outRows_nil hnil i k hi hk)
              rw [hnil]
              subst hqB
              clear hRo hnil
              go_wp2_with fail
              have HAl := alikeInt_any (some ⟨bm, 0, none⟩) Bb cm cB qs qs w9 hlst9.rd (HS9.out.rB.rd (by have := hlst9.lt; omega)) (by omega)
              rw [hql] at HAl
              refine HAl.mono ?_
              rintro e w10 ⟨rfl, hb10⟩
              rw [decide_eq_true rfl]
              have bl9 := HS9.out.bl
              have bl10 := bl9.trans (hb10.mono bl9.size)
              clear bl9 hb10 hlst9 HAl
              go_wp2_with fail
              refine (awake_any w10).mono ?_
              rintro e w11 ⟨rfl, hb11⟩
              go_wp2_with fail
              go_ret
              exact ⟨rfl, bl10.trans (hb11.mono bl10.size)⟩
            · have hlp : 0 < (outRows hs qs hs.length).length := List.length_pos_iff.2 hnil
              have HM : Hid (∀ x ∈ outRows hs qs hs.length, ∃ i k : Nat, i < hs.length ∧ k < hs.length ∧ outB hs qs i k = true ∧ x = ((i : Int), (k : Int))) := fun x hx => mem_outRows.1 hx
              have hll := outRows_len hs qs hs.length
              have hll2 : (outRows hs qs hs.length).length ≤ 36 := Nat.le_trans hll (Nat.mul_le_mul hn6 hn6)
              clear hnil hll
              generalize outRows hs qs hs.length = l at *
              have hlz : ((l.length : Int) == 0) = false := by rw [beq_eq_false_iff_ne]; omega
              have hln : ¬ l = [] := by rintro rfl; simp at hlp
              go_wp2_with fail
              refine (pullE_any g A2 c2 zs2 _ w9 HS9.out.ch (by omega)).mono ?_
              rintro e w10 ⟨i10, rfl, hi10, hi10', hC10, hg10⟩
              have hi : 0 ≤ i10 ∧ i10 < l.length := by omega
              obtain ⟨hi0, hi1⟩ := hi
              obtain ⟨n, rfl⟩ := Int.eq_ofNat_of_zero_le hi0
              have hnl : n < l.length := by omega
              have HS10 := Lib.hid (HS9.out.pull hg10 hC10)
              have hRo10 : RdI w10 wr.heap.size w9.heap.size Bo (pairs l) := hRo.keep fun b b1 b2 => hg10.block b b2 (by intro e; injection e; omega)
              have hzz := hg10.size
              obtain ⟨bo, oo, hBo, _, p1', p2'⟩ := (hRo10.rd hzz).pair hnl
              subst hBo
              obtain ⟨i, k, hik, hkk, hob, hx⟩ := HM.out l[n] (List.getElem_mem _)
              rw [hx] at p1' p2'
              have hbo : bo < w10.heap.size := by omega
              clear hC10 hg10 HS9 hi10 hi10' hRo hRo10 hlst9
              have HNO := Lib.hid (near_out hBN.out HN.out hik hkk hob)
              obtain ⟨hne, g1', g2', _⟩ := outB_of hob
              have il : i < qs.length := by omega
              have kl : k < qs.length := by omega
              have ei : qs.getD i 0 = qs[i] := by simp [List.getD_eq_getElem?_getD, List.getElem?_eq_getElem il]
              have ek : qs.getD k 0 = qs[k] := by simp [List.getD_eq_getElem?_getD, List.getElem?_eq_getElem kl]
              have em : move qs i k = (qs.set i (qs[i] + 1)).set k (qs[k] - 1) := by unfold move; rw [ei, ek]
              rw [em] at HNO
              obtain ⟨u1, u2⟩ := fitsN_bd HO.out HN.out.fit qs[i] (List.getElem_mem _)
              obtain ⟨u3, u4⟩ := fitsN_bd HO.out HN.out.fit qs[k] (List.getElem_mem _)
              have HS11 : Hid (BS w (w10.alloc (.cells #[.int .i64 i, .int .i64 k] 69)) b5 g bm A cA p hs A2 c2 zs2 Bb cB B qs) := HS10.out.below (below_new _ _)
              have ci := HS11.out.lst.at_ il
              have ck := HS11.out.lst.at_ kl
              have fi := HS11.out.lst.free i
              have fk := HS11.out.lst.free k
              have ll := HS11.out.lst.lt
              have hbl := HS10.out.lst.lt
              have ci2 := HS10.out.lst.at_ il
              have ck2 := HS10.out.lst.at_ kl
              have fi2 := HS10.out.lst.free i
              have fk2 := HS10.out.lst.free k
              have hbne : ¬ w10.heap.size = bm := by omega
              have hbne' : ¬ bm = w10.heap.size := by omega
              have kl' : ∀ v, k < (qs.set i v).length := fun v => by rw [List.length_set]; exact kl
              have HK := Lib.hid kl'
              have hnez : ¬ (i : Int) = (k : Int) := by omega
              have hnezb : ((i : Int) == (k : Int)) = false := by rw [beq_eq_false_iff_ne]; exact hnez
              have hiz : (i : Int) < hs.length := by omega
              have hkz : (k : Int) < hs.length := by omega
              have i0z : (0 : Int) ≤ (i : Int) := by omega
              have k0z : (0 : Int) ≤ (k : Int) := by omega
              have dik : ¬ i = k := hne
              have dki : ¬ k = i := fun h => hne h.symm
              clear em ei ek hob g1' g2' kl' hx HM hne
              go_wp2_with fail
              have t1 : IntKind.i64.wrap (qs[i] + 1) = qs[i] + 1 := IntWalk.i64_in _ (by omega)
              have t2 : IntKind.i64.wrap (qs[k] - 1) = qs[k] - 1 := IntWalk.i64_in _ (by omega)
              go_region
              clear t1 t2
              all_goals go_wp2_with fail
              go_roundw
              case rel =>
                refine ⟨r + 1, _, by go_num, by omega, (((HS10.out.put il _).put (HK.out _) _).below (below_new _ _)).drewN 1, HNO.out.1, ?_⟩
                have h1 := HNO.out.2
                have h2 := HP.out
                show _ ≤ _
                omega
              case measure => simp [intOf]; omega
end Go.Proofs.Ytfojjecnmfkcfaa
