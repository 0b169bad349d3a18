/- ScaleShown returns true, whatever the numbers; what is passed in reads as it did. No condition. -/
import Derived.Test.YtcdjoegihmfanaaGreatG21
import Derived.Test.YtcdjoegihmfanaaGreatG8
import Derived.Test.YtcdjoegihmfanaaGreatG16
import Derived.Test.YtcdjoegihmfanaaGreatG17
import Derived.Deep.DeepCutAuto
namespace Go.Proofs.YtcdjoegihmfanaaGreat
open Go.RowKit
set_option linter.unusedVariables false
set_option maxRecDepth 100000 in
set_option maxHeartbeats 16000000 in
theorem scaleShown_walk (A1 : Option Addr) (c1 : Nat) (zs1 : List Int) (A2 : Option Addr) (c2 : Nat) (zs2 : List Int) (when_ : Int) (w : World) (h1 : Bytes w A1 zs1) (h2 : Bytes w A2 zs2) :
    Calls Tryz.prog 5 #[.slice A1 zs1.length c1, .slice A2 zs2.length c2, .int .i64 when_] w fun e w' => e = .returned (.bool true) ∧ Below w.heap.size w w' := by
  obtain ⟨i0, hi, hz0, hz1, hz2⟩ := info_parts infoDrift
  go_enter Tryz.func5, Tryz.ntmps5
  go_wp2_with fail
  refine (fill_any A1 c1 zs1 w h1).mono ?_
  rintro e w1 ⟨g1, rfl, hg1, hC1, hb1⟩
  go_wp2_with fail
  refine (made_any g1 A1 c1 zs1 7 0 3 w1 ⟨_, _, hC1⟩ (by omega) (by omega) (by omega)).mono ?_
  rintro e w2 ⟨e0, e1, D0, D1, db, ps, vp, ts, vt, ns, vn, rfl, hMP, hMT, hd0, hd1, hpl, htl, hM⟩
  have hps : ps.length ≤ 1000 := by omega
  have hts : ts.length ≤ 1000 := by omega
  obtain ⟨AP, cp, AT, ct, rfl, rfl, hbk⟩ := made_book hM hps hts
  have HBK := fun y g2 h1 h2 h3 h4 => Lib.hid (hbk e0 e1 26 w y g2 h1 h2 h3 h4)
  have hb2 : Below w.heap.size w w2 := hb1.grown hM.gr hb1.size (fun k hk => by injection hk; omega)
  have HOK : Hid (BkOk e0 e1 ps ts) := Lib.hid (hMP.ok (valB_bd hd0 hd1) (by omega) (by omega) hMT.ok)
  have HFT : Hid (fitsD e0 e1 ps 0 D0.f D0.cs ∧ fitsD e0 e1 ps 1 D1.f D1.cs) := Lib.hid (hMP.fits hd0 hd1)
  have HD0 := Lib.hid hd0
  have HD1 := Lib.hid hd1
  have HB2 := Lib.hid hb2
  have h22 := h2.next hb2
  clear hbk hM hMP hMT hd0 hd1 hb2 hC1 hg1 hb1 h1 h2 hpl htl hps hts
  unfold bkV
  go_wp2_with fail
  have hbn := below_new w2 (.cells #[.int .i64 e0, .int .i64 e1, .slice AP ps.length cp, .slice AT ts.length ct] 26)
  refine (fill_any A2 c2 zs2 _ (h22.next hbn)).mono ?_
  rintro e w3 ⟨g2, rfl, hg2, hC2, hb3⟩
  have hsz : (w2.alloc (.cells #[.int .i64 e0, .int .i64 e1, .slice AP ps.length cp, .slice AT ts.length ct] 26)).heap.size = w2.heap.size + 1 := by simp
  have HI : Hid (LwI w w3 g2 w2.heap.size e0 e1 AP cp ps AT ct ts w1.heap.size db D0 D1) := (HBK w3 g2 HB2.out (by rw [hsz] at hb3; exact hb3) (by rw [hsz] at hg2; exact hg2) (Nat.le_of_lt hC2.lt))
  have HC : Hid (ChE w3 g2 A2 c2 zs2) := Lib.hid ⟨_, _, hC2⟩
  clear HBK HB2 h22 hbn hsz hg2 hC2 hb3
  generalize w2.heap.size = bb at HI ⊢
  generalize w1.heap.size = lw at HI ⊢
  go_wp2_with fail
  refine (wrap_any when_ 120 w3 (by omega)).mono ?_
  rintro e w4 ⟨m, rfl, hm0, hm1, rfl⟩
  go_wp2_with fail
  go_loopw [38] (fun iv wr => ∃ n : Nat, n ≤ 2 ∧ iv = .int .i64 (n : Nat) ∧ Hid (LwI w wr g2 bb e0 e1 AP cp ps AT ct ts lw db D0 D1) ∧ Hid (ChE wr g2 A2 c2 zs2)) (fun i _ => 2 - (intOf i).toNat)
  case atStart => exact ⟨0, by omega, rfl, HI, HC⟩
  case round =>
    clear HI HC
    obtain ⟨n, hn2, rfl, HI, HC⟩ := hrel
    by_cases hn : n < 2
    · have hni : (n : Int) < 2 := by omega
      have hni0 : (0 : Int) ≤ (n : Int) := by omega
      have hnn : (n : Int) = 0 ∨ (n : Int) = 1 := by omega
      obtain ⟨D, HDK⟩ : ∃ D, Hid (pickD D0 D1 n = D) := ⟨_, Lib.hid rfl⟩
      have HFD : Hid (fitsD e0 e1 ps (n : Nat) D.f D.cs) := Lib.hid (by
        rw [← HDK.out]
        unfold pickD
        by_cases c : n = 0
        · subst c; exact HFT.out.1
        · have : n = 1 := by omega
          subst this; exact HFT.out.2)
      have HDM : Hid (MdD 3 D.f D.cs) := Lib.hid (by rw [← HDK.out]; unfold pickD; split; exact HD0.out; exact HD1.out)
      obtain ⟨x0, x1, x2⟩ := HI.out.dr.pick hn HDK.out
      have ldb := Nat.lt_of_lt_of_le HI.out.dr.dH HI.out.dr.hH
      obtain ⟨hgr, few0, hfew1, _⟩ := gr_few HOK.out hnn HFD.out
      obtain ⟨few, HFW⟩ : ∃ few, Hid (fewE e0 e1 ps ts (n : Nat) = few) := ⟨_, Lib.hid rfl⟩
      rw [HFW.out] at few0 hfew1
      have HGR := Lib.hid hgr
      have HFW1 := Lib.hid hfew1
      have k0 := HI.out.k.cells 0 _ rfl
      have k1 := HI.out.k.cells 1 _ rfl
      have k2 := HI.out.k.cells 2 _ rfl
      have k3 := HI.out.k.cells 3 _ rfl
      have kl := HI.out.bl
      have hfw := Fewest_any e0 e1 AP AT cp ct ps ts (n : Nat) _ ((HI.out.alloc (.cells #[.int .i64 D.f, .slice D.A D.cs.length D.q] 61)).ba)
      rw [HFW.out, HGR.out] at hfw
      unfold bkV at hfw
      have HFC := Lib.hid hfw
      have HI1 := Lib.hid (HI.out.alloc (.cells #[.int .i64 D.f, .slice D.A D.cs.length D.q] 61))
      have HB13 := Lib.hid (Blk.new wr [.int .i64 D.f, .slice D.A D.cs.length D.q] 61)
      clear hgr hfew1 hfw x2
      go_wp2_with fail
      refine HFC.out.mono ?_
      rintro e w5 ⟨rfl, hb5⟩
      have HI5 := Lib.hid (HI1.out.below hb5)
      have HC5 := Lib.hid ((HC.out.below (below_new wr (.cells #[.int .i64 D.f, .slice D.A D.cs.length D.q] 61))).below hb5)
      have HB5 := Lib.hid (HB13.out.below hb5)
      have d0 := HB5.out.cells 0 _ rfl
      have d1 := HB5.out.cells 1 _ rfl
      have dl := HB5.out.lt
      clear HI1 HC HB13 HFC hb5 HI k0 k1 k2 k3 kl x0 x1 ldb
      go_wp2_with fail
      have HDL : Hid (DlI (w5.alloc (.cells #[.int .i64 D.f, .slice D.A D.cs.length D.q] 61)) g2 [D] (.slice (some ⟨w5.heap.size, 0, none⟩) 1 1)) := Lib.hid (DlI.one HC5.out.lt (l := 0) ((HI5.out.alloc _).pickR HDK.out) HDM.out.ck)
      have HI6 := Lib.hid (HI5.out.alloc (.cells #[.int .i64 D.f, .slice D.A D.cs.length D.q] 61))
      have HC6 := Lib.hid (HC5.out.below (below_new w5 (.cells #[.int .i64 D.f, .slice D.A D.cs.length D.q] 61)))
      clear HI5 HC5 HB5 d0 d1 dl
      generalize World.alloc w5 _ = W6 at HDL HI6 HC6 ⊢
      generalize wr.heap.size = b13
      go_loopw [16, 53] (fun lv jv wx => ∃ (j : Nat) (ds : List DrM) (v : Value), j ≤ 4 ∧ jv = .int .i64 (j : Nat) ∧ lv = v ∧ ds.length = j + 1 ∧ Hid (LwI w wx g2 bb e0 e1 AP cp ps AT ct ts lw db D0 D1) ∧ Hid (ChE wx g2 A2 c2 zs2) ∧ Hid (DlI wx g2 ds v)) (fun _ j _ => 4 - (intOf j).toNat)
      case atStart => exact ⟨0, [D], _, by omega, rfl, rfl, rfl, HI6, HC6, HDL⟩
      case round =>
        clear HDL HI6 HC6 W6
        obtain ⟨j, ds, lv, hj4, rfl, hlv, hdl, HI, HC, HDL⟩ := hrel
        obtain ⟨AL, cL, rfl, _, _⟩ := own_slice HDL.out.own
        subst hlv
        by_cases hj : j < 4
        · have hji : (j : Int) < 4 := by omega
          have HDSL := Lib.hid hdl
          clear hdl
          go_wp2_with fail
          refine (madeDrift_any g2 A2 c2 zs2 3 _ HC.out (by omega)).mono ?_
          rintro e w7 ⟨f, cs, v, rfl, hdm, how, hC7, hg7⟩
          obtain ⟨AD, qd, rfl, _, rI⟩ := own_sliceI how
          have HI7 := Lib.hid (HI.out.pull hg7)
          have HD7 := Lib.hid (HDL.out.pull hg7)
          have HX7 : Hid (RdX w7 g2 (Value.slice AL ds.length cL).ownBlock AD (pairs cs)) := Lib.hid (RdX.new rI HC.out.lt fun b e => (HDL.out.own.lt b e).2)
          have HC7 := Lib.hid hC7
          have HDM7 := Lib.hid hdm.ck
          have hds := HDSL.out
          clear how rI hg7 hC7 hdm HI HDL HC
          have HA7 := Lib.hid (HD7.out.alloc (.cells #[.int .i64 f, .slice AD cs.length qd] 61))
          have HXA := Lib.hid (HX7.out.below (below_new w7 (.cells #[.int .i64 f, .slice AD cs.length qd] 61)))
          have HCA := Lib.hid (HC7.out.below (below_new w7 (.cells #[.int .i64 f, .slice AD cs.length qd] 61)))
          have hgl := HC7.out.lt
          have HIA := Lib.hid (HI7.out.alloc (.cells #[.int .i64 f, .slice AD cs.length qd] 61))
          unfold drV
          have hdl4 : ds.length ≤ 4 := by omega
          clear hds
          go_wp2_with (at_builtin; refine wpList_append_own_at _ rfl _ _ 49 rfl (g2 + 1) 61 i0 _ 2 32 Tryz.underlying49 hi hz0 hz1 hz2 rfl (by decide) _ _ _ rfl HA7.out.own ⟨w7.heap.size, 0, none⟩ 1 1 [.int .i64 f, .slice AD cs.length qd] rfl rfl (news_new _ _ _ rfl) (by simp [Value.oneCell']) (by simp only [maxLen]; omega) (by omega) (by simp; omega) ?_; intro v1 w8 hown1 hgrow1 _ hat1; have M := Lib.hid (HA7.out.app (D := ⟨f, AD, qd, cs⟩) hown1 hgrow1 hat1 HXA.out HDM7.out); have MI := Lib.hid (HIA.out.row hgrow1 fun r e => by have := (HA7.out.own.lt r e).1; omega); have MC := Lib.hid (HCA.out.keep hgrow1.size fun k hk => hgrow1.block k (by have := HCA.out.lt; omega) (by intro e; have := (HA7.out.own.lt k e.symm).1; omega)); obtain ⟨B1, cc1, rfl, _, _⟩ := own_slice hown1; clear hown1 hgrow1 hat1)
          go_roundw
          case rel => exact ⟨j + 1, ds ++ [⟨f, AD, qd, cs⟩], _, by omega, by go_num, rfl, by rw [List.length_append, HDSL.out]; simp, MI, MC, M⟩
          case measure => simp [intOf]; omega
        · have hji : ¬ (j : Int) < 4 := by omega
          have hj5 : ds.length = 5 := by omega
          have HDS5 := Lib.hid hj5
          obtain ⟨lb0, lc0, hlf, _, _⟩ := HDL.out.own.form (by omega)
          injection hlf with hlf1 hlf2 hlf3
          subst hlf1 hlf3
          rw [HDS5.out] at HDL ⊢
          clear hj5 hdl
          go_wp2_with fail
          obtain ⟨WL, hWL⟩ : ∃ WL, WL = wr := ⟨_, rfl⟩
          rw [← hWL] at HI HC HDL ⊢
          obtain ⟨b17, HB17E⟩ : ∃ b, Hid (b = WL.heap.size) := ⟨_, Lib.hid rfl⟩
          rw [← HB17E.out]
          have hgb17 : g2 ≤ b17 := by rw [HB17E.out]; exact HI.out.gs
          have hBN : Below b17 WL (WL.alloc (.cells #[.int .i64 0, .int .i64 0] 36)) := by rw [HB17E.out]; exact below_new _ _
          have hKN : Blk (WL.alloc (.cells #[.int .i64 0, .int .i64 0] 36)) b17 [.int .i64 0, .int .i64 0] := by rw [HB17E.out]; exact Blk.new WL [.int .i64 0, .int .i64 0] _
          have hlb : lb0 < b17 := by rw [HB17E.out]; exact (HDL.out.own.lt lb0 rfl).2
          have HBN := Lib.hid hBN
          have HKN := Lib.hid hKN
          clear hBN hKN hWL
          generalize World.alloc WL _ = W7 at HBN HKN ⊢
          go_loopw [62] (fun kv wx => ∃ (k : Nat) (la lb : Int), k ≤ 5 ∧ kv = .int .i64 (k : Nat) ∧ Hid (Below b17 WL wx) ∧ Hid (Blk wx b17 [.int .i64 la, .int .i64 lb]) ∧ Hid (∀ c : Nat, c + 1 = k → few ≤ (c : Int) → (la, lb) = atE e0 e1 ps ts (n : Nat) m (c : Nat))) (fun kv _ => 5 - (intOf kv).toNat)
          case atStart => exact ⟨0, 0, 0, by omega, rfl, HBN, HKN, Lib.hid (fun c hc => by omega)⟩
          case round =>
            clear HBN HKN W7
            obtain ⟨k, la, lb, hk5, rfl, HBW, HK17, HLA⟩ := hrel
            by_cases hk : k < 5
            · have hki : (k : Int) < 5 := by omega
              have HIr := Lib.hid (HI.out.belowB hgb17 HBW.out)
              have k0 := HIr.out.k.cells 0 _ rfl
              have k1 := HIr.out.k.cells 1 _ rfl
              have k2 := HIr.out.k.cells 2 _ rfl
              have k3 := HIr.out.k.cells 3 _ rfl
              have kl := HIr.out.bl
              have hat := At_any e0 e1 AP AT cp ct ps ts (n : Nat) m (k : Nat) wr HIr.out.ba
              by_cases hfk : (k : Int) < few
              · rw [at_no HOK.out hnn (by omega) HGR.out (by omega) (by rw [HFW.out]; exact hfk)] at hat
                generalize atE e0 e1 ps ts (n : Nat) m (k : Nat) = S at hat
                obtain ⟨sl, sh⟩ := S
                unfold spE bkV at hat
                have HAT := Lib.hid hat
                clear hat
                go_wp2_with fail
                refine HAT.out.mono ?_
                rintro e w9 ⟨rfl, hb9⟩
                have HB9 := Lib.hid (HBW.out.trans (hb9.mono (Nat.le_of_lt HK17.out.lt)))
                have HK9 := Lib.hid (HK17.out.below hb9)
                clear HAT hb9 k0 k1 k2 k3 kl HIr
                go_wp2_with fail
                go_roundw
                case rel => exact ⟨k + 1, la, lb, by omega, by go_num, Lib.hid (HB9.out.alloc (Nat.le_of_lt HK9.out.lt) _), Lib.hid (HK9.out.alloc _), Lib.hid (fun c hc hf => by omega)⟩
                case measure => simp [intOf]; omega
              · have hAO := at_yes (m := m) (c := k) HOK.out hnn (by omega) HGR.out (by omega) (by rw [HFW.out]; omega)
                rw [hAO.code] at hat
                have HAO := Lib.hid hAO
                have hmr : few < (k : Int) → (atE e0 e1 ps ts (n : Nat) m (k : Nat)).1 ≤ la ∧ lb ≤ (atE e0 e1 ps ts (n : Nat) m (k : Nat)).2 := fun h => by
                  obtain ⟨c, hc⟩ : ∃ c, c + 1 = k := ⟨k - 1, by omega⟩
                  have e := HLA.out c hc (by omega)
                  have hc' := at_yes (m := m) (c := c) HOK.out hnn (by omega) HGR.out (by omega) (by rw [HFW.out]; omega)
                  have := hc'.more HAO.out (by omega)
                  rw [← e] at this
                  exact this
                have hl1 := hAO.le
                have hl2 := hAO.lo
                have hl3 := hAO.hi
                obtain ⟨S, HS⟩ : ∃ S, Hid (atE e0 e1 ps ts (n : Nat) m (k : Nat) = S) := ⟨_, Lib.hid rfl⟩
                rw [HS.out] at hat hmr hl1 hl2 hl3
                obtain ⟨lo, hi_⟩ := S
                simp only at hmr hl1 hl2 hl3
                unfold spE bkV at hat
                have HAT := Lib.hid hat
                have HMR := Lib.hid hmr
                have y0 := HK17.out.cells 0 _ rfl
                have y1 := HK17.out.cells 1 _ rfl
                have yl := HK17.out.lt
                clear hat hAO hmr y0 y1 yl
                go_wp2_with fail
                refine HAT.out.mono ?_
                rintro e w9 ⟨rfl, hb9⟩
                have HB9 := Lib.hid (HBW.out.trans (hb9.mono (Nat.le_of_lt HK17.out.lt)))
                have HK9 := Lib.hid (HK17.out.below hb9)
                clear HAT hb9 k0 k1 k2 k3 kl HIr HBW HK17
                have y0 := HK9.out.cells 0 _ rfl
                have y1 := HK9.out.cells 1 _ rfl
                have yf0 := HK9.out.free 0
                have yf1 := HK9.out.free 1
                have yl := HK9.out.lt
                have c1' : decide (hi_ < lo) = false := decide_eq_false (by omega)
                have c2' : decide (lo < -50) = false := decide_eq_false (by omega)
                have c3' : decide (50 < hi_) = false := decide_eq_false (by omega)
                by_cases hmf : few < (k : Int)
                · have c4' : decide (few < (k : Int)) = true := decide_eq_true hmf
                  have c5' : decide (la < lo) = false := decide_eq_false (by have := (HMR.out hmf).1; omega)
                  have c6' : decide (hi_ < lb) = false := decide_eq_false (by have := (HMR.out hmf).2; omega)
                  go_wp2_with fail
                  obtain ⟨W9, hW9⟩ : ∃ x, x = (w9.setCell ⟨b17, 0, none⟩ (.int .i64 lo)).setCell ⟨b17, 1, none⟩ (.int .i64 hi_) := ⟨_, rfl⟩
                  rw [← hW9]
                  have z9 : W9.heap.size = w9.heap.size := by rw [hW9]; simp [World.setCell]
                  have hK9 : Blk W9 b17 [.int .i64 lo, .int .i64 hi_] := by rw [hW9]; exact (HK9.out.set (j := 0) (by simp) (.int .i64 lo)).set (j := 1) (by simp) (.int .i64 hi_)
                  have hB9 : Below b17 WL W9 := by rw [hW9]; exact (HB9.out.setCell (p := ⟨b17, 0, none⟩) (Nat.le_refl _) (.int .i64 lo)).setCell (p := ⟨b17, 1, none⟩) (Nat.le_refl _) (.int .i64 hi_)
                  have hK8 := hK9.alloc (.cells #[.int .i64 lo, .int .i64 hi_] 36)
                  have hB8 := hB9.alloc (Nat.le_of_lt hK9.lt) (.cells #[.int .i64 lo, .int .i64 hi_] 36)
                  have h19 := Blk.new W9 [.int .i64 lo, .int .i64 hi_] 36
                  change Blk (World.alloc W9 (.cells #[.int .i64 lo, .int .i64 hi_] 36)) _ _ at h19
                  rw [z9] at h19
                  generalize World.alloc W9 _ = W8 at hK8 h19 hB8 ⊢
                  generalize w9.heap.size = b19 at h19 ⊢
                  clear hW9 hK9 hB9 z9 W9
                  have HK8 : Hid (Blk W8 b17 [.int .i64 lo, .int .i64 hi_]) := Lib.hid hK8
                  have H19 : Hid (Blk W8 b19 [.int .i64 lo, .int .i64 hi_]) := Lib.hid h19
                  have HB8 := Lib.hid hB8
                  clear hK8 h19 hB8 y0 y1 yf0 yf1 yl c1' c2' c3' hl1 hl2 hl3
                  go_loopw [119] (fun iv wy => ∃ i : Nat, i ≤ 5 ∧ iv = .int .i64 (i : Nat) ∧ Hid (Below W8.heap.size W8 wy)) (fun iv _ => 5 - (intOf iv).toNat)
                  case atStart => exact ⟨0, by omega, rfl, Lib.hid (Below.refl _ _)⟩
                  case round =>
                    obtain ⟨i, hi5, rfl, HBY⟩ := hrel
                    have HBZ : Hid (Below b17 WL wr) := Lib.hid (HB8.out.trans (HBY.out.mono (Nat.le_of_lt HK8.out.lt)))
                    have hbs : b17 < wr.heap.size := Nat.lt_of_lt_of_le HK8.out.lt HBY.out.size
                    by_cases hi : i < 5
                    · have hii : (i : Int) < 5 := by omega
                      have hii0 : (0 : Int) ≤ (i : Int) := by omega
                      obtain ⟨q0, q1, qr, qk, _⟩ := HDL.out.at_ (k := i) (by rw [HDS5.out]; exact hi)
                      generalize ds[i]'(by rw [HDS5.out]; exact hi) = E at *
                      have z0 := HBZ.out.at_ hlb q0
                      have z1 := HBZ.out.at_ hlb q1
                      have hlbs : lb0 < wr.heap.size := by omega
                      have HQK := Lib.hid qk
                      have HQR : Hid (Rd wr wr.heap.size E.A (pairs E.cs)) := Lib.hid ((qr.belowM HBZ.out (by rw [HB17E.out]; exact Nat.le_refl _)).more HBZ.out.size)
                      have HIz := Lib.hid (HI.out.belowB hgb17 HBZ.out)
                      have k0 := HIz.out.k.cells 0 _ rfl
                      have k1 := HIz.out.k.cells 1 _ rfl
                      have k2 := HIz.out.k.cells 2 _ rfl
                      have k3 := HIz.out.k.cells 3 _ rfl
                      have kl := HIz.out.bl
                      have hel := ckD_len qk
                      have hft := Fits_any e0 e1 AP AT cp ct ps ts (n : Nat) E.f E.A E.q E.cs _ ((HIz.out.alloc (.cells #[.int .i64 E.f, .slice E.A E.cs.length E.q] 61)).ba) (HQR.out.alloc _) hel
                      rw [fit_mk HOK.out hnn qk] at hft
                      obtain ⟨fb, HFB⟩ : ∃ fb, Hid (fitE e0 e1 ps ts (n : Nat) E.f E.cs = fb) := ⟨_, Lib.hid rfl⟩
                      rw [HFB.out] at hft
                      unfold bkV drV at hft
                      have HFT2 := Lib.hid hft
                      have hB22 := Lib.hid (Blk.new wr [.int .i64 E.f, .slice E.A E.cs.length E.q] 61)
                      have hbn := below_new wr (.cells #[.int .i64 E.f, .slice E.A E.cs.length E.q] 61)
                      have HBN := Lib.hid hbn
                      have h19s : b19 < wr.heap.size := Nat.lt_of_lt_of_le H19.out.lt HBY.out.size
                      clear hft q0 q1 qr qk hbn
                      go_wp2_with fail
                      refine HFT2.out.mono ?_
                      rintro e w10 ⟨rfl, hb10⟩
                      have HB22 := Lib.hid (hB22.out.below hb10)
                      have HBT : Hid (Below wr.heap.size wr w10) := Lib.hid (HBN.out.trans (hb10.mono HBN.out.size))
                      have HR22 : Hid (Rd w10 w10.heap.size E.A (pairs E.cs)) := Lib.hid (HQR.out.next HBT.out)
                      have H19t := Lib.hid ((H19.out.below HBY.out).below HBT.out)
                      have HBW10 : Hid (Below W8.heap.size W8 w10) := Lib.hid (HBY.out.trans (HBT.out.mono HBY.out.size))
                      clear HFT2 hB22 hb10 HBN HBT z0 z1 k0 k1 k2 k3 kl HQR HIz
                      generalize wr.heap.size = b22 at HB22 ⊢
                      cases fb
                      · go_wp2_with fail
                        go_quiet (fail)
                        go_wp2_with fail
                        go_roundw
                        case rel => exact ⟨i + 1, by omega, by go_num, Lib.hid (below_drewN HBW10.out _)⟩
                        case measure => simp [intOf]; omega
                      · by_cases hle : E.cs.length ≤ k
                        · have HWT := HAO.out.within HOK.out hnn HQK.out HFB.out hle
                          rw [HS.out] at HWT
                          obtain ⟨V, HV⟩ : ∃ V, Hid (valueD E.f E.cs m = V) := ⟨_, Lib.hid rfl⟩
                          rw [HV.out] at HWT
                          have HWI := fun (x : World) => (within_any V lo hi_ x)
                          rw [HWT] at HWI
                          unfold spV at HWI
                          have HWI := fun (x : World) => Lib.hid (HWI x)
                          have HLT := fun (x : World) (hb : Below w10.heap.size w10 x) => Lib.hid (lat_any E.f E.A E.q E.cs m x (HR22.out.next hb) hel)
                          rw [HV.out] at HLT
                          unfold drV at HLT
                          have d0 := HB22.out.cells 0 _ rfl
                          have d1 := HB22.out.cells 1 _ rfl
                          have l22 := HB22.out.lt
                          have u0 := H19t.out.cells 0 _ rfl
                          have u1 := H19t.out.cells 1 _ rfl
                          have l19 := H19t.out.lt
                          have hlk : (E.cs.length : Int) ≤ (k : Int) := by omega
                          clear HWT HQK HFB HV
                          go_wp2_with fail
                          refine wp_invT 20 (by kernel_rfl) (by kernel_rfl) (by kernel_rfl) (by decide) (FL [PEq (.int .i64 0), PEq (.bool false), PEq (.bool false), PEq (.bool true), PEq (.bool true), PEq (.pointer (some ⟨b22, 1, none⟩)), PEq (.slice E.A E.cs.length E.q), PEq (.int .i64 (E.cs.length : Nat)), PEq (.int .i64 (k : Nat)), PEq (.bool true), PEq (.bool true), PEq (.bool true), PEq (.agg #[.int .i64 E.f, .slice E.A E.cs.length E.q]), PEq (.int .i64 m), PEq (.int .i64 V), PEq (.agg #[.int .i64 lo, .int .i64 hi_]), PEq (.bool true), PEq (.bool false), PEq (.bool false), PEq (.bool false)])
                            (fun x => Below w10.heap.size w10 x) (fun x y => Below x.heap.size x y) (FL.keepB (by simp [stbB_eq])) (below_drew w10) ?_ ?_
                          · intro iq o hi' ho listed vals a w5 hdep hM hAt K hK
                            have HI := Lib.hid hM.inv
                            match iq, hi' with
                            | 0, _ =>
                              injection ho with ho
                              subst ho
                              rw [if_pos (wantedN rfl)]
                              obtain ⟨e24, e24'⟩ := hAt.slot 24 (by kernel_rfl) (by rfl)
                              go_simp
                              exact hK _ w5 (Below.refl _ _) HI.out rfl
                            | 1, _ =>
                              injection ho with ho
                              subst ho
                              rw [if_pos (wantedN rfl)]
                              have l0 := hdep ⟨0, .data⟩ (by simp) rfl
                              obtain ⟨x0, x0'⟩ := hAt.dep 0 (d := 130) (by omega) l0 (by rfl) (hM.fact 0 (by omega) l0)
                              go_simp
                              exact hK _ w5 (Below.refl _ _) HI.out rfl
                            | 2, _ =>
                              injection ho with ho
                              subst ho
                              rw [if_pos (wantedN rfl)]
                              have l1 := hdep ⟨1, .data⟩ (by simp) rfl
                              obtain ⟨x1, x1'⟩ := hAt.dep 1 (d := 131) (by omega) l1 (by rfl) (hM.fact 1 (by omega) l1)
                              go_simp
                              exact hK _ w5 (Below.refl _ _) HI.out rfl
                            | 3, _ =>
                              injection ho with ho
                              subst ho
                              have lg := hdep ⟨2, .guard⟩ (by simp) rfl
                              obtain ⟨xg, xg'⟩ := hAt.dep 2 (d := 132) (by omega) lg (by rfl) (hM.fact 2 (by omega) lg)
                              rw [if_pos (by rw [wantedG rfl (by rfl) xg]; decide)]
                              clear lg xg xg'
                              obtain ⟨e23, e23'⟩ := hAt.slot 23 (by kernel_rfl) (by rfl)
                              go_simp
                              exact hK _ w5 (Below.refl _ _) HI.out rfl
                            | 4, _ =>
                              injection ho with ho
                              subst ho
                              have lg := hdep ⟨2, .guard⟩ (by simp) rfl
                              obtain ⟨xg, xg'⟩ := hAt.dep 2 (d := 132) (by omega) lg (by rfl) (hM.fact 2 (by omega) lg)
                              rw [if_pos (by rw [wantedG rfl (by rfl) xg]; decide)]
                              clear lg xg xg'
                              have l3 := hdep ⟨3, .data⟩ (by simp) rfl
                              obtain ⟨x3, x3'⟩ := hAt.dep 3 (d := 133) (by omega) l3 (by rfl) (hM.fact 3 (by omega) l3)
                              go_simp
                              exact hK _ w5 (Below.refl _ _) HI.out rfl
                            | 5, _ =>
                              injection ho with ho
                              subst ho
                              have lg := hdep ⟨4, .guard⟩ (by simp) rfl
                              obtain ⟨xg, xg'⟩ := hAt.dep 4 (d := 134) (by omega) lg (by rfl) (hM.fact 4 (by omega) lg)
                              rw [if_pos (by rw [wantedG rfl (by rfl) xg]; decide)]
                              clear lg xg xg'
                              obtain ⟨e22, e22'⟩ := hAt.slot 22 (by kernel_rfl) (by rfl)
                              go_simp
                              exact hK _ w5 (Below.refl _ _) HI.out rfl
                            | 6, _ =>
                              injection ho with ho
                              subst ho
                              have lg := hdep ⟨4, .guard⟩ (by simp) rfl
                              obtain ⟨xg, xg'⟩ := hAt.dep 4 (d := 134) (by omega) lg (by rfl) (hM.fact 4 (by omega) lg)
                              rw [if_pos (by rw [wantedG rfl (by rfl) xg]; decide)]
                              clear lg xg xg'
                              have l5 := hdep ⟨5, .data⟩ (by simp) rfl
                              obtain ⟨x5, x5'⟩ := hAt.dep 5 (d := 135) (by omega) l5 (by rfl) (hM.fact 5 (by omega) l5)
                              have q0 := HI.out.at_ l22 d1
                              go_simp
                              exact hK _ w5 (Below.refl _ _) HI.out rfl
                            | 7, _ =>
                              injection ho with ho
                              subst ho
                              have lg := hdep ⟨4, .guard⟩ (by simp) rfl
                              obtain ⟨xg, xg'⟩ := hAt.dep 4 (d := 134) (by omega) lg (by rfl) (hM.fact 4 (by omega) lg)
                              rw [if_pos (by rw [wantedG rfl (by rfl) xg]; decide)]
                              clear lg xg xg'
                              have l6 := hdep ⟨6, .data⟩ (by simp) rfl
                              obtain ⟨x6, x6'⟩ := hAt.dep 6 (d := 136) (by omega) l6 (by rfl) (hM.fact 6 (by omega) l6)
                              go_simp
                              exact hK _ w5 (Below.refl _ _) HI.out rfl
                            | 8, _ =>
                              injection ho with ho
                              subst ho
                              have lg := hdep ⟨4, .guard⟩ (by simp) rfl
                              obtain ⟨xg, xg'⟩ := hAt.dep 4 (d := 134) (by omega) lg (by rfl) (hM.fact 4 (by omega) lg)
                              rw [if_pos (by rw [wantedG rfl (by rfl) xg]; decide)]
                              clear lg xg xg'
                              obtain ⟨e18, e18'⟩ := hAt.slot 18 (by kernel_rfl) (by rfl)
                              go_simp
                              exact hK _ w5 (Below.refl _ _) HI.out rfl
                            | 9, _ =>
                              injection ho with ho
                              subst ho
                              have lg := hdep ⟨4, .guard⟩ (by simp) rfl
                              obtain ⟨xg, xg'⟩ := hAt.dep 4 (d := 134) (by omega) lg (by rfl) (hM.fact 4 (by omega) lg)
                              rw [if_pos (by rw [wantedG rfl (by rfl) xg]; decide)]
                              clear lg xg xg'
                              have l7 := hdep ⟨7, .data⟩ (by simp) rfl
                              obtain ⟨x7, x7'⟩ := hAt.dep 7 (d := 137) (by omega) l7 (by rfl) (hM.fact 7 (by omega) l7)
                              have l8 := hdep ⟨8, .data⟩ (by simp) rfl
                              obtain ⟨x8, x8'⟩ := hAt.dep 8 (d := 138) (by omega) l8 (by rfl) (hM.fact 8 (by omega) l8)
                              go_simp
                              exact hK _ w5 (Below.refl _ _) HI.out rfl
                            | 10, _ =>
                              injection ho with ho
                              subst ho
                              have lg := hdep ⟨2, .guard⟩ (by simp) rfl
                              obtain ⟨xg, xg'⟩ := hAt.dep 2 (d := 132) (by omega) lg (by rfl) (hM.fact 2 (by omega) lg)
                              rw [if_pos (by rw [wantedG rfl (by rfl) xg]; decide)]
                              clear lg xg xg'
                              have l4 := hdep ⟨4, .data⟩ (by simp) rfl
                              obtain ⟨x4, x4'⟩ := hAt.dep 4 (d := 134) (by omega) l4 (by rfl) (hM.fact 4 (by omega) l4)
                              have l9 := hdep ⟨9, .data⟩ (by simp) rfl
                              obtain ⟨x9, x9'⟩ := hAt.dep 9 (d := 139) (by omega) l9 (by rfl) (hM.fact 9 (by omega) l9)
                              go_simp
                              exact hK _ w5 (Below.refl _ _) HI.out rfl
                            | 11, _ =>
                              injection ho with ho
                              subst ho
                              have lg := hdep ⟨2, .guard⟩ (by simp) rfl
                              obtain ⟨xg, xg'⟩ := hAt.dep 2 (d := 132) (by omega) lg (by rfl) (hM.fact 2 (by omega) lg)
                              rw [if_pos (by rw [wantedG rfl (by rfl) xg]; decide)]
                              clear lg xg xg'
                              have l10 := hdep ⟨10, .data⟩ (by simp) rfl
                              obtain ⟨x10, x10'⟩ := hAt.dep 10 (d := 140) (by omega) l10 (by rfl) (hM.fact 10 (by omega) l10)
                              go_simp
                              exact hK _ w5 (Below.refl _ _) HI.out rfl
                            | 12, _ =>
                              injection ho with ho
                              subst ho
                              have lg := hdep ⟨11, .guard⟩ (by simp) rfl
                              obtain ⟨xg, xg'⟩ := hAt.dep 11 (d := 141) (by omega) lg (by rfl) (hM.fact 11 (by omega) lg)
                              rw [if_pos (by rw [wantedG rfl (by rfl) xg]; decide)]
                              clear lg xg xg'
                              obtain ⟨e22, e22'⟩ := hAt.slot 22 (by kernel_rfl) (by rfl)
                              have q0 := HI.out.at_ l22 d0
                              have q1 := HI.out.at_ l22 d1
                              go_simp
                              exact hK _ w5 (Below.refl _ _) HI.out rfl
                            | 13, _ =>
                              injection ho with ho
                              subst ho
                              have lg := hdep ⟨11, .guard⟩ (by simp) rfl
                              obtain ⟨xg, xg'⟩ := hAt.dep 11 (d := 141) (by omega) lg (by rfl) (hM.fact 11 (by omega) lg)
                              rw [if_pos (by rw [wantedG rfl (by rfl) xg]; decide)]
                              clear lg xg xg'
                              obtain ⟨e11, e11'⟩ := hAt.slot 11 (by kernel_rfl) (by rfl)
                              go_simp
                              exact hK _ w5 (Below.refl _ _) HI.out rfl
                            | 14, _ =>
                              injection ho with ho
                              subst ho
                              have lg := hdep ⟨11, .guard⟩ (by simp) rfl
                              obtain ⟨xg, xg'⟩ := hAt.dep 11 (d := 141) (by omega) lg (by rfl) (hM.fact 11 (by omega) lg)
                              rw [if_pos (by rw [wantedG rfl (by rfl) xg]; decide)]
                              clear lg xg xg'
                              have l12 := hdep ⟨12, .data⟩ (by simp) rfl
                              obtain ⟨x12, x12'⟩ := hAt.dep 12 (d := 142) (by omega) l12 (by rfl) (hM.fact 12 (by omega) l12)
                              have l13 := hdep ⟨13, .data⟩ (by simp) rfl
                              obtain ⟨x13, x13'⟩ := hAt.dep 13 (d := 143) (by omega) l13 (by rfl) (hM.fact 13 (by omega) l13)
                              go_simp
                              refine ((HLT w5 HI.out).out).mono ?_
                              rintro e w6 ⟨rfl, hb6⟩
                              exact hK _ w6 hb6 (HI.out.trans (hb6.mono HI.out.size)) rfl
                            | 15, _ =>
                              injection ho with ho
                              subst ho
                              have lg := hdep ⟨11, .guard⟩ (by simp) rfl
                              obtain ⟨xg, xg'⟩ := hAt.dep 11 (d := 141) (by omega) lg (by rfl) (hM.fact 11 (by omega) lg)
                              rw [if_pos (by rw [wantedG rfl (by rfl) xg]; decide)]
                              clear lg xg xg'
                              obtain ⟨e19, e19'⟩ := hAt.slot 19 (by kernel_rfl) (by rfl)
                              have q0 := HI.out.at_ l19 u0
                              have q1 := HI.out.at_ l19 u1
                              go_simp
                              exact hK _ w5 (Below.refl _ _) HI.out rfl
                            | 16, _ =>
                              injection ho with ho
                              subst ho
                              have lg := hdep ⟨11, .guard⟩ (by simp) rfl
                              obtain ⟨xg, xg'⟩ := hAt.dep 11 (d := 141) (by omega) lg (by rfl) (hM.fact 11 (by omega) lg)
                              rw [if_pos (by rw [wantedG rfl (by rfl) xg]; decide)]
                              clear lg xg xg'
                              have l14 := hdep ⟨14, .data⟩ (by simp) rfl
                              obtain ⟨x14, x14'⟩ := hAt.dep 14 (d := 144) (by omega) l14 (by rfl) (hM.fact 14 (by omega) l14)
                              have l15 := hdep ⟨15, .data⟩ (by simp) rfl
                              obtain ⟨x15, x15'⟩ := hAt.dep 15 (d := 145) (by omega) l15 (by rfl) (hM.fact 15 (by omega) l15)
                              go_simp
                              refine ((HWI w5).out).mono ?_
                              rintro e w6 ⟨rfl, hb6⟩
                              exact hK _ w6 hb6 (HI.out.trans (hb6.mono HI.out.size)) rfl
                            | 17, _ =>
                              injection ho with ho
                              subst ho
                              have lg := hdep ⟨11, .guard⟩ (by simp) rfl
                              obtain ⟨xg, xg'⟩ := hAt.dep 11 (d := 141) (by omega) lg (by rfl) (hM.fact 11 (by omega) lg)
                              rw [if_pos (by rw [wantedG rfl (by rfl) xg]; decide)]
                              clear lg xg xg'
                              have l16 := hdep ⟨16, .data⟩ (by simp) rfl
                              obtain ⟨x16, x16'⟩ := hAt.dep 16 (d := 146) (by omega) l16 (by rfl) (hM.fact 16 (by omega) l16)
                              go_simp
                              exact hK _ w5 (Below.refl _ _) HI.out rfl
                            | 18, _ =>
                              injection ho with ho
                              subst ho
                              have lg := hdep ⟨2, .guard⟩ (by simp) rfl
                              obtain ⟨xg, xg'⟩ := hAt.dep 2 (d := 132) (by omega) lg (by rfl) (hM.fact 2 (by omega) lg)
                              rw [if_pos (by rw [wantedG rfl (by rfl) xg]; decide)]
                              clear lg xg xg'
                              have l11 := hdep ⟨11, .data⟩ (by simp) rfl
                              obtain ⟨x11, x11'⟩ := hAt.dep 11 (d := 141) (by omega) l11 (by rfl) (hM.fact 11 (by omega) l11)
                              have l17 := hdep ⟨17, .data⟩ (by simp) rfl
                              obtain ⟨x17, x17'⟩ := hAt.dep 17 (d := 147) (by omega) l17 (by rfl) (hM.fact 17 (by omega) l17)
                              go_simp
                              exact hK _ w5 (Below.refl _ _) HI.out rfl
                            | 19, _ =>
                              injection ho with ho
                              subst ho
                              rw [if_pos (wantedN rfl)]
                              have l2 := hdep ⟨2, .data⟩ (by simp) rfl
                              obtain ⟨x2, x2'⟩ := hAt.dep 2 (d := 132) (by omega) l2 (by rfl) (hM.fact 2 (by omega) l2)
                              have l18 := hdep ⟨18, .data⟩ (by simp) rfl
                              obtain ⟨x18, x18'⟩ := hAt.dep 18 (d := 148) (by omega) l18 (by rfl) (hM.fact 18 (by omega) l18)
                              go_simp
                              exact hK _ w5 (Below.refl _ _) HI.out rfl
                            | jq + 20, hq => exact absurd hq (by omega)
                          · intro vals w5 hM
                            have HI := Lib.hid hM.inv
                            have f0 : vals 0 = .int .i64 0 := hM.all (by decide) 0 (by omega)
                            have f1 : vals 1 = .bool false := hM.all (by decide) 1 (by omega)
                            have f2 : vals 2 = .bool false := hM.all (by decide) 2 (by omega)
                            have f3 : vals 3 = .bool true := hM.all (by decide) 3 (by omega)
                            have f4 : vals 4 = .bool true := hM.all (by decide) 4 (by omega)
                            have f5 : vals 5 = .pointer (some ⟨b22, 1, none⟩) := hM.all (by decide) 5 (by omega)
                            have f6 : vals 6 = .slice E.A E.cs.length E.q := hM.all (by decide) 6 (by omega)
                            have f7 : vals 7 = .int .i64 (E.cs.length : Nat) := hM.all (by decide) 7 (by omega)
                            have f8 : vals 8 = .int .i64 (k : Nat) := hM.all (by decide) 8 (by omega)
                            have f9 : vals 9 = .bool true := hM.all (by decide) 9 (by omega)
                            have f10 : vals 10 = .bool true := hM.all (by decide) 10 (by omega)
                            have f11 : vals 11 = .bool true := hM.all (by decide) 11 (by omega)
                            have f12 : vals 12 = .agg #[.int .i64 E.f, .slice E.A E.cs.length E.q] := hM.all (by decide) 12 (by omega)
                            have f13 : vals 13 = .int .i64 m := hM.all (by decide) 13 (by omega)
                            have f14 : vals 14 = .int .i64 V := hM.all (by decide) 14 (by omega)
                            have f15 : vals 15 = .agg #[.int .i64 lo, .int .i64 hi_] := hM.all (by decide) 15 (by omega)
                            have f16 : vals 16 = .bool true := hM.all (by decide) 16 (by omega)
                            have f17 : vals 17 = .bool false := hM.all (by decide) 17 (by omega)
                            have f18 : vals 18 = .bool false := hM.all (by decide) 18 (by omega)
                            have f19 : vals 19 = .bool false := hM.all (by decide) 19 (by omega)
                            clear hM
                            simp only [putAll, List.range, List.range.loop, List.foldl_cons, List.foldl_nil, f0, f1, f2, f3, f4, f5, f6, f7, f8, f9, f10, f11, f12, f13, f14, f15, f16, f17, f18, f19]
                            clear f0 f1 f2 f3 f4 f5 f6 f7 f8 f9 f10 f11 f12 f13 f14 f15 f16 f17 f18 f19
                            change wpAny _ _ _ _ _ _ (Act.put (Act.put (Act.put (Act.put (Act.put (Act.put (Act.put (Act.put (Act.put (Act.put (Act.put (Act.put (Act.put (Act.put (Act.put (Act.put (Act.put (Act.put (Act.put (Act.put _ (some 130) _) (some 131) _) (some 132) _) (some 133) _) (some 134) _) (some 135) _) (some 136) _) (some 137) _) (some 138) _) (some 139) _) (some 140) _) (some 141) _) (some 142) _) (some 143) _) (some 144) _) (some 145) _) (some 146) _) (some 147) _) (some 148) _) (some 149) _) _
                            simp only [Act.put, List.setIfInBounds_toArray, List.set_cons_zero, List.set_cons_succ]
                            refine wpAny_done (by kernel_rfl) ?_ _
                            have HBW11 : Hid (Below W8.heap.size W8 w5) := Lib.hid (HBW10.out.trans (HI.out.mono HBW10.out.size))
                            clear HI d0 d1 u0 u1 HLT HWI
                            go_wp2_with fail
                            go_roundw
                            case rel => exact ⟨i + 1, by omega, by go_num, HBW11⟩
                            case measure => simp [intOf]; omega
                        · have hlk : decide ((E.cs.length : Int) ≤ (k : Int)) = false := decide_eq_false (by omega)
                          have hlk2 : ¬ (E.cs.length : Int) ≤ (k : Int) := by omega
                          have d0 := HB22.out.cells 0 _ rfl
                          have d1 := HB22.out.cells 1 _ rfl
                          have l22 := HB22.out.lt
                          go_wp2_with fail
                          go_quiet (fail)
                          go_wp2_with fail
                          go_roundw
                          case rel => exact ⟨i + 1, by omega, by go_num, Lib.hid (below_drewN HBW10.out _)⟩
                          case measure => simp [intOf]; omega
                    · have hii : ¬ (i : Int) < 5 := by omega
                      have HK9 := Lib.hid (HK8.out.below HBY.out)
                      go_wp2_with fail
                      go_roundw
                      case rel => exact ⟨k + 1, lo, hi_, by omega, by go_num, HBZ, HK9, Lib.hid (fun c hc hf => by
                        have : c = k := by omega
                        subst this
                        exact HS.out.symm)⟩
                      case measure => simp [intOf]; omega
                · have c4' : decide (few < (k : Int)) = false := decide_eq_false hmf
                  go_wp2_with fail
                  obtain ⟨W9, hW9⟩ : ∃ x, x = (w9.setCell ⟨b17, 0, none⟩ (.int .i64 lo)).setCell ⟨b17, 1, none⟩ (.int .i64 hi_) := ⟨_, rfl⟩
                  rw [← hW9]
                  have z9 : W9.heap.size = w9.heap.size := by rw [hW9]; simp [World.setCell]
                  have hK9 : Blk W9 b17 [.int .i64 lo, .int .i64 hi_] := by rw [hW9]; exact (HK9.out.set (j := 0) (by simp) (.int .i64 lo)).set (j := 1) (by simp) (.int .i64 hi_)
                  have hB9 : Below b17 WL W9 := by rw [hW9]; exact (HB9.out.setCell (p := ⟨b17, 0, none⟩) (Nat.le_refl _) (.int .i64 lo)).setCell (p := ⟨b17, 1, none⟩) (Nat.le_refl _) (.int .i64 hi_)
                  have hK8 := hK9.alloc (.cells #[.int .i64 lo, .int .i64 hi_] 36)
                  have hB8 := hB9.alloc (Nat.le_of_lt hK9.lt) (.cells #[.int .i64 lo, .int .i64 hi_] 36)
                  have h19 := Blk.new W9 [.int .i64 lo, .int .i64 hi_] 36
                  change Blk (World.alloc W9 (.cells #[.int .i64 lo, .int .i64 hi_] 36)) _ _ at h19
                  rw [z9] at h19
                  generalize World.alloc W9 _ = W8 at hK8 h19 hB8 ⊢
                  generalize w9.heap.size = b19 at h19 ⊢
                  clear hW9 hK9 hB9 z9 W9
                  have HK8 : Hid (Blk W8 b17 [.int .i64 lo, .int .i64 hi_]) := Lib.hid hK8
                  have H19 : Hid (Blk W8 b19 [.int .i64 lo, .int .i64 hi_]) := Lib.hid h19
                  have HB8 := Lib.hid hB8
                  clear hK8 h19 hB8 y0 y1 yf0 yf1 yl c1' c2' c3' hl1 hl2 hl3
                  go_loopw [119] (fun iv wy => ∃ i : Nat, i ≤ 5 ∧ iv = .int .i64 (i : Nat) ∧ Hid (Below W8.heap.size W8 wy)) (fun iv _ => 5 - (intOf iv).toNat)
                  case atStart => exact ⟨0, by omega, rfl, Lib.hid (Below.refl _ _)⟩
                  case round =>
                    obtain ⟨i, hi5, rfl, HBY⟩ := hrel
                    have HBZ : Hid (Below b17 WL wr) := Lib.hid (HB8.out.trans (HBY.out.mono (Nat.le_of_lt HK8.out.lt)))
                    have hbs : b17 < wr.heap.size := Nat.lt_of_lt_of_le HK8.out.lt HBY.out.size
                    by_cases hi : i < 5
                    · have hii : (i : Int) < 5 := by omega
                      have hii0 : (0 : Int) ≤ (i : Int) := by omega
                      obtain ⟨q0, q1, qr, qk, _⟩ := HDL.out.at_ (k := i) (by rw [HDS5.out]; exact hi)
                      generalize ds[i]'(by rw [HDS5.out]; exact hi) = E at *
                      have z0 := HBZ.out.at_ hlb q0
                      have z1 := HBZ.out.at_ hlb q1
                      have hlbs : lb0 < wr.heap.size := by omega
                      have HQK := Lib.hid qk
                      have HQR : Hid (Rd wr wr.heap.size E.A (pairs E.cs)) := Lib.hid ((qr.belowM HBZ.out (by rw [HB17E.out]; exact Nat.le_refl _)).more HBZ.out.size)
                      have HIz := Lib.hid (HI.out.belowB hgb17 HBZ.out)
                      have k0 := HIz.out.k.cells 0 _ rfl
                      have k1 := HIz.out.k.cells 1 _ rfl
                      have k2 := HIz.out.k.cells 2 _ rfl
                      have k3 := HIz.out.k.cells 3 _ rfl
                      have kl := HIz.out.bl
                      have hel := ckD_len qk
                      have hft := Fits_any e0 e1 AP AT cp ct ps ts (n : Nat) E.f E.A E.q E.cs _ ((HIz.out.alloc (.cells #[.int .i64 E.f, .slice E.A E.cs.length E.q] 61)).ba) (HQR.out.alloc _) hel
                      rw [fit_mk HOK.out hnn qk] at hft
                      obtain ⟨fb, HFB⟩ : ∃ fb, Hid (fitE e0 e1 ps ts (n : Nat) E.f E.cs = fb) := ⟨_, Lib.hid rfl⟩
                      rw [HFB.out] at hft
                      unfold bkV drV at hft
                      have HFT2 := Lib.hid hft
                      have hB22 := Lib.hid (Blk.new wr [.int .i64 E.f, .slice E.A E.cs.length E.q] 61)
                      have hbn := below_new wr (.cells #[.int .i64 E.f, .slice E.A E.cs.length E.q] 61)
                      have HBN := Lib.hid hbn
                      have h19s : b19 < wr.heap.size := Nat.lt_of_lt_of_le H19.out.lt HBY.out.size
                      clear hft q0 q1 qr qk hbn
                      go_wp2_with fail
                      refine HFT2.out.mono ?_
                      rintro e w10 ⟨rfl, hb10⟩
                      have HB22 := Lib.hid (hB22.out.below hb10)
                      have HBT : Hid (Below wr.heap.size wr w10) := Lib.hid (HBN.out.trans (hb10.mono HBN.out.size))
                      have HR22 : Hid (Rd w10 w10.heap.size E.A (pairs E.cs)) := Lib.hid (HQR.out.next HBT.out)
                      have H19t := Lib.hid ((H19.out.below HBY.out).below HBT.out)
                      have HBW10 : Hid (Below W8.heap.size W8 w10) := Lib.hid (HBY.out.trans (HBT.out.mono HBY.out.size))
                      clear HFT2 hB22 hb10 HBN HBT z0 z1 k0 k1 k2 k3 kl HQR HIz
                      generalize wr.heap.size = b22 at HB22 ⊢
                      cases fb
                      · go_wp2_with fail
                        go_quiet (fail)
                        go_wp2_with fail
                        go_roundw
                        case rel => exact ⟨i + 1, by omega, by go_num, Lib.hid (below_drewN HBW10.out _)⟩
                        case measure => simp [intOf]; omega
                      · by_cases hle : E.cs.length ≤ k
                        · have HWT := HAO.out.within HOK.out hnn HQK.out HFB.out hle
                          rw [HS.out] at HWT
                          obtain ⟨V, HV⟩ : ∃ V, Hid (valueD E.f E.cs m = V) := ⟨_, Lib.hid rfl⟩
                          rw [HV.out] at HWT
                          have HWI := fun (x : World) => (within_any V lo hi_ x)
                          rw [HWT] at HWI
                          unfold spV at HWI
                          have HWI := fun (x : World) => Lib.hid (HWI x)
                          have HLT := fun (x : World) (hb : Below w10.heap.size w10 x) => Lib.hid (lat_any E.f E.A E.q E.cs m x (HR22.out.next hb) hel)
                          rw [HV.out] at HLT
                          unfold drV at HLT
                          have d0 := HB22.out.cells 0 _ rfl
                          have d1 := HB22.out.cells 1 _ rfl
                          have l22 := HB22.out.lt
                          have u0 := H19t.out.cells 0 _ rfl
                          have u1 := H19t.out.cells 1 _ rfl
                          have l19 := H19t.out.lt
                          have hlk : (E.cs.length : Int) ≤ (k : Int) := by omega
                          clear HWT HQK HFB HV
                          go_wp2_with fail
                          refine wp_invT 20 (by kernel_rfl) (by kernel_rfl) (by kernel_rfl) (by decide) (FL [PEq (.int .i64 0), PEq (.bool false), PEq (.bool false), PEq (.bool true), PEq (.bool true), PEq (.pointer (some ⟨b22, 1, none⟩)), PEq (.slice E.A E.cs.length E.q), PEq (.int .i64 (E.cs.length : Nat)), PEq (.int .i64 (k : Nat)), PEq (.bool true), PEq (.bool true), PEq (.bool true), PEq (.agg #[.int .i64 E.f, .slice E.A E.cs.length E.q]), PEq (.int .i64 m), PEq (.int .i64 V), PEq (.agg #[.int .i64 lo, .int .i64 hi_]), PEq (.bool true), PEq (.bool false), PEq (.bool false), PEq (.bool false)])
                            (fun x => Below w10.heap.size w10 x) (fun x y => Below x.heap.size x y) (FL.keepB (by simp [stbB_eq])) (below_drew w10) ?_ ?_
                          · intro iq o hi' ho listed vals a w5 hdep hM hAt K hK
                            have HI := Lib.hid hM.inv
                            match iq, hi' with
                            | 0, _ =>
                              injection ho with ho
                              subst ho
                              rw [if_pos (wantedN rfl)]
                              obtain ⟨e24, e24'⟩ := hAt.slot 24 (by kernel_rfl) (by rfl)
                              go_simp
                              exact hK _ w5 (Below.refl _ _) HI.out rfl
                            | 1, _ =>
                              injection ho with ho
                              subst ho
                              rw [if_pos (wantedN rfl)]
                              have l0 := hdep ⟨0, .data⟩ (by simp) rfl
                              obtain ⟨x0, x0'⟩ := hAt.dep 0 (d := 130) (by omega) l0 (by rfl) (hM.fact 0 (by omega) l0)
                              go_simp
                              exact hK _ w5 (Below.refl _ _) HI.out rfl
                            | 2, _ =>
                              injection ho with ho
                              subst ho
                              rw [if_pos (wantedN rfl)]
                              have l1 := hdep ⟨1, .data⟩ (by simp) rfl
                              obtain ⟨x1, x1'⟩ := hAt.dep 1 (d := 131) (by omega) l1 (by rfl) (hM.fact 1 (by omega) l1)
                              go_simp
                              exact hK _ w5 (Below.refl _ _) HI.out rfl
                            | 3, _ =>
                              injection ho with ho
                              subst ho
                              have lg := hdep ⟨2, .guard⟩ (by simp) rfl
                              obtain ⟨xg, xg'⟩ := hAt.dep 2 (d := 132) (by omega) lg (by rfl) (hM.fact 2 (by omega) lg)
                              rw [if_pos (by rw [wantedG rfl (by rfl) xg]; decide)]
                              clear lg xg xg'
                              obtain ⟨e23, e23'⟩ := hAt.slot 23 (by kernel_rfl) (by rfl)
                              go_simp
                              exact hK _ w5 (Below.refl _ _) HI.out rfl
                            | 4, _ =>
                              injection ho with ho
                              subst ho
                              have lg := hdep ⟨2, .guard⟩ (by simp) rfl
                              obtain ⟨xg, xg'⟩ := hAt.dep 2 (d := 132) (by omega) lg (by rfl) (hM.fact 2 (by omega) lg)
                              rw [if_pos (by rw [wantedG rfl (by rfl) xg]; decide)]
                              clear lg xg xg'
                              have l3 := hdep ⟨3, .data⟩ (by simp) rfl
                              obtain ⟨x3, x3'⟩ := hAt.dep 3 (d := 133) (by omega) l3 (by rfl) (hM.fact 3 (by omega) l3)
                              go_simp
                              exact hK _ w5 (Below.refl _ _) HI.out rfl
                            | 5, _ =>
                              injection ho with ho
                              subst ho
                              have lg := hdep ⟨4, .guard⟩ (by simp) rfl
                              obtain ⟨xg, xg'⟩ := hAt.dep 4 (d := 134) (by omega) lg (by rfl) (hM.fact 4 (by omega) lg)
                              rw [if_pos (by rw [wantedG rfl (by rfl) xg]; decide)]
                              clear lg xg xg'
                              obtain ⟨e22, e22'⟩ := hAt.slot 22 (by kernel_rfl) (by rfl)
                              go_simp
                              exact hK _ w5 (Below.refl _ _) HI.out rfl
                            | 6, _ =>
                              injection ho with ho
                              subst ho
                              have lg := hdep ⟨4, .guard⟩ (by simp) rfl
                              obtain ⟨xg, xg'⟩ := hAt.dep 4 (d := 134) (by omega) lg (by rfl) (hM.fact 4 (by omega) lg)
                              rw [if_pos (by rw [wantedG rfl (by rfl) xg]; decide)]
                              clear lg xg xg'
                              have l5 := hdep ⟨5, .data⟩ (by simp) rfl
                              obtain ⟨x5, x5'⟩ := hAt.dep 5 (d := 135) (by omega) l5 (by rfl) (hM.fact 5 (by omega) l5)
                              have q0 := HI.out.at_ l22 d1
                              go_simp
                              exact hK _ w5 (Below.refl _ _) HI.out rfl
                            | 7, _ =>
                              injection ho with ho
                              subst ho
                              have lg := hdep ⟨4, .guard⟩ (by simp) rfl
                              obtain ⟨xg, xg'⟩ := hAt.dep 4 (d := 134) (by omega) lg (by rfl) (hM.fact 4 (by omega) lg)
                              rw [if_pos (by rw [wantedG rfl (by rfl) xg]; decide)]
                              clear lg xg xg'
                              have l6 := hdep ⟨6, .data⟩ (by simp) rfl
                              obtain ⟨x6, x6'⟩ := hAt.dep 6 (d := 136) (by omega) l6 (by rfl) (hM.fact 6 (by omega) l6)
                              go_simp
                              exact hK _ w5 (Below.refl _ _) HI.out rfl
                            | 8, _ =>
                              injection ho with ho
                              subst ho
                              have lg := hdep ⟨4, .guard⟩ (by simp) rfl
                              obtain ⟨xg, xg'⟩ := hAt.dep 4 (d := 134) (by omega) lg (by rfl) (hM.fact 4 (by omega) lg)
                              rw [if_pos (by rw [wantedG rfl (by rfl) xg]; decide)]
                              clear lg xg xg'
                              obtain ⟨e18, e18'⟩ := hAt.slot 18 (by kernel_rfl) (by rfl)
                              go_simp
                              exact hK _ w5 (Below.refl _ _) HI.out rfl
                            | 9, _ =>
                              injection ho with ho
                              subst ho
                              have lg := hdep ⟨4, .guard⟩ (by simp) rfl
                              obtain ⟨xg, xg'⟩ := hAt.dep 4 (d := 134) (by omega) lg (by rfl) (hM.fact 4 (by omega) lg)
                              rw [if_pos (by rw [wantedG rfl (by rfl) xg]; decide)]
                              clear lg xg xg'
                              have l7 := hdep ⟨7, .data⟩ (by simp) rfl
                              obtain ⟨x7, x7'⟩ := hAt.dep 7 (d := 137) (by omega) l7 (by rfl) (hM.fact 7 (by omega) l7)
                              have l8 := hdep ⟨8, .data⟩ (by simp) rfl
                              obtain ⟨x8, x8'⟩ := hAt.dep 8 (d := 138) (by omega) l8 (by rfl) (hM.fact 8 (by omega) l8)
                              go_simp
                              exact hK _ w5 (Below.refl _ _) HI.out rfl
                            | 10, _ =>
                              injection ho with ho
                              subst ho
                              have lg := hdep ⟨2, .guard⟩ (by simp) rfl
                              obtain ⟨xg, xg'⟩ := hAt.dep 2 (d := 132) (by omega) lg (by rfl) (hM.fact 2 (by omega) lg)
                              rw [if_pos (by rw [wantedG rfl (by rfl) xg]; decide)]
                              clear lg xg xg'
                              have l4 := hdep ⟨4, .data⟩ (by simp) rfl
                              obtain ⟨x4, x4'⟩ := hAt.dep 4 (d := 134) (by omega) l4 (by rfl) (hM.fact 4 (by omega) l4)
                              have l9 := hdep ⟨9, .data⟩ (by simp) rfl
                              obtain ⟨x9, x9'⟩ := hAt.dep 9 (d := 139) (by omega) l9 (by rfl) (hM.fact 9 (by omega) l9)
                              go_simp
                              exact hK _ w5 (Below.refl _ _) HI.out rfl
                            | 11, _ =>
                              injection ho with ho
                              subst ho
                              have lg := hdep ⟨2, .guard⟩ (by simp) rfl
                              obtain ⟨xg, xg'⟩ := hAt.dep 2 (d := 132) (by omega) lg (by rfl) (hM.fact 2 (by omega) lg)
                              rw [if_pos (by rw [wantedG rfl (by rfl) xg]; decide)]
                              clear lg xg xg'
                              have l10 := hdep ⟨10, .data⟩ (by simp) rfl
                              obtain ⟨x10, x10'⟩ := hAt.dep 10 (d := 140) (by omega) l10 (by rfl) (hM.fact 10 (by omega) l10)
                              go_simp
                              exact hK _ w5 (Below.refl _ _) HI.out rfl
                            | 12, _ =>
                              injection ho with ho
                              subst ho
                              have lg := hdep ⟨11, .guard⟩ (by simp) rfl
                              obtain ⟨xg, xg'⟩ := hAt.dep 11 (d := 141) (by omega) lg (by rfl) (hM.fact 11 (by omega) lg)
                              rw [if_pos (by rw [wantedG rfl (by rfl) xg]; decide)]
                              clear lg xg xg'
                              obtain ⟨e22, e22'⟩ := hAt.slot 22 (by kernel_rfl) (by rfl)
                              have q0 := HI.out.at_ l22 d0
                              have q1 := HI.out.at_ l22 d1
                              go_simp
                              exact hK _ w5 (Below.refl _ _) HI.out rfl
                            | 13, _ =>
                              injection ho with ho
                              subst ho
                              have lg := hdep ⟨11, .guard⟩ (by simp) rfl
                              obtain ⟨xg, xg'⟩ := hAt.dep 11 (d := 141) (by omega) lg (by rfl) (hM.fact 11 (by omega) lg)
                              rw [if_pos (by rw [wantedG rfl (by rfl) xg]; decide)]
                              clear lg xg xg'
                              obtain ⟨e11, e11'⟩ := hAt.slot 11 (by kernel_rfl) (by rfl)
                              go_simp
                              exact hK _ w5 (Below.refl _ _) HI.out rfl
                            | 14, _ =>
                              injection ho with ho
                              subst ho
                              have lg := hdep ⟨11, .guard⟩ (by simp) rfl
                              obtain ⟨xg, xg'⟩ := hAt.dep 11 (d := 141) (by omega) lg (by rfl) (hM.fact 11 (by omega) lg)
                              rw [if_pos (by rw [wantedG rfl (by rfl) xg]; decide)]
                              clear lg xg xg'
                              have l12 := hdep ⟨12, .data⟩ (by simp) rfl
                              obtain ⟨x12, x12'⟩ := hAt.dep 12 (d := 142) (by omega) l12 (by rfl) (hM.fact 12 (by omega) l12)
                              have l13 := hdep ⟨13, .data⟩ (by simp) rfl
                              obtain ⟨x13, x13'⟩ := hAt.dep 13 (d := 143) (by omega) l13 (by rfl) (hM.fact 13 (by omega) l13)
                              go_simp
                              refine ((HLT w5 HI.out).out).mono ?_
                              rintro e w6 ⟨rfl, hb6⟩
                              exact hK _ w6 hb6 (HI.out.trans (hb6.mono HI.out.size)) rfl
                            | 15, _ =>
                              injection ho with ho
                              subst ho
                              have lg := hdep ⟨11, .guard⟩ (by simp) rfl
                              obtain ⟨xg, xg'⟩ := hAt.dep 11 (d := 141) (by omega) lg (by rfl) (hM.fact 11 (by omega) lg)
                              rw [if_pos (by rw [wantedG rfl (by rfl) xg]; decide)]
                              clear lg xg xg'
                              obtain ⟨e19, e19'⟩ := hAt.slot 19 (by kernel_rfl) (by rfl)
                              have q0 := HI.out.at_ l19 u0
                              have q1 := HI.out.at_ l19 u1
                              go_simp
                              exact hK _ w5 (Below.refl _ _) HI.out rfl
                            | 16, _ =>
                              injection ho with ho
                              subst ho
                              have lg := hdep ⟨11, .guard⟩ (by simp) rfl
                              obtain ⟨xg, xg'⟩ := hAt.dep 11 (d := 141) (by omega) lg (by rfl) (hM.fact 11 (by omega) lg)
                              rw [if_pos (by rw [wantedG rfl (by rfl) xg]; decide)]
                              clear lg xg xg'
                              have l14 := hdep ⟨14, .data⟩ (by simp) rfl
                              obtain ⟨x14, x14'⟩ := hAt.dep 14 (d := 144) (by omega) l14 (by rfl) (hM.fact 14 (by omega) l14)
                              have l15 := hdep ⟨15, .data⟩ (by simp) rfl
                              obtain ⟨x15, x15'⟩ := hAt.dep 15 (d := 145) (by omega) l15 (by rfl) (hM.fact 15 (by omega) l15)
                              go_simp
                              refine ((HWI w5).out).mono ?_
                              rintro e w6 ⟨rfl, hb6⟩
                              exact hK _ w6 hb6 (HI.out.trans (hb6.mono HI.out.size)) rfl
                            | 17, _ =>
                              injection ho with ho
                              subst ho
                              have lg := hdep ⟨11, .guard⟩ (by simp) rfl
                              obtain ⟨xg, xg'⟩ := hAt.dep 11 (d := 141) (by omega) lg (by rfl) (hM.fact 11 (by omega) lg)
                              rw [if_pos (by rw [wantedG rfl (by rfl) xg]; decide)]
                              clear lg xg xg'
                              have l16 := hdep ⟨16, .data⟩ (by simp) rfl
                              obtain ⟨x16, x16'⟩ := hAt.dep 16 (d := 146) (by omega) l16 (by rfl) (hM.fact 16 (by omega) l16)
                              go_simp
                              exact hK _ w5 (Below.refl _ _) HI.out rfl
                            | 18, _ =>
                              injection ho with ho
                              subst ho
                              have lg := hdep ⟨2, .guard⟩ (by simp) rfl
                              obtain ⟨xg, xg'⟩ := hAt.dep 2 (d := 132) (by omega) lg (by rfl) (hM.fact 2 (by omega) lg)
                              rw [if_pos (by rw [wantedG rfl (by rfl) xg]; decide)]
                              clear lg xg xg'
                              have l11 := hdep ⟨11, .data⟩ (by simp) rfl
                              obtain ⟨x11, x11'⟩ := hAt.dep 11 (d := 141) (by omega) l11 (by rfl) (hM.fact 11 (by omega) l11)
                              have l17 := hdep ⟨17, .data⟩ (by simp) rfl
                              obtain ⟨x17, x17'⟩ := hAt.dep 17 (d := 147) (by omega) l17 (by rfl) (hM.fact 17 (by omega) l17)
                              go_simp
                              exact hK _ w5 (Below.refl _ _) HI.out rfl
                            | 19, _ =>
                              injection ho with ho
                              subst ho
                              rw [if_pos (wantedN rfl)]
                              have l2 := hdep ⟨2, .data⟩ (by simp) rfl
                              obtain ⟨x2, x2'⟩ := hAt.dep 2 (d := 132) (by omega) l2 (by rfl) (hM.fact 2 (by omega) l2)
                              have l18 := hdep ⟨18, .data⟩ (by simp) rfl
                              obtain ⟨x18, x18'⟩ := hAt.dep 18 (d := 148) (by omega) l18 (by rfl) (hM.fact 18 (by omega) l18)
                              go_simp
                              exact hK _ w5 (Below.refl _ _) HI.out rfl
                            | jq + 20, hq => exact absurd hq (by omega)
                          · intro vals w5 hM
                            have HI := Lib.hid hM.inv
                            have f0 : vals 0 = .int .i64 0 := hM.all (by decide) 0 (by omega)
                            have f1 : vals 1 = .bool false := hM.all (by decide) 1 (by omega)
                            have f2 : vals 2 = .bool false := hM.all (by decide) 2 (by omega)
                            have f3 : vals 3 = .bool true := hM.all (by decide) 3 (by omega)
                            have f4 : vals 4 = .bool true := hM.all (by decide) 4 (by omega)
                            have f5 : vals 5 = .pointer (some ⟨b22, 1, none⟩) := hM.all (by decide) 5 (by omega)
                            have f6 : vals 6 = .slice E.A E.cs.length E.q := hM.all (by decide) 6 (by omega)
                            have f7 : vals 7 = .int .i64 (E.cs.length : Nat) := hM.all (by decide) 7 (by omega)
                            have f8 : vals 8 = .int .i64 (k : Nat) := hM.all (by decide) 8 (by omega)
                            have f9 : vals 9 = .bool true := hM.all (by decide) 9 (by omega)
                            have f10 : vals 10 = .bool true := hM.all (by decide) 10 (by omega)
                            have f11 : vals 11 = .bool true := hM.all (by decide) 11 (by omega)
                            have f12 : vals 12 = .agg #[.int .i64 E.f, .slice E.A E.cs.length E.q] := hM.all (by decide) 12 (by omega)
                            have f13 : vals 13 = .int .i64 m := hM.all (by decide) 13 (by omega)
                            have f14 : vals 14 = .int .i64 V := hM.all (by decide) 14 (by omega)
                            have f15 : vals 15 = .agg #[.int .i64 lo, .int .i64 hi_] := hM.all (by decide) 15 (by omega)
                            have f16 : vals 16 = .bool true := hM.all (by decide) 16 (by omega)
                            have f17 : vals 17 = .bool false := hM.all (by decide) 17 (by omega)
                            have f18 : vals 18 = .bool false := hM.all (by decide) 18 (by omega)
                            have f19 : vals 19 = .bool false := hM.all (by decide) 19 (by omega)
                            clear hM
                            simp only [putAll, List.range, List.range.loop, List.foldl_cons, List.foldl_nil, f0, f1, f2, f3, f4, f5, f6, f7, f8, f9, f10, f11, f12, f13, f14, f15, f16, f17, f18, f19]
                            clear f0 f1 f2 f3 f4 f5 f6 f7 f8 f9 f10 f11 f12 f13 f14 f15 f16 f17 f18 f19
                            change wpAny _ _ _ _ _ _ (Act.put (Act.put (Act.put (Act.put (Act.put (Act.put (Act.put (Act.put (Act.put (Act.put (Act.put (Act.put (Act.put (Act.put (Act.put (Act.put (Act.put (Act.put (Act.put (Act.put _ (some 130) _) (some 131) _) (some 132) _) (some 133) _) (some 134) _) (some 135) _) (some 136) _) (some 137) _) (some 138) _) (some 139) _) (some 140) _) (some 141) _) (some 142) _) (some 143) _) (some 144) _) (some 145) _) (some 146) _) (some 147) _) (some 148) _) (some 149) _) _
                            simp only [Act.put, List.setIfInBounds_toArray, List.set_cons_zero, List.set_cons_succ]
                            refine wpAny_done (by kernel_rfl) ?_ _
                            have HBW11 : Hid (Below W8.heap.size W8 w5) := Lib.hid (HBW10.out.trans (HI.out.mono HBW10.out.size))
                            clear HI d0 d1 u0 u1 HLT HWI
                            go_wp2_with fail
                            go_roundw
                            case rel => exact ⟨i + 1, by omega, by go_num, HBW11⟩
                            case measure => simp [intOf]; omega
                        · have hlk : decide ((E.cs.length : Int) ≤ (k : Int)) = false := decide_eq_false (by omega)
                          have hlk2 : ¬ (E.cs.length : Int) ≤ (k : Int) := by omega
                          have d0 := HB22.out.cells 0 _ rfl
                          have d1 := HB22.out.cells 1 _ rfl
                          have l22 := HB22.out.lt
                          go_wp2_with fail
                          go_quiet (fail)
                          go_wp2_with fail
                          go_roundw
                          case rel => exact ⟨i + 1, by omega, by go_num, Lib.hid (below_drewN HBW10.out _)⟩
                          case measure => simp [intOf]; omega
                    · have hii : ¬ (i : Int) < 5 := by omega
                      have HK9 := Lib.hid (HK8.out.below HBY.out)
                      go_wp2_with fail
                      go_roundw
                      case rel => exact ⟨k + 1, lo, hi_, by omega, by go_num, HBZ, HK9, Lib.hid (fun c hc hf => by
                        have : c = k := by omega
                        subst this
                        exact HS.out.symm)⟩
                      case measure => simp [intOf]; omega
            · have hki : ¬ (k : Int) < 5 := by omega
              have HIr := Lib.hid (HI.out.belowB hgb17 HBW.out)
              have HCr : Hid (ChE wr g2 A2 c2 zs2) := Lib.hid (HC.out.keep HBW.out.size fun b hb => HBW.out.block b (by have := HC.out.lt; rw [HB17E.out]; omega))
              go_wp2_with fail
              go_roundw
              case rel => exact ⟨n + 1, by omega, by go_num, HIr, HCr⟩
              case measure => simp [intOf]; omega
    · have hna : ¬ (n : Int) < 2 := by omega
      go_wp2_with fail
      refine (awake_any wr).mono ?_
      rintro e w5 ⟨rfl, hb5⟩
      go_wp2_with fail
      go_ret
      exact ⟨rfl, HI.out.bel.trans (hb5.mono HI.out.bel.size)⟩
end Go.Proofs.YtcdjoegihmfanaaGreat
