/- FeeWorth returns true, whatever the numbers, house and pence; what is passed in reads as it did. No condition. -/
import Derived.Test.YtfojjecnmfkcfaaP16
import Derived.Deep.DeepCutAuto
namespace Go.Proofs.Ytfojjecnmfkcfaa
open Go.RowKit
set_option linter.unusedVariables false
set_option maxRecDepth 100000 in
set_option maxHeartbeats 8000000 in
theorem feeWorth_walk (A1 : Option Addr) (c1 : Nat) (zs1 : List Int) (which pence : Int) (w : World) (h1 : Bytes w A1 zs1) :
    Calls Try.prog 7 #[.slice A1 zs1.length c1, .int .i64 which, .int .i64 pence] w fun e w' => e = .returned (.bool true) ∧ Below w.heap.size w w' := by
  go_enter Try.func7, Try.ntmps7
  go_wp2_with fail
  refine (fill_any A1 c1 zs1 w h1).mono ?_
  rintro e w1 ⟨g1, rfl, hg1, hC1, hb1⟩
  go_wp2_with fail
  refine (madeBill_any g1 A1 c1 zs1 60 5 w1 ⟨_, _, hC1⟩ (by omega) (by omega)).mono ?_
  rintro e w2 ⟨p, hs, v2, rfl, hMB, hown2, hC2, hg2⟩
  obtain ⟨A, cA, rfl, _, hRI0⟩ := own_sliceI hown2
  have hRA := hRI0.rd (Nat.le_refl _)
  have hg1l := hC1.lt
  have hRI : RdI w2 (g1 + 1) w2.heap.size A (trips hs) := fun hne => by
    obtain ⟨b, off, e, l1, l2, l3⟩ := hRI0 hne
    exact ⟨b, off, e, by omega, l2, l3⟩
  clear hRI0 hg1l
  have b2 : Below w.heap.size w w2 := hb1.grown hg2 hb1.size (fun k hk => by injection hk; omega)
  have hck := ckBill_made hMB (by omega) (by omega)
  have hbk := bidOk_made hMB (by omega) (by omega)
  have ho := housesOk_of hck
  have hn6 := ho.1
  have hn1 := hMB.l0
  have hp0 := hMB.p0
  have hp1 := hMB.p1
  obtain ⟨B, hBN⟩ : ∃ B, Hid (BidsN hs p B) := ⟨_, bidsN ho hbk⟩
  have HCK := Lib.hid hck
  have HO := Lib.hid ho
  have HBK := Lib.hid hbk
  have gl : g1 < w2.heap.size := hC2.lt
  clear hC1 hg2 hb1 hown2 hbk hck ho hMB h1
  go_wp2_with fail
  obtain ⟨W2, hW2⟩ : ∃ x, x = w2.alloc (.cells #[.int .i64 p, .slice A hs.length cA] 39) := ⟨_, rfl⟩
  rw [← hW2]
  have nb := below_new w2 (.cells #[.int .i64 p, .slice A hs.length cA] 39)
  rw [← hW2] at nb
  have x0 : W2.cell? ⟨w2.heap.size, 0, none⟩ = some (.int .i64 p) := by rw [hW2]; exact news_new w2 [.int .i64 p, .slice A hs.length cA] 39 rfl 0 _ rfl
  have x1 : W2.cell? ⟨w2.heap.size, 1, none⟩ = some (.slice A hs.length cA) := by rw [hW2]; exact news_new w2 [.int .i64 p, .slice A hs.length cA] 39 rfl 1 _ rfl
  have xl : w2.heap.size < W2.heap.size := by rw [hW2]; simp
  have bW2 := b2.trans (nb.mono b2.size)
  have hRA2 : Rd W2 w2.heap.size A (trips hs) := hRA.keep fun b o hb => nb.cell (p := ⟨b, o, none⟩) hb
  have hRI2 : RdI W2 (g1 + 1) w2.heap.size A (trips hs) := hRI.keep fun b _ hb => nb.block b hb
  have hC3 := hC2.below nb
  have hwl : w.heap.size ≤ w2.heap.size := b2.size
  generalize w2.heap.size = b5 at x0 x1 xl hRA2 hRI2 hwl gl ⊢
  clear hW2 nb b2 hRA hRI hC2
  go_wp2_with fail
  refine (wrap_any which hs.length W2 (by omega) (by omega)).mono ?_
  rintro e w3 ⟨⟨hz, rfl, hz0, hz1⟩, rfl⟩
  obtain ⟨j, rfl⟩ := Int.eq_ofNat_of_zero_le hz0
  have hj : j < hs.length := by omega
  go_wp2_with fail
  refine (wrap_any pence 70 w3 (by omega) (by omega)).mono ?_
  rintro e w4 ⟨⟨nP, rfl, hn0, hn70⟩, rfl⟩
  go_wp2_with fail
  refine (Worth_any A cA p hs j nP w4 (hRA2.more (by omega)) (by omega)).mono ?_
  intro e w5 HW
  obtain ⟨r, rfl, hb5, hW1, hW2⟩ := HW.form
  have hcode : worthCode p hs j nP = if worthSo p hs j nP 0 then 0 else 1 := by
    have ha : askCode p hs j (decide (0 ≤ nP)) = 0 := by
      unfold askCode
      rw [if_pos HCK.out, if_pos (inB_iff.2 (by omega)), decide_eq_true hn0, if_pos rfl, if_pos HBK.out]
    unfold worthCode
    rw [if_pos ha, Int.toNat_natCast]
  rw [Int.toNat_natCast] at hW1
  obtain ⟨y, HY, q0, q1⟩ : ∃ y, Hid ((bidPs hs p).getD j 0 = y) ∧ 0 ≤ y ∧ y ≤ 500 := ⟨_, rfl, (pays_bd HO.out p j).1, (pays_bd HO.out p j).2⟩
  have HSay := Lib.hid (fun v => worth_says (v := v) HO.out hj HBK.out hW1 hcode)
  have hcc : (worthCode p hs j nP = 0 ∧ 0 ≤ r ∧ r ≤ 1000) ∨ (worthCode p hs j nP = 1 ∧ r = 0) := by
    by_cases h : worthCode p hs j nP = 0
    · obtain ⟨q1, q2, _⟩ := hW1 h
      exact .inl ⟨h, q1, by omega⟩
    · refine .inr ⟨?_, hW2 h⟩
      rw [hcode] at h ⊢
      by_cases h' : worthSo p hs j nP 0 = true
      · rw [if_pos h'] at h; exact absurd rfl h
      · rw [if_neg h']
  obtain ⟨m, hm⟩ : ∃ m, m = if r + 1 ≤ 1000 then r + 1 else 1000 := ⟨_, rfl⟩
  have hcm : (worthCode p hs j nP = 0 ∧ 0 ≤ r ∧ r ≤ 999 ∧ m = r + 1) ∨ (worthCode p hs j nP = 0 ∧ r = 1000 ∧ m = 1000) ∨ (worthCode p hs j nP = 1 ∧ r = 0 ∧ m = 1) := by
    by_cases h : r + 1 ≤ 1000
    · rw [if_pos h] at hm; omega
    · rw [if_neg h] at hm; omega
  have hm01 : 0 ≤ m ∧ m ≤ 1000 ∧ 0 ≤ r ∧ r ≤ 1000 := by omega
  obtain ⟨m0, m1, r0, r1⟩ := hm01
  clear hcode hW1 hW2 hcc HW hm
  generalize worthCode p hs j nP = code at HSay hcm ⊢
  have y0 := hb5.at_ xl x0
  have y1 := hb5.at_ xl x1
  have hRA5 : Rd w5 b5 A (trips hs) := hRA2.keep fun b o hb => hb5.cell (p := ⟨b, o, none⟩) (Nat.lt_trans hb xl)
  have hRI5 : RdI w5 (g1 + 1) b5 A (trips hs) := hRI2.keep fun b _ hb => hb5.block b (Nat.lt_trans hb xl)
  have b5' := bW2.trans (hb5.mono bW2.size)
  have hC5 := hC3.below hb5
  have yl := Nat.lt_of_lt_of_le xl hb5.size
  clear x0 x1 hRA2 hRI2 bW2 hC3 xl hb5
  rcases hcm with ⟨rfl, hr0, hr1, rfl⟩ | ⟨rfl, rfl, rfl⟩ | ⟨rfl, rfl, rfl⟩
  all_goals
    go_wp2_with fail
    refine (pullE_any g1 A1 c1 zs1 90 w5 hC5 (by omega)).mono ?_
    rintro e w6 ⟨p6, rfl, _, hp6, hC6, hg6⟩
    obtain ⟨p60, p61⟩ := hp6 (by omega)
    go_wp2_with fail
    refine (pullE_any g1 A1 c1 zs1 1001 w6 hC6 (by omega)).mono ?_
    rintro e w7 ⟨p7, rfl, _, hp7, hC7, hg7⟩
    obtain ⟨p70, p71⟩ := hp7 (by omega)
    have hb7 : Below w.heap.size w w7 := (b5'.grown hg6 b5'.size (fun k hk => by injection hk; omega)).grown hg7 (Nat.le_trans b5'.size hg6.size) (fun k hk => by injection hk; omega)
    go_wp2_with fail
    generalize hW8 : World.alloc w7 _ = W8
    obtain ⟨xs, hxl, hxv, hxL⟩ : ∃ xs : List Int, xs.length = 7 ∧ (∀ v ∈ xs, 0 ≤ v ∧ v ≤ 1000) ∧ Lst W8 w7.heap.size xs := by
      subst hW8
      refine ⟨[0, 1, _, _, p6, p7, 1000], rfl, ?_, Lst.new w7 [0, 1, _, _, p6, p7, 1000] _ rfl⟩
      intro v hv
      simp only [List.mem_cons, List.not_mem_nil, or_false] at hv
      omega
    have HS8 : Hid (WS w W8 b5 w7.heap.size A cA p hs xs) := by
      have hzz := hg6.size
      have hzz2 := hg7.size
      have hh : ∀ b, b < w5.heap.size → b ≠ g1 → w7.heap[b]? = w5.heap[b]? := fun b h1 h2 => (hg7.block b (by omega) (by intro e; injection e; omega)).trans (hg6.block b h1 (by intro e; injection e; omega))
      have hc : ∀ b o, b < w5.heap.size → b ≠ g1 → w7.cell? ⟨b, o, none⟩ = w5.cell? ⟨b, o, none⟩ := fun b o h1 h2 => World.cell?_of_block (a := ⟨b, o, none⟩) (hh b h1 h2)
      have h7 : Below w7.heap.size w7 W8 := by subst hW8; exact below_new w7 _
      have q0 := (hc b5 0 yl (by omega)).trans y0
      have q1 := (hc b5 1 yl (by omega)).trans y1
      have q2 : RdI w7 (g1 + 1) b5 A (trips hs) := hRI5.keep fun b h1 h2 => hh b (by omega) (by omega)
      have q3 : RdI W8 (g1 + 1) b5 A (trips hs) := q2.keep fun b h1 h2 => h7.block b (by omega)
      have hz8 := h7.size
      exact ⟨h7.at_ (by omega) q0, h7.at_ (by omega) q1, q3.rd (Nat.le_refl _), hxL, hb7.trans (h7.mono hb7.size), by omega⟩
    generalize w7.heap.size = bL at hxL HS8 ⊢
    clear hW8 hxL hb7 hg6 hg7 hp6 hp7 hC6 hC7 hRI5 hRA5 y0 y1 b5' hC5 yl
    go_loopw [61] (fun iv wr => ∃ k : Nat, iv = .int .i64 k ∧ k ≤ 7 ∧ Hid (WS w wr b5 bL A cA p hs xs)) (fun iv _ => 7 - (intOf iv).toNat)
    case atStart => exact ⟨0, rfl, Nat.zero_le _, HS8⟩
    case round =>
      clear HS8
      obtain ⟨k, rfl, hk, HS⟩ := hrel
      by_cases hlt : k < 7
      · have hkl : k < xs.length := by omega
        have c1 := HS.out.lst.at_ hkl
        obtain ⟨v0, v1⟩ := hxv xs[k] (List.getElem_mem _)
        generalize xs[k] = v at c1 v0 v1
        have hkz : (k : Int) < 7 := by omega
        have hkz0 : (0 : Int) ≤ (k : Int) := by omega
        have x0 := HS.out.x0
        have x1 := HS.out.x1
        clear hkl
        go_wp2_with fail
        refine (appealB_any A cA p hs j v wr (HS.out.rA.more (by have := HS.out.lt; omega)) HCK.out HBK.out hj v0 v1).mono ?_
        rintro e w9 ⟨ba, oa, ca, x, rfl, hba, ea, hx0, hx1, HX, hb9⟩
        have HS9 := Lib.hid (HS.out.below hb9)
        have hiff := (HX.out nP).symm.trans (HSay.out v v0 v1)
        rw [HY.out]
        have y0 := HS9.out.x0
        have y1 := HS9.out.x1
        clear x0 x1 c1 HS hb9 HX
        go_wp2_with fail
        refine (bidsN_any A cA p hs j w9 (HS9.out.rA.more (by have := HS9.out.lt; omega)) HCK.out HBK.out hj).mono ?_
        rintro e w10 ⟨bn, on, cn, rfl, en, hb10⟩
        have ea' := hb10.at_ hba ea
        have HS10 := Lib.hid (HS9.out.below hb10)
        rw [HY.out] at en
        clear y0 y1 HS9 hb10 ea hba
        by_cases hxp : x ≤ nP
        · rw [decide_eq_true hxp] at hiff
          simp at hiff
          all_goals
            go_wp2_with fail
            go_quiet (fail)
            go_wp2_with fail
            go_roundw
            case rel => exact ⟨k + 1, by go_num, by omega, HS10.out.drewN _⟩
            case measure => simp [intOf]; omega
        · rw [decide_eq_false hxp] at hiff
          simp at hiff
          all_goals try (exfalso; omega)
          all_goals try (have hvr : decide (v ≤ r) = false := decide_eq_false (by omega))
          all_goals
            go_wp2_with fail
            go_quiet (fail)
            go_wp2_with fail
            go_roundw
            case rel => exact ⟨k + 1, by go_num, by omega, HS10.out.drewN _⟩
            case measure => simp [intOf]; omega
      · have hkz : ¬ (k : Int) < 7 := by omega
        have bl := HS.out.bl
        clear hlt
        go_wp2_with fail
        refine (awake_any wr).mono ?_
        rintro e w11 ⟨rfl, hb11⟩
        go_wp2_with fail
        go_ret
        exact ⟨rfl, bl.trans (hb11.mono bl.size)⟩
end Go.Proofs.Ytfojjecnmfkcfaa
