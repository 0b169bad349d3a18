/- FeeCosts returns true, whatever the numbers, pounds and pence; what is passed in reads as it did. No condition. -/
import Derived.Test.YtfojjecnmfkcfaaP18
import Derived.Test.YtfojjecnmfkcfaaP17
import Derived.Deep.DeepCutAuto
namespace Go.Proofs.Ytfojjecnmfkcfaa
open Go.RowKit
set_option linter.unusedVariables false
theorem news_kept {w w' : World} {b : Nat} {xs : List Value} (hb : Below w.heap.size w w') (hlt : b < w.heap.size) (h : ∀ j u, xs[j]? = some u → w.cell? ((⟨b, 0, none⟩ : Addr).add j) = some u) : ∀ j u, xs[j]? = some u → w'.cell? ((⟨b, 0, none⟩ : Addr).add j) = some u := by
  intro j u hu
  have h1 := h j u hu
  rw [addr_add] at h1 ⊢
  exact hb.at_ hlt h1
theorem costMore_any {t : List (Int × Int)} {u n x : Int} {B : Nat} (hk : ckTariff (t ++ [(u, 500)]) = 0) (hx : costF (t ++ [(u, 500)]) n = x) (h0 : 0 ≤ n) (h1 : n ≤ 20000) (g cp : Nat) (w : World) (ho : w.ownsRow B 26 2 (.slice (some ⟨g, 0, none⟩) (t.length + 1) cp) (t.length + 1) (pairs t ++ [.int .i64 u, .int .i64 500])) :
    Calls Try.prog 21 #[.slice (some ⟨g, 0, none⟩) (t.length + 1) cp, .int .i64 n] w fun e w' => e = .returned (.tuple #[.int .i64 x, .int .i64 0]) ∧ Below w.heap.size w w' := by
  obtain ⟨A', c', e, hc, hr⟩ := own_slice ho
  injection e with e1 _ e2
  subst e1 e2
  have hl : (t ++ [(u, 500)]).length = t.length + 1 := by simp
  have hp : pairs (t ++ [(u, 500)]) = pairs t ++ [.int .i64 u, .int .i64 500] := pairs_append t (u, 500)
  have := costG_any (some ⟨g, 0, none⟩) cp (t ++ [(u, 500)]) n w (by rw [hp]; exact hr) (by rw [hl]; exact hc) hk h0 h1
  rw [hl, hx] at this
  exact this
set_option maxRecDepth 100000 in
set_option maxHeartbeats 8000000 in
theorem feeCosts_walk (A1 : Option Addr) (c1 : Nat) (zs1 : List Int) (pounds pence : Int) (w : World) (h1 : Bytes w A1 zs1) :
    Calls Try.prog 8 #[.slice A1 zs1.length c1, .int .i64 pounds, .int .i64 pence] w fun e w' => e = .returned (.bool true) ∧ Below w.heap.size w w' := by
  go_enter Try.func8, Try.ntmps8
  go_wp2_with fail
  refine (fill_any A1 c1 zs1 w h1).mono ?_
  rintro e w1 ⟨g1, rfl, hg1, hC1, hb1⟩
  go_wp2_with fail
  refine (madeTariff_any g1 A1 c1 zs1 w1 ⟨_, _, hC1⟩).mono ?_
  rintro e w2 ⟨t, v, u, rfl, l1, l4, hMT, hown, hC2, hg2⟩
  obtain ⟨A, cA, rfl, hcA, hRA⟩ := own_slice hown
  have b2 : Below w.heap.size w w2 := hb1.grown hg2 hb1.size (fun k hk => by injection hk; omega)
  have hck := made_ok hMT l1 l4
  have HCK := Lib.hid hck
  have HMT := Lib.hid hMT
  have HS := Lib.hid (ckTariff_ok hck).2.2.1
  have HB2 := Lib.hid b2
  have HR := Lib.hid hRA
  clear hC1 hC2 hg2 hb1 hown hck hMT h1 b2 hRA
  go_wp2_with fail
  refine (wrapV_any pounds 6000 w2 (by omega) (by omega)).mono ?_
  rintro e w3 ⟨rfl, rfl⟩
  obtain ⟨n0, n1⟩ := wrapV_bd pounds 6000 (by omega)
  generalize wrapV pounds 6000 = n at n0 n1 ⊢
  go_wp2_with fail
  refine (wrapV_any pence 4000 w3 (by omega) (by omega)).mono ?_
  rintro e w4 ⟨rfl, rfl⟩
  obtain ⟨p0, p1⟩ := wrapV_bd pence 4000 (by omega)
  generalize wrapV pence 4000 = p at p0 p1 ⊢
  go_wp2_with fail
  refine (costG_any A cA t n w4 HR.out hcA HCK.out n0 (by omega)).mono ?_
  rintro e w5 ⟨rfl, hb5⟩
  have HR5 := Lib.hid (HR.out.next hb5)
  have HB5 := Lib.hid (HB2.out.trans (hb5.mono HB2.out.size))
  clear hb5
  obtain ⟨x, HX, HX0, HX1⟩ : ∃ x, Hid (costF t n = x) ∧ 0 ≤ x ∧ x ≤ 1000000 := ⟨_, rfl, costF_bd t HCK.out n n0 (by omega)⟩
  rw [HX.out]
  go_wp2_with fail
  refine (costG_any A cA t (n + 1) w5 HR5.out hcA HCK.out (by omega) (by omega)).mono ?_
  rintro e w6 ⟨rfl, hb6⟩
  have HR6 := Lib.hid (HR5.out.next hb6)
  have HB6 := Lib.hid (HB5.out.trans (hb6.mono HB5.out.size))
  clear hb6 HR5
  have hxy := costF_mono t HS.out n (n + 1) (by omega)
  rw [HX.out] at hxy
  generalize costF t (n + 1) = y at hxy ⊢
  have hyx : decide (y < x) = false := decide_eq_false (by omega)
  go_wp2_with fail
  refine (poundsG_any A cA t p w6 HR6.out hcA HCK.out p0).mono ?_
  rintro e w7 ⟨rfl, hb7⟩
  have HR7 := Lib.hid (HR6.out.next hb7)
  have HB7 := Lib.hid (HB6.out.trans (hb7.mono HB6.out.size))
  clear hb7 HR6
  obtain ⟨m1, m2, m3, m4⟩ := pounds_says t HS.out p p0
  have hnm := m4 n n0 (by omega)
  rw [HX.out] at hnm
  have HM1 := Lib.hid m1
  have HM4 := Lib.hid m4
  generalize poundsF t p = m at HM1 HM4 m2 m3 hnm ⊢
  clear m1 m4
  go_wp2_with fail
  refine (costG_any A cA t 0 w7 HR7.out hcA HCK.out (by omega) (by omega)).mono ?_
  rintro e w8 ⟨rfl, hb8⟩
  have HR8 := Lib.hid (HR7.out.next hb8)
  have HB8 := Lib.hid (HB7.out.trans (hb8.mono HB7.out.size))
  rw [costF_zero t HS.out]
  clear hb8 HR7
  go_wp2_with fail
  refine (checkG_any A cA t w8 HR8.out hcA HCK.out).mono ?_
  rintro e w9 ⟨rfl, hb9⟩
  have HR9 := Lib.hid (HR8.out.next hb9)
  have HB9 := Lib.hid (HB8.out.trans (hb9.mono HB8.out.size))
  clear hb9 HR8
  go_wp2_with fail
  refine (costG_any A cA t m w9 HR9.out hcA HCK.out m2 m3).mono ?_
  rintro e w10 ⟨rfl, hb10⟩
  have HR10 := Lib.hid (HR9.out.next hb10)
  have HB10 := Lib.hid (HB9.out.trans (hb10.mono HB9.out.size))
  clear hb10 HR9
  have hz := HM1.out
  generalize costF t m = z at hz ⊢
  have hpz : decide (p < z) = false := decide_eq_false (by omega)
  obtain ⟨bA, oA, hAe, hbA, e1, e2⟩ := HR10.out.pair (k := 0) (by omega)
  subst hAe
  have hg0 : t[0] = t.getD 0 (0, 0) := by simp [List.getD_eq_getElem?_getD, List.getElem?_eq_getElem (show 0 < t.length by omega)]
  rw [hg0] at e1 e2
  simp only [Nat.zero_mul, Nat.add_zero] at e1 e2
  have HS0 := Lib.hid (made_one HMT.out l1)
  clear hg0
  generalize t.getD 0 (0, 0) = s at e1 e2 HS0
  obtain ⟨su, sp⟩ := s
  have ht0 : ¬ t.length = 0 := by omega
  by_cases q1 : m < 20000
  · have hn := HM4.out (m + 1) (by omega) (by omega)
    have hab : ¬ costF t (m + 1) ≤ p := fun h => by have := hn.2 h; omega
    clear hn
    go_wp2_with fail
    refine (costG_any (some ⟨bA, oA, none⟩) cA t (m + 1) w10 HR10.out hcA HCK.out (by omega) (by omega)).mono ?_
    rintro e wq ⟨rfl, hbq⟩
    generalize costF t (m + 1) = ab at hab ⊢
    have habd : decide (ab ≤ p) = false := decide_eq_false (by omega)
    have e1 := hbq.at_ hbA e1
    have e2 := hbq.at_ hbA e2
    have HB10 := Lib.hid (HB10.out.trans (hbq.mono HB10.out.size))
    have HR10 := Lib.hid (HR10.out.next hbq)
    clear hbq
    by_cases q2 : n ≤ m
    · have q3 : x ≤ p := hnm.1 q2
      clear hnm
      go_wp2_with fail
      generalize hW : World.alloc wq _ = w11
      obtain ⟨hRf, hb11⟩ := rd_one hW
      have HR11 := Lib.hid (HR10.out.next hb11)
      have HB11 := Lib.hid (HB10.out.trans (hb11.mono HB10.out.size))
      generalize wq.heap.size = bf at hRf ⊢
      have HF11 := Lib.hid hRf
      clear hW hb11 hRf e1 e2
      refine (costG_any (some ⟨bf, 0, none⟩) 1 [(su, sp)] n w11 HF11.out (by simp) HS0.out n0 (by omega)).mono ?_
      rintro e w12 ⟨rfl, hb12⟩
      have HR12 := Lib.hid (HR11.out.next hb12)
      have HB12 := Lib.hid (HB11.out.trans (hb12.mono HB11.out.size))
      have HF12 := Lib.hid (HF11.out.next hb12)
      clear hb12 HF11 HR11
      obtain ⟨fa, HFA, fa0, fa1⟩ : ∃ a, Hid (costF [(su, sp)] n = a) ∧ 0 ≤ a ∧ a ≤ 1000000 := ⟨_, rfl, costF_bd _ HS0.out n n0 (by omega)⟩
      rw [HFA.out]
      go_wp2_with fail
      refine (costG_any (some ⟨bf, 0, none⟩) 1 [(su, sp)] (n / 3) w12 HF12.out (by simp) HS0.out (by omega) (by omega)).mono ?_
      rintro e w13 ⟨rfl, hb13⟩
      have HR13 := Lib.hid (HR12.out.next hb13)
      have HB13 := Lib.hid (HB12.out.trans (hb13.mono HB12.out.size))
      have HF13 := Lib.hid (HF12.out.next hb13)
      clear hb13 HF12 HR12
      obtain ⟨fb, HFB, fb0, fb1⟩ : ∃ a, Hid (costF [(su, sp)] (n / 3) = a) ∧ 0 ≤ a ∧ a ≤ 1000000 := ⟨_, rfl, costF_bd _ HS0.out (n / 3) (by omega) (by omega)⟩
      rw [HFB.out]
      go_wp2_with fail
      refine (costG_any (some ⟨bf, 0, none⟩) 1 [(su, sp)] (n - n / 3) w13 HF13.out (by simp) HS0.out (by omega) (by omega)).mono ?_
      rintro e w14 ⟨rfl, hb14⟩
      have HR14 := Lib.hid (HR13.out.next hb14)
      have HB14 := Lib.hid (HB13.out.trans (hb14.mono HB13.out.size))
      clear hb14 HF13 HR13
      obtain ⟨fc, HFC, fc0, fc1⟩ : ∃ a, Hid (costF [(su, sp)] (n - n / 3) = a) ∧ 0 ≤ a ∧ a ≤ 1000000 := ⟨_, rfl, costF_bd _ HS0.out (n - n / 3) (by omega) (by omega)⟩
      rw [HFC.out]
      obtain ⟨fs1, fs2⟩ := flat_split (su, sp) n n0
      rw [HFA.out, HFB.out, HFC.out] at fs1 fs2
      have fd1 : decide (fb + fc < fa) = false := decide_eq_false (by omega)
      have fd2 : decide (fa + 1 < fb + fc) = false := decide_eq_false (by omega)
      obtain ⟨mm, hmm⟩ : ∃ k, t.length = k + 1 := ⟨t.length - 1, by omega⟩
      obtain ⟨e3, e4⟩ := HR14.out.pair' (k := mm) (by omega)
      have hg0 : t[mm] = t.getD mm (0, 0) := by simp [List.getD_eq_getElem?_getD, List.getElem?_eq_getElem (show mm < t.length by omega)]
      rw [hg0] at e3 e4
      have hix : (t.length : Int) - 1 = (mm : Int) := by omega
      have hml : mm < t.length := by omega
      have HMM := Lib.hid hmm
      clear hg0 hmm
      obtain ⟨ls, HLS⟩ : ∃ ls, Hid (t.getD mm (0, 0) = ls) := ⟨_, rfl⟩
      rw [HLS.out] at e3 e4
      obtain ⟨lu, lp⟩ := ls
      by_cases q5 : t.length < 4
      · by_cases q6 : n ≤ lu
        · go_wp2_with fail
          obtain ⟨W, hW⟩ : ∃ x, x = w14.alloc (.cells #[.int .i64 lu, .int .i64 lp] 26) := ⟨_, rfl⟩
          rw [← hW]
          have x0 : W.cell? ⟨w14.heap.size, 0, none⟩ = some (.int .i64 lu) := by rw [hW]; simp
          have r0 : w14.heap.size < W.heap.size := by rw [hW]; simp
          have bW : Below w14.heap.size w14 W := by rw [hW]; go_grown
          have HBW := Lib.hid (HB14.out.trans (bW.mono HB14.out.size))
          have HRW := Lib.hid (HR14.out.next bW)
          have HUP := Lib.hid (HMT.out.up mm (by omega))
          rw [HLS.out] at HUP
          have h4 : mm ≤ 2 := by omega
          have hlu : 1 ≤ lu ∧ lu ≤ 3600 := by have h := HUP.out; simp only at h; omega
          obtain ⟨hlu0, hlu1⟩ := hlu
          clear hW bW e3 e4
          have HCP : Hid (∀ w', Below W.heap.size W w' → Calls Try.prog 17 #[.slice (some ⟨bA, oA, none⟩) t.length cA] w' (RetOwn 26 2 t.length (pairs t) w')) := fun w' h => copyStep_any _ _ _ _ (HRW.out.next h) (by omega)
          obtain ⟨i0, hi, hz0, hz1, hz2⟩ := info_parts infoStep
          have hMK := made_more HMT.out HMM.out q5
          rw [HLS.out] at hMK
          have hCA := costF_app t (lu + 7, 500) n HMM.out (by rw [HLS.out]; exact q6)
          rw [HX.out] at hCA
          have HCO : Hid (∀ (g cp : Nat) (w' : World), w'.ownsRow W.heap.size 26 2 (.slice (some ⟨g, 0, none⟩) (t.length + 1) cp) (t.length + 1) (pairs t ++ [.int .i64 (lu + 7), .int .i64 500]) → Calls Try.prog 21 #[.slice (some ⟨g, 0, none⟩) (t.length + 1) cp, .int .i64 n] w' fun e w'' => e = .returned (.tuple #[.int .i64 x, .int .i64 0]) ∧ Below w'.heap.size w' w'') := costMore_any hMK hCA n0 (by omega)
          clear hMK hCA
          have q7 : IntKind.i64.wrap (lu + 7) = lu + 7 := IntWalk.i64_in _ (by omega)
          go_region_held3 (fun w' => w'.cell? ⟨w14.heap.size, 0, none⟩ = some (.int .i64 lu) ∧ Below W.heap.size W w')
            (first | exact ⟨x0, (Below.refl _ _).drew⟩ | exact keep1 r0 (by assumption) (by assumption) | exact keep1 r0 (by assumption) (below_new _ _) | exact S8 | exact keep1 r0 S8 (by assumption))
            (first
              | (go_at_call 17; refine (HCP.out _ (And.right (by assumption))).mono ?_; rintro e wc ⟨v, rfl, hown, hbc⟩; have HOC := Lib.hid (hown.base_ (base' := W.heap.size) (Below.size (And.right (by assumption)))); obtain ⟨B1, cb1, rfl, _, _⟩ := own_slice hown; clear hown)
              | ((first
                  | (refine step_append_lies _ (by rfl) _ _ _ (by rfl) W.heap.size 26 i0 _ 2 16 Try.underlying22 hi hz0 hz1 hz2 rfl (by omega) _ t.length (pairs t) (by rfl) (HOC.out.alloc _) ⟨wc.heap.size, 0, none⟩ 1 1 [.int .i64 (lu + 7), .int .i64 500] (by rfl) rfl (news_new _ _ _ rfl) (by simp [Value.oneCell']) (by omega) (by simp only [maxLen]; omega) (by omega) (Below.size (And.right (by assumption))) _ rfl ?_)
                  | (refine step_append_lies _ (by rfl) _ _ _ (by rfl) W.heap.size 26 i0 _ 2 16 Try.underlying22 hi hz0 hz1 hz2 rfl (by omega) _ t.length (pairs t) (by rfl) HOC.out ⟨W.drew.heap.size, 0, none⟩ 1 1 [.int .i64 (lu + 7), .int .i64 500] (by rfl) rfl (news_kept hbc (by simp) (news_new W.drew [.int .i64 (lu + 7), .int .i64 500] _ rfl)) (by simp [Value.oneCell']) (by omega) (by simp only [maxLen]; omega) (by omega) (Below.size (And.right (by assumption))) _ rfl ?_)); intro gg cap w8 hown1 hgrow1 hat hlt8; have b8 := Below.grown (And.right (by assumption)) hgrow1 (Below.size (And.right (by assumption))) (fun k hk => (HOC.out.lt k hk).1); have S8 : w8.cell? ⟨w14.heap.size, 0, none⟩ = some (.int .i64 lu) ∧ Below W.heap.size W w8 := ⟨(b8.cell (p := ⟨w14.heap.size, 0, none⟩) r0).trans x0, b8⟩; have HO8 := Lib.hid hown1; clear hown1 hgrow1 hat hlt8)
              | (go_at_call 21; refine (HCO.out _ _ _ HO8.out).mono ?_; rintro e w9 ⟨rfl, hb9⟩))
          all_goals
            clear q7
            have hxx : decide (x = x) = true := decide_eq_true rfl
            have HB9 := Lib.hid (HBW.out.trans (Below.mono (And.right (by assumption)) HBW.out.size))
            go_wp2_with fail
            refine (awake_any _).mono ?_
            rintro e w15 ⟨rfl, hb15⟩
            go_wp2_with fail
            go_ret
            exact ⟨rfl, HB9.out.trans (hb15.mono HB9.out.size)⟩
        · go_wp2_with fail
          refine (awake_any _).mono ?_
          rintro e w15 ⟨rfl, hb15⟩
          go_wp2_with fail
          go_ret
          have hba := HB14.out.alloc HB14.out.size (.cells #[.int .i64 lu, .int .i64 lp] 26)
          exact ⟨rfl, hba.trans (hb15.mono hba.size)⟩
      · go_wp2_with fail
        refine (awake_any _).mono ?_
        rintro e w15 ⟨rfl, hb15⟩
        go_wp2_with fail
        go_ret
        have hba := HB14.out.alloc HB14.out.size (.cells #[.int .i64 lu, .int .i64 lp] 26)
        exact ⟨rfl, hba.trans (hb15.mono hba.size)⟩
    · have q3 : ¬ x ≤ p := fun h => q2 (hnm.2 h)
      have q2d : decide (n ≤ m) = false := decide_eq_false q2
      have q3d : decide (x ≤ p) = false := decide_eq_false q3
      clear hnm
      go_wp2_with fail
      generalize hW : World.alloc wq _ = w11
      obtain ⟨hRf, hb11⟩ := rd_one hW
      have HR11 := Lib.hid (HR10.out.next hb11)
      have HB11 := Lib.hid (HB10.out.trans (hb11.mono HB10.out.size))
      generalize wq.heap.size = bf at hRf ⊢
      have HF11 := Lib.hid hRf
      clear hW hb11 hRf e1 e2
      refine (costG_any (some ⟨bf, 0, none⟩) 1 [(su, sp)] n w11 HF11.out (by simp) HS0.out n0 (by omega)).mono ?_
      rintro e w12 ⟨rfl, hb12⟩
      have HR12 := Lib.hid (HR11.out.next hb12)
      have HB12 := Lib.hid (HB11.out.trans (hb12.mono HB11.out.size))
      have HF12 := Lib.hid (HF11.out.next hb12)
      clear hb12 HF11 HR11
      obtain ⟨fa, HFA, fa0, fa1⟩ : ∃ a, Hid (costF [(su, sp)] n = a) ∧ 0 ≤ a ∧ a ≤ 1000000 := ⟨_, rfl, costF_bd _ HS0.out n n0 (by omega)⟩
      rw [HFA.out]
      go_wp2_with fail
      refine (costG_any (some ⟨bf, 0, none⟩) 1 [(su, sp)] (n / 3) w12 HF12.out (by simp) HS0.out (by omega) (by omega)).mono ?_
      rintro e w13 ⟨rfl, hb13⟩
      have HR13 := Lib.hid (HR12.out.next hb13)
      have HB13 := Lib.hid (HB12.out.trans (hb13.mono HB12.out.size))
      have HF13 := Lib.hid (HF12.out.next hb13)
      clear hb13 HF12 HR12
      obtain ⟨fb, HFB, fb0, fb1⟩ : ∃ a, Hid (costF [(su, sp)] (n / 3) = a) ∧ 0 ≤ a ∧ a ≤ 1000000 := ⟨_, rfl, costF_bd _ HS0.out (n / 3) (by omega) (by omega)⟩
      rw [HFB.out]
      go_wp2_with fail
      refine (costG_any (some ⟨bf, 0, none⟩) 1 [(su, sp)] (n - n / 3) w13 HF13.out (by simp) HS0.out (by omega) (by omega)).mono ?_
      rintro e w14 ⟨rfl, hb14⟩
      have HR14 := Lib.hid (HR13.out.next hb14)
      have HB14 := Lib.hid (HB13.out.trans (hb14.mono HB13.out.size))
      clear hb14 HF13 HR13
      obtain ⟨fc, HFC, fc0, fc1⟩ : ∃ a, Hid (costF [(su, sp)] (n - n / 3) = a) ∧ 0 ≤ a ∧ a ≤ 1000000 := ⟨_, rfl, costF_bd _ HS0.out (n - n / 3) (by omega) (by omega)⟩
      rw [HFC.out]
      obtain ⟨fs1, fs2⟩ := flat_split (su, sp) n n0
      rw [HFA.out, HFB.out, HFC.out] at fs1 fs2
      have fd1 : decide (fb + fc < fa) = false := decide_eq_false (by omega)
      have fd2 : decide (fa + 1 < fb + fc) = false := decide_eq_false (by omega)
      obtain ⟨mm, hmm⟩ : ∃ k, t.length = k + 1 := ⟨t.length - 1, by omega⟩
      obtain ⟨e3, e4⟩ := HR14.out.pair' (k := mm) (by omega)
      have hg0 : t[mm] = t.getD mm (0, 0) := by simp [List.getD_eq_getElem?_getD, List.getElem?_eq_getElem (show mm < t.length by omega)]
      rw [hg0] at e3 e4
      have hix : (t.length : Int) - 1 = (mm : Int) := by omega
      have hml : mm < t.length := by omega
      have HMM := Lib.hid hmm
      clear hg0 hmm
      obtain ⟨ls, HLS⟩ : ∃ ls, Hid (t.getD mm (0, 0) = ls) := ⟨_, rfl⟩
      rw [HLS.out] at e3 e4
      obtain ⟨lu, lp⟩ := ls
      by_cases q5 : t.length < 4
      · by_cases q6 : n ≤ lu
        · go_wp2_with fail
          obtain ⟨W, hW⟩ : ∃ x, x = w14.alloc (.cells #[.int .i64 lu, .int .i64 lp] 26) := ⟨_, rfl⟩
          rw [← hW]
          have x0 : W.cell? ⟨w14.heap.size, 0, none⟩ = some (.int .i64 lu) := by rw [hW]; simp
          have r0 : w14.heap.size < W.heap.size := by rw [hW]; simp
          have bW : Below w14.heap.size w14 W := by rw [hW]; go_grown
          have HBW := Lib.hid (HB14.out.trans (bW.mono HB14.out.size))
          have HRW := Lib.hid (HR14.out.next bW)
          have HUP := Lib.hid (HMT.out.up mm (by omega))
          rw [HLS.out] at HUP
          have h4 : mm ≤ 2 := by omega
          have hlu : 1 ≤ lu ∧ lu ≤ 3600 := by have h := HUP.out; simp only at h; omega
          obtain ⟨hlu0, hlu1⟩ := hlu
          clear hW bW e3 e4
          have HCP : Hid (∀ w', Below W.heap.size W w' → Calls Try.prog 17 #[.slice (some ⟨bA, oA, none⟩) t.length cA] w' (RetOwn 26 2 t.length (pairs t) w')) := fun w' h => copyStep_any _ _ _ _ (HRW.out.next h) (by omega)
          obtain ⟨i0, hi, hz0, hz1, hz2⟩ := info_parts infoStep
          have hMK := made_more HMT.out HMM.out q5
          rw [HLS.out] at hMK
          have hCA := costF_app t (lu + 7, 500) n HMM.out (by rw [HLS.out]; exact q6)
          rw [HX.out] at hCA
          have HCO : Hid (∀ (g cp : Nat) (w' : World), w'.ownsRow W.heap.size 26 2 (.slice (some ⟨g, 0, none⟩) (t.length + 1) cp) (t.length + 1) (pairs t ++ [.int .i64 (lu + 7), .int .i64 500]) → Calls Try.prog 21 #[.slice (some ⟨g, 0, none⟩) (t.length + 1) cp, .int .i64 n] w' fun e w'' => e = .returned (.tuple #[.int .i64 x, .int .i64 0]) ∧ Below w'.heap.size w' w'') := costMore_any hMK hCA n0 (by omega)
          clear hMK hCA
          have q7 : IntKind.i64.wrap (lu + 7) = lu + 7 := IntWalk.i64_in _ (by omega)
          go_region_held3 (fun w' => w'.cell? ⟨w14.heap.size, 0, none⟩ = some (.int .i64 lu) ∧ Below W.heap.size W w')
            (first | exact ⟨x0, (Below.refl _ _).drew⟩ | exact keep1 r0 (by assumption) (by assumption) | exact keep1 r0 (by assumption) (below_new _ _) | exact S8 | exact keep1 r0 S8 (by assumption))
            (first
              | (go_at_call 17; refine (HCP.out _ (And.right (by assumption))).mono ?_; rintro e wc ⟨v, rfl, hown, hbc⟩; have HOC := Lib.hid (hown.base_ (base' := W.heap.size) (Below.size (And.right (by assumption)))); obtain ⟨B1, cb1, rfl, _, _⟩ := own_slice hown; clear hown)
              | ((first
                  | (refine step_append_lies _ (by rfl) _ _ _ (by rfl) W.heap.size 26 i0 _ 2 16 Try.underlying22 hi hz0 hz1 hz2 rfl (by omega) _ t.length (pairs t) (by rfl) (HOC.out.alloc _) ⟨wc.heap.size, 0, none⟩ 1 1 [.int .i64 (lu + 7), .int .i64 500] (by rfl) rfl (news_new _ _ _ rfl) (by simp [Value.oneCell']) (by omega) (by simp only [maxLen]; omega) (by omega) (Below.size (And.right (by assumption))) _ rfl ?_)
                  | (refine step_append_lies _ (by rfl) _ _ _ (by rfl) W.heap.size 26 i0 _ 2 16 Try.underlying22 hi hz0 hz1 hz2 rfl (by omega) _ t.length (pairs t) (by rfl) HOC.out ⟨W.drew.heap.size, 0, none⟩ 1 1 [.int .i64 (lu + 7), .int .i64 500] (by rfl) rfl (news_kept hbc (by simp) (news_new W.drew [.int .i64 (lu + 7), .int .i64 500] _ rfl)) (by simp [Value.oneCell']) (by omega) (by simp only [maxLen]; omega) (by omega) (Below.size (And.right (by assumption))) _ rfl ?_)); intro gg cap w8 hown1 hgrow1 hat hlt8; have b8 := Below.grown (And.right (by assumption)) hgrow1 (Below.size (And.right (by assumption))) (fun k hk => (HOC.out.lt k hk).1); have S8 : w8.cell? ⟨w14.heap.size, 0, none⟩ = some (.int .i64 lu) ∧ Below W.heap.size W w8 := ⟨(b8.cell (p := ⟨w14.heap.size, 0, none⟩) r0).trans x0, b8⟩; have HO8 := Lib.hid hown1; clear hown1 hgrow1 hat hlt8)
              | (go_at_call 21; refine (HCO.out _ _ _ HO8.out).mono ?_; rintro e w9 ⟨rfl, hb9⟩))
          all_goals
            clear q7
            have hxx : decide (x = x) = true := decide_eq_true rfl
            have HB9 := Lib.hid (HBW.out.trans (Below.mono (And.right (by assumption)) HBW.out.size))
            go_wp2_with fail
            refine (awake_any _).mono ?_
            rintro e w15 ⟨rfl, hb15⟩
            go_wp2_with fail
            go_ret
            exact ⟨rfl, HB9.out.trans (hb15.mono HB9.out.size)⟩
        · go_wp2_with fail
          refine (awake_any _).mono ?_
          rintro e w15 ⟨rfl, hb15⟩
          go_wp2_with fail
          go_ret
          have hba := HB14.out.alloc HB14.out.size (.cells #[.int .i64 lu, .int .i64 lp] 26)
          exact ⟨rfl, hba.trans (hb15.mono hba.size)⟩
      · go_wp2_with fail
        refine (awake_any _).mono ?_
        rintro e w15 ⟨rfl, hb15⟩
        go_wp2_with fail
        go_ret
        have hba := HB14.out.alloc HB14.out.size (.cells #[.int .i64 lu, .int .i64 lp] 26)
        exact ⟨rfl, hba.trans (hb15.mono hba.size)⟩
  · have q2 : n ≤ m := by omega
    have q3 : x ≤ p := hnm.1 q2
    clear hnm
    go_wp2_with fail
    generalize hW : World.alloc w10 _ = w11
    obtain ⟨hRf, hb11⟩ := rd_one hW
    have HR11 := Lib.hid (HR10.out.next hb11)
    have HB11 := Lib.hid (HB10.out.trans (hb11.mono HB10.out.size))
    generalize w10.heap.size = bf at hRf ⊢
    have HF11 := Lib.hid hRf
    clear hW hb11 hRf e1 e2
    refine (costG_any (some ⟨bf, 0, none⟩) 1 [(su, sp)] n w11 HF11.out (by simp) HS0.out n0 (by omega)).mono ?_
    rintro e w12 ⟨rfl, hb12⟩
    have HR12 := Lib.hid (HR11.out.next hb12)
    have HB12 := Lib.hid (HB11.out.trans (hb12.mono HB11.out.size))
    have HF12 := Lib.hid (HF11.out.next hb12)
    clear hb12 HF11 HR11
    obtain ⟨fa, HFA, fa0, fa1⟩ : ∃ a, Hid (costF [(su, sp)] n = a) ∧ 0 ≤ a ∧ a ≤ 1000000 := ⟨_, rfl, costF_bd _ HS0.out n n0 (by omega)⟩
    rw [HFA.out]
    go_wp2_with fail
    refine (costG_any (some ⟨bf, 0, none⟩) 1 [(su, sp)] (n / 3) w12 HF12.out (by simp) HS0.out (by omega) (by omega)).mono ?_
    rintro e w13 ⟨rfl, hb13⟩
    have HR13 := Lib.hid (HR12.out.next hb13)
    have HB13 := Lib.hid (HB12.out.trans (hb13.mono HB12.out.size))
    have HF13 := Lib.hid (HF12.out.next hb13)
    clear hb13 HF12 HR12
    obtain ⟨fb, HFB, fb0, fb1⟩ : ∃ a, Hid (costF [(su, sp)] (n / 3) = a) ∧ 0 ≤ a ∧ a ≤ 1000000 := ⟨_, rfl, costF_bd _ HS0.out (n / 3) (by omega) (by omega)⟩
    rw [HFB.out]
    go_wp2_with fail
    refine (costG_any (some ⟨bf, 0, none⟩) 1 [(su, sp)] (n - n / 3) w13 HF13.out (by simp) HS0.out (by omega) (by omega)).mono ?_
    rintro e w14 ⟨rfl, hb14⟩
    have HR14 := Lib.hid (HR13.out.next hb14)
    have HB14 := Lib.hid (HB13.out.trans (hb14.mono HB13.out.size))
    clear hb14 HF13 HR13
    obtain ⟨fc, HFC, fc0, fc1⟩ : ∃ a, Hid (costF [(su, sp)] (n - n / 3) = a) ∧ 0 ≤ a ∧ a ≤ 1000000 := ⟨_, rfl, costF_bd _ HS0.out (n - n / 3) (by omega) (by omega)⟩
    rw [HFC.out]
    obtain ⟨fs1, fs2⟩ := flat_split (su, sp) n n0
    rw [HFA.out, HFB.out, HFC.out] at fs1 fs2
    have fd1 : decide (fb + fc < fa) = false := decide_eq_false (by omega)
    have fd2 : decide (fa + 1 < fb + fc) = false := decide_eq_false (by omega)
    obtain ⟨mm, hmm⟩ : ∃ k, t.length = k + 1 := ⟨t.length - 1, by omega⟩
    obtain ⟨e3, e4⟩ := HR14.out.pair' (k := mm) (by omega)
    have hg0 : t[mm] = t.getD mm (0, 0) := by simp [List.getD_eq_getElem?_getD, List.getElem?_eq_getElem (show mm < t.length by omega)]
    rw [hg0] at e3 e4
    have hix : (t.length : Int) - 1 = (mm : Int) := by omega
    have hml : mm < t.length := by omega
    have HMM := Lib.hid hmm
    clear hg0 hmm
    obtain ⟨ls, HLS⟩ : ∃ ls, Hid (t.getD mm (0, 0) = ls) := ⟨_, rfl⟩
    rw [HLS.out] at e3 e4
    obtain ⟨lu, lp⟩ := ls
    by_cases q5 : t.length < 4
    · by_cases q6 : n ≤ lu
      · go_wp2_with fail
        obtain ⟨W, hW⟩ : ∃ x, x = w14.alloc (.cells #[.int .i64 lu, .int .i64 lp] 26) := ⟨_, rfl⟩
        rw [← hW]
        have x0 : W.cell? ⟨w14.heap.size, 0, none⟩ = some (.int .i64 lu) := by rw [hW]; simp
        have r0 : w14.heap.size < W.heap.size := by rw [hW]; simp
        have bW : Below w14.heap.size w14 W := by rw [hW]; go_grown
        have HBW := Lib.hid (HB14.out.trans (bW.mono HB14.out.size))
        have HRW := Lib.hid (HR14.out.next bW)
        have HUP := Lib.hid (HMT.out.up mm (by omega))
        rw [HLS.out] at HUP
        have h4 : mm ≤ 2 := by omega
        have hlu : 1 ≤ lu ∧ lu ≤ 3600 := by have h := HUP.out; simp only at h; omega
        obtain ⟨hlu0, hlu1⟩ := hlu
        clear hW bW e3 e4
        have HCP : Hid (∀ w', Below W.heap.size W w' → Calls Try.prog 17 #[.slice (some ⟨bA, oA, none⟩) t.length cA] w' (RetOwn 26 2 t.length (pairs t) w')) := fun w' h => copyStep_any _ _ _ _ (HRW.out.next h) (by omega)
        obtain ⟨i0, hi, hz0, hz1, hz2⟩ := info_parts infoStep
        have hMK := made_more HMT.out HMM.out q5
        rw [HLS.out] at hMK
        have hCA := costF_app t (lu + 7, 500) n HMM.out (by rw [HLS.out]; exact q6)
        rw [HX.out] at hCA
        have HCO : Hid (∀ (g cp : Nat) (w' : World), w'.ownsRow W.heap.size 26 2 (.slice (some ⟨g, 0, none⟩) (t.length + 1) cp) (t.length + 1) (pairs t ++ [.int .i64 (lu + 7), .int .i64 500]) → Calls Try.prog 21 #[.slice (some ⟨g, 0, none⟩) (t.length + 1) cp, .int .i64 n] w' fun e w'' => e = .returned (.tuple #[.int .i64 x, .int .i64 0]) ∧ Below w'.heap.size w' w'') := costMore_any hMK hCA n0 (by omega)
        clear hMK hCA
        have q7 : IntKind.i64.wrap (lu + 7) = lu + 7 := IntWalk.i64_in _ (by omega)
        go_region_held3 (fun w' => w'.cell? ⟨w14.heap.size, 0, none⟩ = some (.int .i64 lu) ∧ Below W.heap.size W w')
          (first | exact ⟨x0, (Below.refl _ _).drew⟩ | exact keep1 r0 (by assumption) (by assumption) | exact keep1 r0 (by assumption) (below_new _ _) | exact S8 | exact keep1 r0 S8 (by assumption))
          (first
            | (go_at_call 17; refine (HCP.out _ (And.right (by assumption))).mono ?_; rintro e wc ⟨v, rfl, hown, hbc⟩; have HOC := Lib.hid (hown.base_ (base' := W.heap.size) (Below.size (And.right (by assumption)))); obtain ⟨B1, cb1, rfl, _, _⟩ := own_slice hown; clear hown)
            | ((first
                | (refine step_append_lies _ (by rfl) _ _ _ (by rfl) W.heap.size 26 i0 _ 2 16 Try.underlying22 hi hz0 hz1 hz2 rfl (by omega) _ t.length (pairs t) (by rfl) (HOC.out.alloc _) ⟨wc.heap.size, 0, none⟩ 1 1 [.int .i64 (lu + 7), .int .i64 500] (by rfl) rfl (news_new _ _ _ rfl) (by simp [Value.oneCell']) (by omega) (by simp only [maxLen]; omega) (by omega) (Below.size (And.right (by assumption))) _ rfl ?_)
                | (refine step_append_lies _ (by rfl) _ _ _ (by rfl) W.heap.size 26 i0 _ 2 16 Try.underlying22 hi hz0 hz1 hz2 rfl (by omega) _ t.length (pairs t) (by rfl) HOC.out ⟨W.drew.heap.size, 0, none⟩ 1 1 [.int .i64 (lu + 7), .int .i64 500] (by rfl) rfl (news_kept hbc (by simp) (news_new W.drew [.int .i64 (lu + 7), .int .i64 500] _ rfl)) (by simp [Value.oneCell']) (by omega) (by simp only [maxLen]; omega) (by omega) (Below.size (And.right (by assumption))) _ rfl ?_)); intro gg cap w8 hown1 hgrow1 hat hlt8; have b8 := Below.grown (And.right (by assumption)) hgrow1 (Below.size (And.right (by assumption))) (fun k hk => (HOC.out.lt k hk).1); have S8 : w8.cell? ⟨w14.heap.size, 0, none⟩ = some (.int .i64 lu) ∧ Below W.heap.size W w8 := ⟨(b8.cell (p := ⟨w14.heap.size, 0, none⟩) r0).trans x0, b8⟩; have HO8 := Lib.hid hown1; clear hown1 hgrow1 hat hlt8)
            | (go_at_call 21; refine (HCO.out _ _ _ HO8.out).mono ?_; rintro e w9 ⟨rfl, hb9⟩))
        all_goals
          clear q7
          have hxx : decide (x = x) = true := decide_eq_true rfl
          have HB9 := Lib.hid (HBW.out.trans (Below.mono (And.right (by assumption)) HBW.out.size))
          go_wp2_with fail
          refine (awake_any _).mono ?_
          rintro e w15 ⟨rfl, hb15⟩
          go_wp2_with fail
          go_ret
          exact ⟨rfl, HB9.out.trans (hb15.mono HB9.out.size)⟩
      · go_wp2_with fail
        refine (awake_any _).mono ?_
        rintro e w15 ⟨rfl, hb15⟩
        go_wp2_with fail
        go_ret
        have hba := HB14.out.alloc HB14.out.size (.cells #[.int .i64 lu, .int .i64 lp] 26)
        exact ⟨rfl, hba.trans (hb15.mono hba.size)⟩
    · go_wp2_with fail
      refine (awake_any _).mono ?_
      rintro e w15 ⟨rfl, hb15⟩
      go_wp2_with fail
      go_ret
      have hba := HB14.out.alloc HB14.out.size (.cells #[.int .i64 lu, .int .i64 lp] 26)
      exact ⟨rfl, hba.trans (hb15.mono hba.size)⟩
end Go.Proofs.Ytfojjecnmfkcfaa
