/- FeeEarlier returns true, whatever the numbers and the day; what is passed in reads as it did. No condition. -/
import Derived.Test.YtfojjecnmfkcfaaP22
import Derived.Test.YtfojjecnmfkcfaaP23
import Derived.Test.YtfojjecnmfkcfaaP17
import Derived.Deep.DeepCutAuto
namespace Go.Proofs.Ytfojjecnmfkcfaa
open Go.RowKit
set_option linter.unusedVariables false
/-- The first k days are later. -/
def shK (cs : List (Int × Int)) (b : Int) (k : Nat) : List (Int × Int) := shiftD (cs.take k) b ++ cs.drop k
theorem shK_length (cs : List (Int × Int)) (b : Int) {k : Nat} (hk : k ≤ cs.length) : (shK cs b k).length = cs.length := by
  unfold shK; rw [List.length_append, shiftD_length, List.length_take, List.length_drop]; omega
theorem shK_zero (cs : List (Int × Int)) (b : Int) : shK cs b 0 = cs := rfl
theorem shK_all (cs : List (Int × Int)) (b : Int) : shK cs b cs.length = shiftD cs b := by unfold shK; rw [List.take_length, List.drop_length, List.append_nil]
theorem shK_get (cs : List (Int × Int)) (b : Int) {k : Nat} (hk : k < cs.length) : (shK cs b k)[k]'(by rw [shK_length cs b (by omega)]; exact hk) = cs[k] := by
  have h1 : (shiftD (cs.take k) b).length = k := by rw [shiftD_length, List.length_take]; omega
  unfold shK
  rw [List.getElem_append_right (by omega)]
  simp [h1]
theorem shK_set (cs : List (Int × Int)) (b : Int) {k : Nat} (hk : k < cs.length) : (shK cs b k).set k (cs[k].1 + b, cs[k].2) = shK cs b (k + 1) := by
  have h1 : (shiftD (cs.take k) b).length = k := by rw [shiftD_length, List.length_take]; omega
  unfold shK
  rw [List.set_append_right _ _ (by omega), h1, Nat.sub_self, List.drop_eq_getElem_cons hk, List.set_cons_zero, List.take_succ_eq_append_getElem hk]
  unfold shiftD
  rw [List.map_append, List.append_assoc]
  rfl
theorem take_max {cs : List (Int × Int)} {k : Nat} {last m : Int} (hk : k < cs.length) (h : ∀ e ∈ cs.take k, e.1 ≤ last) (h1 : last ≤ m) (h2 : cs[k].1 ≤ m) : ∀ e ∈ cs.take (k + 1), e.1 ≤ m := by
  intro e he
  rw [List.take_succ_eq_append_getElem hk] at he
  rcases List.mem_append.1 he with h3 | h3
  · have := h e h3; omega
  · simp at h3; subst h3; exact h2
theorem payDay_in {ps : List (Int × Int)} {all c : Int} (hc : 0 ≤ c ∧ c ≤ 400) : ∀ {l : List (Int × Int)}, (∀ e ∈ l, e.1 ≤ 400) → -1 ≤ payDay ps all c l ∧ payDay ps all c l ≤ 400
  | [], _ => by simp [payDay]
  | p :: l, h => by
    simp only [payDay]
    split
    · have := h p List.mem_cons_self; omega
    · exact payDay_in hc fun e he => h e (List.mem_cons_of_mem _ he)
theorem paidC_in {cs : List (Int × Int)} {m : Int} (h : ∀ e ∈ cs, 0 ≤ e.1 ∧ e.1 ≤ m) {i : Nat} (hi : i < cs.length) : 0 ≤ (cs.getD i (0, 0)).1 ∧ (cs.getD i (0, 0)).1 ≤ m := by
  have hgd : cs.getD i (0, 0) = cs[i] := by simp [List.getD_eq_getElem?_getD, List.getElem?_eq_getElem hi]
  rw [hgd]; exact h _ (List.getElem_mem _)
set_option maxRecDepth 100000 in
set_option maxHeartbeats 16000000 in
theorem feeEarlier_walk (A1 : Option Addr) (c1 : Nat) (zs1 : List Int) (A2 : Option Addr) (c2 : Nat) (zs2 : List Int) (when_ : Int) (w : World) (h1 : Bytes w A1 zs1) (h2 : Bytes w A2 zs2) :
    Calls Try.prog 9 #[.slice A1 zs1.length c1, .slice A2 zs2.length c2, .int .i64 when_] w fun e w' => e = .returned (.bool true) ∧ Below w.heap.size w w' := by
  go_enter Try.func9, Try.ntmps9
  go_wp2_with fail
  refine (fill_any A1 c1 zs1 w h1).mono ?_
  rintro e w1 ⟨g1, rfl, hg1, hC1, hb1⟩
  go_wp2_with fail
  refine (madeAccount_any g1 A1 c1 zs1 5 5 w1 ⟨_, _, hC1⟩ (by omega) (by omega)).mono ?_
  rintro e w2 ⟨gr, la, cs, ps, v, u, x, y, rfl, hgr, hla, hcl, hpl, hEC, hEP, hov, hou, hC2, hg2⟩
  obtain ⟨A, cA, rfl, hEA⟩ := ent_of_own hov
  obtain ⟨B, cB, rfl, hEB⟩ := ent_of_own hou
  have hAcc : Acc w2 A B cA cB cs ps gr la := ⟨hEA, hEB, made_acc hgr hla (by omega) (by omega) hEC hEP⟩
  have b2 : Below w.heap.size w w2 := hb1.grown hg2 hb1.size (fun k hk => by injection hk; omega)
  obtain ⟨W, hW⟩ : ∃ W, W = w2.alloc (.cells #[.slice A cs.length cA, .slice B ps.length cB, .int .i64 gr, .int .i64 la] 76) := ⟨_, rfl⟩
  have nw := news_new w2 [.slice A cs.length cA, .slice B ps.length cB, .int .i64 gr, .int .i64 la] 76 rfl
  have hbw := below_new w2 (.cells #[.slice A cs.length cA, .slice B ps.length cB, .int .i64 gr, .int .i64 la] 76)
  have hlb : w2.heap.size < W.heap.size := by rw [hW]; simp
  have x0 : W.cell? ⟨w2.heap.size, 0, none⟩ = some (.slice A cs.length cA) := by rw [hW]; exact nw 0 _ rfl
  have x1 : W.cell? ⟨w2.heap.size, 1, none⟩ = some (.slice B ps.length cB) := by rw [hW]; exact nw 1 _ rfl
  have x2 : W.cell? ⟨w2.heap.size, 2, none⟩ = some (.int .i64 gr) := by rw [hW]; exact nw 2 _ rfl
  have x3 : W.cell? ⟨w2.heap.size, 3, none⟩ = some (.int .i64 la) := by rw [hW]; exact nw 3 _ rfl
  have HA : Hid (Acc W A B cA cB cs ps gr la) := by rw [hW]; exact hAcc.next hbw
  have HB : Hid (Below w.heap.size w W) := by rw [hW]; exact b2.trans (hbw.mono b2.size)
  have HEC := Lib.hid hEC
  have HEP := Lib.hid hEP
  have HB2 := Lib.hid (h2.next HB.out)
  clear nw hbw b2 hAcc hEA hEB hov hou hC1 hC2 hg1 hg2 hb1 h1 hEC hEP h2
  go_wp2_with fail
  rw [← hW]
  generalize w2.heap.size = b at x0 x1 x2 x3 hlb ⊢
  clear hW
  refine (fill_any A2 c2 zs2 W HB2.out).mono ?_
  rintro e w3 ⟨g, rfl, hgW, hC3, hb3⟩
  have HC3 : Hid (ChE w3 g A2 c2 zs2) := ⟨_, _, hC3⟩
  have HB3 := Lib.hid hb3
  clear hb3 hC3 HB2
  go_wp2_with fail
  refine (wrapV_any when_ 140 w3 (by omega) (by omega)).mono ?_
  rintro e w4 ⟨rfl, rfl⟩
  obtain ⟨day0, day1⟩ := wrapV_bd when_ 140 (by omega)
  generalize wrapV when_ 140 = day at day0 day1 ⊢
  go_upto_region 4 with fail
  go_cut [10, 11, 12, 13] from 50 to 57 (fun s10 s11 s12 s13 wx => ∃ (b1 b2 b3 b4 : Nat) (v1 u1 v2 u2 v3 u3 v4 u4 : Value), s10 = .pointer (some ⟨b1, 0, none⟩) ∧ s11 = .pointer (some ⟨b2, 0, none⟩) ∧ s12 = .pointer (some ⟨b3, 0, none⟩) ∧ s13 = .pointer (some ⟨b4, 0, none⟩) ∧
    Hid (Q4 W (AT b1 v1 u1) (AT b2 v2 u2) (AT b3 v3 u3) (AT b4 v4 u4) (AV b1 gr la cs ps v1 u1) (AV b2 gr la cs ps v2 u2) (AV b3 gr la cs ps v3 u3) (AV b4 gr la cs ps v4 u4) g A2 c2 zs2 wx))
  case first =>
    have HAr := Lib.hid (HA.out.next HB3.out)
    have y0 := HB3.out.at_ hlb x0
    have y1 := HB3.out.at_ hlb x1
    have y2 := HB3.out.at_ hlb x2
    have y3 := HB3.out.at_ hlb x3
    have hl3 := Nat.lt_of_lt_of_le hlb HB3.out.size
    have hgl := HC3.out.lt
    refine wp_makers 12 (by kernel_rfl) (by kernel_rfl) (by kernel_rfl) (by decide) (FFour (.agg #[.slice A cs.length cA, .slice B ps.length cB, .int .i64 gr, .int .i64 la]) gr la cs ps) FFour.keep ?_ ?_
    · intro i o hi ho listed vals lo hi' a w5 hdep hM hb hBs hAt K hK
      have d0 := hb.at_ hl3 y0
      have d1 := hb.at_ hl3 y1
      have d2 := hb.at_ hl3 y2
      have d3 := hb.at_ hl3 y3
      have hz5 : b < w5.heap.size := Nat.lt_of_lt_of_le hl3 hb.size
      obtain ⟨e7, e7'⟩ := hAt.slot 7 (by kernel_rfl) (by rfl)
      match i, hi with
      | 0, _ =>
        injection ho with ho
        subst ho
        go_simp
        exact hK _ w5 (Below.refl _ _) rfl
      | 1, _ =>
        injection ho with ho
        subst ho
        have l0 := hdep ⟨0, .data⟩ (by simp) rfl
        obtain ⟨e5, e5'⟩ := hAt.dep 0 (d := 50) (by omega) l0 (by rfl) (hM.fact 0 (by omega) l0)
        go_simp
        refine (ownAcc_any A B cA cB cs ps gr la w5 (HAr.out.next hb).ea (HAr.out.next hb).eb (by have := HA.out.ok.clen; omega) (by have := HA.out.ok.plen; omega)).mono ?_
        rintro e w6 ⟨v', u', rfl, o1, o2, hap, hbo⟩
        exact hK _ w6 hbo ⟨v', u', rfl, ⟨o1, fun k hk => o1.lt k hk⟩, ⟨o2, fun k hk => o2.lt k hk⟩, hap⟩
      | 2, _ =>
        injection ho with ho
        subst ho
        go_simp
        exact hK _ w5 (Below.refl _ _) rfl
      | 3, _ =>
        injection ho with ho
        subst ho
        have l0 := hdep ⟨2, .data⟩ (by simp) rfl
        obtain ⟨e5, e5'⟩ := hAt.dep 2 (d := 52) (by omega) l0 (by rfl) (hM.fact 2 (by omega) l0)
        go_simp
        refine (ownAcc_any A B cA cB cs ps gr la w5 (HAr.out.next hb).ea (HAr.out.next hb).eb (by have := HA.out.ok.clen; omega) (by have := HA.out.ok.plen; omega)).mono ?_
        rintro e w6 ⟨v', u', rfl, o1, o2, hap, hbo⟩
        exact hK _ w6 hbo ⟨v', u', rfl, ⟨o1, fun k hk => o1.lt k hk⟩, ⟨o2, fun k hk => o2.lt k hk⟩, hap⟩
      | 4, _ =>
        injection ho with ho
        subst ho
        go_simp
        exact hK _ w5 (Below.refl _ _) rfl
      | 5, _ =>
        injection ho with ho
        subst ho
        have l0 := hdep ⟨4, .data⟩ (by simp) rfl
        obtain ⟨e5, e5'⟩ := hAt.dep 4 (d := 54) (by omega) l0 (by rfl) (hM.fact 4 (by omega) l0)
        go_simp
        refine (ownAcc_any A B cA cB cs ps gr la w5 (HAr.out.next hb).ea (HAr.out.next hb).eb (by have := HA.out.ok.clen; omega) (by have := HA.out.ok.plen; omega)).mono ?_
        rintro e w6 ⟨v', u', rfl, o1, o2, hap, hbo⟩
        exact hK _ w6 hbo ⟨v', u', rfl, ⟨o1, fun k hk => o1.lt k hk⟩, ⟨o2, fun k hk => o2.lt k hk⟩, hap⟩
      | 6, _ =>
        injection ho with ho
        subst ho
        go_simp
        exact hK _ w5 (Below.refl _ _) rfl
      | 7, _ =>
        injection ho with ho
        subst ho
        have l0 := hdep ⟨6, .data⟩ (by simp) rfl
        obtain ⟨e5, e5'⟩ := hAt.dep 6 (d := 56) (by omega) l0 (by rfl) (hM.fact 6 (by omega) l0)
        go_simp
        refine (ownAcc_any A B cA cB cs ps gr la w5 (HAr.out.next hb).ea (HAr.out.next hb).eb (by have := HA.out.ok.clen; omega) (by have := HA.out.ok.plen; omega)).mono ?_
        rintro e w6 ⟨v', u', rfl, o1, o2, hap, hbo⟩
        exact hK _ w6 hbo ⟨v', u', rfl, ⟨o1, fun k hk => o1.lt k hk⟩, ⟨o2, fun k hk => o2.lt k hk⟩, hap⟩
      | 8, _ =>
        injection ho with ho
        subst ho
        go_simp
        exact hK _ _ (below_new _ _) ⟨rfl, by simp, heap_alloc_new _ _⟩
      | 9, _ =>
        injection ho with ho
        subst ho
        go_simp
        exact hK _ _ (below_new _ _) ⟨rfl, by simp, heap_alloc_new _ _⟩
      | 10, _ =>
        injection ho with ho
        subst ho
        go_simp
        exact hK _ _ (below_new _ _) ⟨rfl, by simp, heap_alloc_new _ _⟩
      | 11, _ =>
        injection ho with ho
        subst ho
        go_simp
        exact hK _ _ (below_new _ _) ⟨rfl, by simp, heap_alloc_new _ _⟩
    · intro vals lo hi w5 hM hb
      have hl : ∀ i, i < 12 → (maskOf 16 12).getD i false = true := by decide
      have ap := fun i j (hi : i < 12) (hj : j < 12) (hne : i ≠ j) => hM.apart i j hi hj hne (hl i hi) (hl j hj)
      have ge := fun i (hi : i < 12) => hM.ge i hi (hl i hi)
      have f0 : vals 0 = _ := hM.fact 0 (by omega) (hl 0 (by omega))
      have f2 : vals 2 = _ := hM.fact 2 (by omega) (hl 2 (by omega))
      have f4 : vals 4 = _ := hM.fact 4 (by omega) (hl 4 (by omega))
      have f6 : vals 6 = _ := hM.fact 6 (by omega) (hl 6 (by omega))
      obtain ⟨v1, u1, f1, f8, P1, t1⟩ := ap_of (hM.fact 1 (by omega) (hl 1 (by omega))) (hM.fact 8 (by omega) (hl 8 (by omega))) (ap 1 8 (by omega) (by omega) (by omega)) (ge 8 (by omega)).2.2
      obtain ⟨v2, u2, f3, f9, P2, t2⟩ := ap_of (hM.fact 3 (by omega) (hl 3 (by omega))) (hM.fact 9 (by omega) (hl 9 (by omega))) (ap 3 9 (by omega) (by omega) (by omega)) (ge 9 (by omega)).2.2
      obtain ⟨v3, u3, f5, f10, P3, t3⟩ := ap_of (hM.fact 5 (by omega) (hl 5 (by omega))) (hM.fact 10 (by omega) (hl 10 (by omega))) (ap 5 10 (by omega) (by omega) (by omega)) (ge 10 (by omega)).2.2
      obtain ⟨v4, u4, f7, f11, P4, t4⟩ := ap_of (hM.fact 7 (by omega) (hl 7 (by omega))) (hM.fact 11 (by omega) (hl 11 (by omega))) (ap 7 11 (by omega) (by omega) (by omega)) (ge 11 (by omega)).2.2
      have hQ : Q4 W (AT (lo 8) v1 u1) (AT (lo 9) v2 u2) (AT (lo 10) v3 u3) (AT (lo 11) v4 u4) (AP (lo 8) cs ps v1 u1) (AP (lo 9) cs ps v2 u2) (AP (lo 10) cs ps v3 u3) (AP (lo 11) cs ps v4 u4) g A2 c2 zs2 w5 :=
        ⟨P1.keeps, P2.keeps, P3.keeps, P4.keeps, (dis_of t1 t2 (ap 1 3 (by omega) (by omega) (by omega)) (ap 1 9 (by omega) (by omega) (by omega)) (ap 8 3 (by omega) (by omega) (by omega)) (ap 8 9 (by omega) (by omega) (by omega))), (dis_of t1 t3 (ap 1 5 (by omega) (by omega) (by omega)) (ap 1 10 (by omega) (by omega) (by omega)) (ap 8 5 (by omega) (by omega) (by omega)) (ap 8 10 (by omega) (by omega) (by omega))), (dis_of t1 t4 (ap 1 7 (by omega) (by omega) (by omega)) (ap 1 11 (by omega) (by omega) (by omega)) (ap 8 7 (by omega) (by omega) (by omega)) (ap 8 11 (by omega) (by omega) (by omega))), (dis_of t2 t3 (ap 3 5 (by omega) (by omega) (by omega)) (ap 3 10 (by omega) (by omega) (by omega)) (ap 9 5 (by omega) (by omega) (by omega)) (ap 9 10 (by omega) (by omega) (by omega))), (dis_of t2 t4 (ap 3 7 (by omega) (by omega) (by omega)) (ap 3 11 (by omega) (by omega) (by omega)) (ap 9 7 (by omega) (by omega) (by omega)) (ap 9 11 (by omega) (by omega) (by omega))), (dis_of t3 t4 (ap 5 7 (by omega) (by omega) (by omega)) (ap 5 11 (by omega) (by omega) (by omega)) (ap 10 7 (by omega) (by omega) (by omega)) (ap 10 11 (by omega) (by omega) (by omega))), (fun k t => by have := t1 k t; have := (ge 1 (by omega)).1; have := (ge 8 (by omega)).1; omega), (fun k t => by have := t2 k t; have := (ge 3 (by omega)).1; have := (ge 9 (by omega)).1; omega), (fun k t => by have := t3 k t; have := (ge 5 (by omega)).1; have := (ge 10 (by omega)).1; omega), (fun k t => by have := t4 k t; have := (ge 7 (by omega)).1; have := (ge 11 (by omega)).1; omega), HC3.out.below hb, hgW, HB3.out.trans (hb.mono HB3.out.size)⟩
      have HQ := Lib.hid hQ
      obtain ⟨V1, cv1, rfl, _, _⟩ := own_slice P1.ov
      obtain ⟨U1, cu1, rfl, _, _⟩ := own_slice P1.ou
      obtain ⟨V2, cv2, rfl, _, _⟩ := own_slice P2.ov
      obtain ⟨U2, cu2, rfl, _, _⟩ := own_slice P2.ou
      obtain ⟨V3, cv3, rfl, _, _⟩ := own_slice P3.ov
      obtain ⟨U3, cu3, rfl, _, _⟩ := own_slice P3.ou
      obtain ⟨V4, cv4, rfl, _, _⟩ := own_slice P4.ov
      obtain ⟨U4, cu4, rfl, _, _⟩ := own_slice P4.ou
      clear hM hb ap ge hl hQ P1 P2 P3 P4 t1 t2 t3 t4 y0 y1 y2 y3
      simp only [putAll, List.range, List.range.loop, List.foldl_cons, List.foldl_nil, f0, f1, f2, f3, f4, f5, f6, f7, f8, f9, f10, f11]
      clear f0 f1 f2 f3 f4 f5 f6 f7 f8 f9 f10 f11
      generalize lo 8 = q1 at HQ ⊢
      generalize lo 9 = q2 at HQ ⊢
      generalize lo 10 = q3 at HQ ⊢
      generalize lo 11 = q4 at HQ ⊢
      change wpAny _ _ _ _ _ _ (Act.put (Act.put (Act.put (Act.put (Act.put (Act.put (Act.put (Act.put (Act.put (Act.put (Act.put (Act.put _ (some 50) _) (some 51) _) (some 52) _) (some 53) _) (some 54) _) (some 55) _) (some 56) _) (some 57) _) (some 10) _) (some 11) _) (some 12) _) (some 13) _) _
      simp only [Act.put, List.setIfInBounds_toArray, List.set_cons_zero, List.set_cons_succ]
      have hk := HQ.out.k1.now
      obtain ⟨z0, c0⟩ := hk.ex 0 (by omega)
      obtain ⟨z1, c1'⟩ := hk.ex 1 (by omega)
      obtain ⟨z2, c2'⟩ := hk.ex 2 (by omega)
      obtain ⟨z3, c3⟩ := hk.ex 3 (by omega)
      have e0 := hk.bf 0
      have e1 := hk.bf 1
      have e2 := hk.bf 2
      have e3 := hk.bf 3
      have lq := hk.lt
      clear hk
      refine tail_step 12 _ (by kernel_rfl) rfl rfl (fun K' hK => ?_)
      go_simp
      refine hK _ _ ?_
      clear hK K' c0 c1' c2' c3 e0 e1 e2 e3 lq z0 z1 z2 z3
      have HQ1 := Lib.hid ((HQ.out.store (g := gr) (l := la)).rot)
      unfold put4 at HQ1
      generalize World.setCell (World.setCell (World.setCell (World.setCell w5 _ _) _ _) _ _) _ _ = X1 at HQ1 ⊢
      clear HQ
      have hk := HQ1.out.k1.now
      obtain ⟨z0, c0⟩ := hk.ex 0 (by omega)
      obtain ⟨z1, c1'⟩ := hk.ex 1 (by omega)
      obtain ⟨z2, c2'⟩ := hk.ex 2 (by omega)
      obtain ⟨z3, c3⟩ := hk.ex 3 (by omega)
      have e0 := hk.bf 0
      have e1 := hk.bf 1
      have e2 := hk.bf 2
      have e3 := hk.bf 3
      have lq := hk.lt
      clear hk
      refine tail_step 13 _ (by kernel_rfl) rfl rfl (fun K' hK => ?_)
      go_simp
      refine hK _ _ ?_
      clear hK K' c0 c1' c2' c3 e0 e1 e2 e3 lq z0 z1 z2 z3
      have HQ2 := Lib.hid ((HQ1.out.store (g := gr) (l := la)).rot)
      unfold put4 at HQ2
      generalize World.setCell (World.setCell (World.setCell (World.setCell X1 _ _) _ _) _ _) _ _ = X2 at HQ2 ⊢
      clear HQ1
      have hk := HQ2.out.k1.now
      obtain ⟨z0, c0⟩ := hk.ex 0 (by omega)
      obtain ⟨z1, c1'⟩ := hk.ex 1 (by omega)
      obtain ⟨z2, c2'⟩ := hk.ex 2 (by omega)
      obtain ⟨z3, c3⟩ := hk.ex 3 (by omega)
      have e0 := hk.bf 0
      have e1 := hk.bf 1
      have e2 := hk.bf 2
      have e3 := hk.bf 3
      have lq := hk.lt
      clear hk
      refine tail_step 14 _ (by kernel_rfl) rfl rfl (fun K' hK => ?_)
      go_simp
      refine hK _ _ ?_
      clear hK K' c0 c1' c2' c3 e0 e1 e2 e3 lq z0 z1 z2 z3
      have HQ3 := Lib.hid ((HQ2.out.store (g := gr) (l := la)).rot)
      unfold put4 at HQ3
      generalize World.setCell (World.setCell (World.setCell (World.setCell X2 _ _) _ _) _ _) _ _ = X3 at HQ3 ⊢
      clear HQ2
      have hk := HQ3.out.k1.now
      obtain ⟨z0, c0⟩ := hk.ex 0 (by omega)
      obtain ⟨z1, c1'⟩ := hk.ex 1 (by omega)
      obtain ⟨z2, c2'⟩ := hk.ex 2 (by omega)
      obtain ⟨z3, c3⟩ := hk.ex 3 (by omega)
      have e0 := hk.bf 0
      have e1 := hk.bf 1
      have e2 := hk.bf 2
      have e3 := hk.bf 3
      have lq := hk.lt
      clear hk
      refine tail_step 15 _ (by kernel_rfl) rfl rfl (fun K' hK => ?_)
      go_simp
      refine hK _ _ ?_
      clear hK K' c0 c1' c2' c3 e0 e1 e2 e3 lq z0 z1 z2 z3
      have HQ4 := Lib.hid ((HQ3.out.store (g := gr) (l := la)).rot)
      unfold put4 at HQ4
      generalize World.setCell (World.setCell (World.setCell (World.setCell X3 _ _) _ _) _ _) _ _ = X4 at HQ4 ⊢
      clear HQ3
      refine wpAny_done (by kernel_rfl) ?_ _
      go_wp2_with fail
      go_meet
      case rel => exact ⟨q1, q2, q3, q4, _, _, _, _, _, _, _, _, rfl, rfl, rfl, rfl, HQ4⟩
  case rest =>
    obtain ⟨b1, b2, b3, b4, v1, u1, v2, u2, v3, u3, v4, u4, rfl, rfl, rfl, rfl, HQ⟩ := hcut
    obtain ⟨i0, hi0, hz0, hz1, hz2⟩ := info_parts infoEntry
    have hcl8 := HA.out.ok.clen
    have hpl8 := HA.out.ok.plen
    have HCL := Lib.hid hcl
    have HPL := Lib.hid hpl
    clear hcl hpl
    clear HC3
    go_wp2_with fail
    go_upto_region 5 with fail
    have HCUT : True := trivial
    refine wp_inv 8 (by kernel_rfl) (by kernel_rfl) (by kernel_rfl) (by decide) (FL [PEq (.pointer (some ⟨b1, 1, none⟩)), PEq u1, PEq (.pointer (some ⟨g, 0, none⟩)), PNum 0 119, PEq (.pointer (some ⟨g, 0, none⟩)), PNum 1 60, PEnt 0 119 1 60, PSl g 0 119 1 60])
      (fun x => Q4 W (AT b1 v1 u1) (AT b2 v2 u2) (AT b3 v3 u3) (AT b4 v4 u4) (AV b1 gr la cs ps v1 u1) (AV b2 gr la cs ps v2 u2) (AV b3 gr la cs ps v3 u3) (AV b4 gr la cs ps v4 u4) g A2 c2 zs2 x) (fun x y => x.grownBy y (some g)) (FL.keep (by simp [stb_eq, stb_num, stb_ent, stb_sl])) HQ.out.drew ?_ ?_
    · intro i o hi' ho listed vals a w5 hdep hM hAt K hK
      have HI := Lib.hid hM.inv
      have gr0 := Lib.hid (grownBy_self w5 (some g))
      obtain ⟨e10, e10'⟩ := hAt.slot 10 (by kernel_rfl) (by rfl)
      obtain ⟨e8, e8'⟩ := hAt.slot 8 (by kernel_rfl) (by rfl)
      match i, hi' with
      | 0, _ =>
        injection ho with ho
        subst ho
        go_simp
        exact hK _ w5 gr0.out HI.out rfl
      | 1, _ =>
        injection ho with ho
        subst ho
        have l0 := hdep ⟨0, .data⟩ (by simp) rfl
        obtain ⟨e5, e5'⟩ := hAt.dep 0 (d := 58) (by omega) l0 (by rfl) (hM.fact 0 (by omega) l0)
        have c0 := HI.out.k1.now.b1
        go_simp
        exact hK _ w5 gr0.out HI.out rfl
      | 2, _ =>
        injection ho with ho
        subst ho
        go_simp
        exact hK _ w5 gr0.out HI.out rfl
      | 3, _ =>
        injection ho with ho
        subst ho
        have l0 := hdep ⟨2, .data⟩ (by simp) rfl
        obtain ⟨e5, e5'⟩ := hAt.dep 2 (d := 60) (by omega) l0 (by rfl) (hM.fact 2 (by omega) l0)
        go_simp
        refine (pullE_any g A2 c2 zs2 _ _ HI.out.ch (by omega)).mono ?_
        rintro e w6 ⟨q, rfl, _, hq, hC6, hg6⟩
        obtain ⟨q0, q1⟩ := hq (by omega)
        exact hK _ w6 hg6 (HI.out.pull hg6 hC6) ⟨q, rfl, q0, by omega⟩
      | 4, _ =>
        injection ho with ho
        subst ho
        go_simp
        exact hK _ w5 gr0.out HI.out rfl
      | 5, _ =>
        injection ho with ho
        subst ho
        have l0 := hdep ⟨4, .data⟩ (by simp) rfl
        obtain ⟨e5, e5'⟩ := hAt.dep 4 (d := 62) (by omega) l0 (by rfl) (hM.fact 4 (by omega) l0)
        go_simp
        refine (betweenE_any g A2 c2 zs2 _ _ _ HI.out.ch (by omega) (by omega) (by omega)).mono ?_
        rintro e w6 ⟨q, rfl, q0, q1, hC6, hg6⟩
        exact hK _ w6 hg6 (HI.out.pull hg6 hC6) ⟨q, rfl, q0, q1⟩
      | 6, _ =>
        injection ho with ho
        subst ho
        have l0 := hdep ⟨3, .data⟩ (by simp) rfl
        have l1 := hdep ⟨5, .data⟩ (by simp) rfl
        obtain ⟨d, f3, d0, d1⟩ := hM.fact 3 (by omega) l0
        obtain ⟨q, f5, q0, q1⟩ := hM.fact 5 (by omega) l1
        obtain ⟨e5, e5'⟩ := hAt.dep 3 (d := 61) (by omega) l0 (by rfl) f3
        obtain ⟨e6, e6'⟩ := hAt.dep 5 (d := 63) (by omega) l1 (by rfl) f5
        go_simp
        exact hK _ w5 gr0.out HI.out ⟨d, q, rfl, d0, d1, q0, q1⟩
      | 7, _ =>
        injection ho with ho
        subst ho
        have l0 := hdep ⟨6, .data⟩ (by simp) rfl
        obtain ⟨d, q, f6, d0, d1, q0, q1⟩ := hM.fact 6 (by omega) l0
        obtain ⟨e5, e5'⟩ := hAt.dep 6 (d := 64) (by omega) l0 (by rfl) f6
        go_simp
        exact hK _ _ (only_allocg gr0.out _) (HI.out.alloc _) ⟨d, q, w5.heap.size, rfl, d0, d1, q0, q1, HI.out.ch.lt, by simp, news_new w5 [.int .i64 d, .int .i64 q] _ rfl 0 _ rfl, news_new w5 [.int .i64 d, .int .i64 q] _ rfl 1 _ rfl⟩
    · intro vals w5 hM
      have HI := Lib.hid hM.inv
      have f0 : vals 0 = .pointer (some ⟨b1, 1, none⟩) := hM.all (by decide) 0 (by omega)
      have f1 : vals 1 = u1 := hM.all (by decide) 1 (by omega)
      have f2 : vals 2 = .pointer (some ⟨g, 0, none⟩) := hM.all (by decide) 2 (by omega)
      have f4 : vals 4 = .pointer (some ⟨g, 0, none⟩) := hM.all (by decide) 4 (by omega)
      obtain ⟨y3, f3, _, _⟩ := hM.all (by decide) 3 (by omega)
      obtain ⟨y5, f5, _, _⟩ := hM.all (by decide) 5 (by omega)
      obtain ⟨y6, z6, f6, _, _, _, _⟩ := hM.all (by decide) 6 (by omega)
      obtain ⟨nd, np, k7, f7, nd0, nd1, np0, np1, hgb, hbl, c0, c1⟩ := hM.all (by decide) 7 (by omega)
      have HN := Lib.hid (news2 c0 c1)
      clear hM c0 c1
      simp only [putAll, List.range, List.range.loop, List.foldl_cons, List.foldl_nil, f0, f1, f2, f3, f4, f5, f6, f7]
      clear f0 f1 f2 f3 f4 f5 f6 f7
      change wpAny _ _ _ _ _ _ (Act.put (Act.put (Act.put (Act.put (Act.put (Act.put (Act.put (Act.put _ (some 58) _) (some 59) _) (some 60) _) (some 61) _) (some 62) _) (some 63) _) (some 64) _) (some 65) _) _
      simp only [Act.put, List.setIfInBounds_toArray, List.set_cons_zero, List.set_cons_succ]
      refine tail_step 8 _ (by kernel_rfl) rfl rfl (fun K' hK => ?_)
      refine wp_append_lies w5 _ _ _ rfl 0 80 i0 _ 2 16 Try.underlying74 hi0 hz0 hz1 hz2 rfl (by decide) _ ps.length (pairs ps) rfl HI.out.k1.now.ou ⟨k7, 0, none⟩ 1 1 [.int .i64 nd, .int .i64 np] rfl rfl HN.out (by simp [Value.oneCell']) (by omega) (by simp only [maxLen]; omega) (by omega) (Nat.zero_le _) _ rfl ?_
      intro r1 cp1 w8 hown1 hgrow1 hat hlt8
      refine hK _ _ ?_
      clear hK K'
      obtain ⟨⟨my, m1⟩, m2, m3⟩ := HI.out.appU (x := (nd, np)) hown1 hgrow1 hat
      have HQ1 := Lib.hid m3
      clear m3 hown1 hgrow1 hat hlt8 hbl hgb HI HN HQ
      refine tail_step 9 _ (by kernel_rfl) rfl rfl (fun K' hK => ?_)
      go_simp
      refine hK _ _ ?_
      clear hK K'
      refine tail_step 10 _ (by kernel_rfl) rfl rfl (fun K' hK => ?_)
      go_simp
      refine hK _ _ ?_
      clear hK K'
      refine wpAny_done (by kernel_rfl) ?_ _
      clear m1 m2
      generalize hW6 : World.setCell w8 _ _ = w6 at HQ1 ⊢
      clear hW6
      have HX1 := Lib.hid HQ1.out.ax
      have c1 := HX1.out.k1.now.b1
      have hl1 := HX1.out.k1.now.lt
      have hn1 : (ps ++ [(nd, np)]).length = ps.length + 1 := by simp
      have hsrt := sortE1_any r1 cp1 (ps ++ [(nd, np)]) w6 HX1.out.k1.now.ru.erow (by omega) (by omega) (fun e he => by
        rcases List.mem_append.1 he with h | h
        · have := HA.out.ok.pall e h; omega
        · simp at h; subst h; show 0 ≤ nd ∧ nd ≤ 1000; omega)
      rw [hn1] at hsrt
      have HS1 := Lib.hid hsrt
      clear hsrt hn1 HQ1
      go_wp2_with fail
      refine HS1.out.mono ?_
      rintro e w7 ⟨qs1, rfl, hp1, hu1, her1, hgr1⟩
      have HG1 := Lib.hid (soon_more hp1 hu1 HA.out.ok.pall (show 0 ≤ nd ∧ nd ≤ 400 ∧ 1 ≤ np ∧ np ≤ 10000 by omega))
      have HQ2 := Lib.hid ((HX1.out.setU (ps' := qs1) rfl hp1.length_eq hgr1 her1).rot)
      clear hp1 hu1 her1 hgr1 HS1 HX1 c1 hl1
      have y1 := HQ2.out.bel.at_ hlb x1
      have hlb7 := Nat.lt_of_lt_of_le hlb HQ2.out.bel.size
      obtain ⟨V1, HV1⟩ : ∃ x, Hid (x = v1) := ⟨_, rfl⟩
      rw [← HV1.out] at HQ2
      clear HV1
      go_upto_if 75 with (fail)
      go_cut [15] from 75 to 98 (fun _ wx => ∃ qs2, Hid (Q4 W (AT b2 v2 u2) (AT b3 v3 u3) (AT b4 v4 u4) (AT b1 V1 (.slice (some ⟨r1, 0, none⟩) (ps.length + 1) cp1)) (AX b2 gr la cs qs2 v2 u2) (AV b3 gr la cs ps v3 u3) (AV b4 gr la cs ps v4 u4) (AX b1 gr la cs qs1 V1 (.slice (some ⟨r1, 0, none⟩) (ps.length + 1) cp1)) g A2 c2 zs2 wx) ∧ Hid (SoonG ps qs2))
      case first =>
        by_cases hnz : 0 < ps.length
        · obtain ⟨r2, c2', hu2, hc2'⟩ := HQ2.out.k1.now.ax.ru.some hnz
          subst hu2
          have hnzi : (0 : Int) < ps.length := by omega
          have c1x := HQ2.out.k1.now.b1
          have HXd := Lib.hid HQ2.out.ax.drew
          go_wp2_with fail
          go_region_held3 (fun w' => w'.cell? ⟨b2, 1, none⟩ = some (.slice (some ⟨r2, 0, none⟩) ps.length c2') ∧ Q4 W (AT b2 v2 (.slice (some ⟨r2, 0, none⟩) ps.length c2')) (AT b3 v3 u3) (AT b4 v4 u4) (AT b1 V1 (.slice (some ⟨r1, 0, none⟩) (ps.length + 1) cp1)) (AX b2 gr la cs ps v2 (.slice (some ⟨r2, 0, none⟩) ps.length c2')) (AV b3 gr la cs ps v3 u3) (AV b4 gr la cs ps v4 u4) (AX b1 gr la cs qs1 V1 (.slice (some ⟨r1, 0, none⟩) (ps.length + 1) cp1)) g A2 c2 zs2 w')
            (first | exact ⟨c1x, HXd.out⟩ | exact ⟨HQ9.out.k1.now.b1, HQ9.out⟩)
            (first | (go_at_call 40; refine (pullE_any g A2 c2 zs2 _ _ (Q4.ch (And.right (by assumption))) (by omega)).mono ?_; rintro e w9 ⟨q, rfl, hqq, hq, hC9, hg9⟩; have hq2 := pull_lt hnzi hqq hq; obtain ⟨k, rfl⟩ : ∃ k : Nat, q = k := ⟨q.toNat, by omega⟩; have hkz : (k : Int) < ps.length := hq2.2; have HQ9 := Lib.hid (Q4.pull (And.right (by assumption)) hg9 hC9); clear hqq hq hC9 hg9))
          have hkl : k < ps.length := by omega
          obtain ⟨z1, z2, z3, z4⟩ := HA.out.ok.pall ps[k] (List.getElem_mem _)
          clear HXd c1x hq2
          go_wp2_with fail
          go_upto_region 10 with fail
          refine wp_inv 12 (by kernel_rfl) (by kernel_rfl) (by kernel_rfl) (by decide) (FL [PEq (.pointer (some ⟨r2, k * 2, none⟩)), PEq (.pointer (some ⟨r2, k * 2, none⟩)), PEq (.pointer (some ⟨r2, k * 2, none⟩)), PEq (.int .i64 ps[k].1), PEq (.pointer (some ⟨g, 0, none⟩)), PEq (.pointer (some ⟨r2, k * 2, none⟩)), PEq (.pointer (some ⟨r2, k * 2, none⟩)), PEq (.pointer (some ⟨r2, k * 2, none⟩)), PEq (.int .i64 ps[k].1), PEq (.int .i64 (ps[k].1 + 1)), PNum 0 ps[k].1, PNum 0 ps[k].1])
            (fun x => Q4 W (AT b2 v2 (.slice (some ⟨r2, 0, none⟩) ps.length c2')) (AT b3 v3 u3) (AT b4 v4 u4) (AT b1 V1 (.slice (some ⟨r1, 0, none⟩) (ps.length + 1) cp1)) (AX b2 gr la cs ps v2 (.slice (some ⟨r2, 0, none⟩) ps.length c2')) (AV b3 gr la cs ps v3 u3) (AV b4 gr la cs ps v4 u4) (AX b1 gr la cs qs1 V1 (.slice (some ⟨r1, 0, none⟩) (ps.length + 1) cp1)) g A2 c2 zs2 x) (fun x y => x.grownBy y (some g)) (FL.keep (by simp [stb_eq, stb_num])) HQ9.out.drew ?_ ?_
          · intro i o hi' ho listed vals a w5 hdep hM hAt K hK
            have HI := Lib.hid hM.inv
            have gr0 := Lib.hid (grownBy_self w5 (some g))
            obtain ⟨e15, e15'⟩ := hAt.slot 15 (by kernel_rfl) (by rfl)
            obtain ⟨e8, e8'⟩ := hAt.slot 8 (by kernel_rfl) (by rfl)
            match i, hi' with
            | 0, _ =>
              injection ho with ho
              subst ho
              go_simp
              exact hK _ w5 gr0.out HI.out rfl
            | 1, _ =>
              injection ho with ho
              subst ho
              have l0 := hdep ⟨0, .data⟩ (by simp) rfl
              obtain ⟨x0, x0'⟩ := hAt.dep 0 (d := 82) (by omega) l0 (by rfl) (hM.fact 0 (by omega) l0)
              go_simp
              exact hK _ w5 gr0.out HI.out rfl
            | 2, _ =>
              injection ho with ho
              subst ho
              have l0 := hdep ⟨1, .data⟩ (by simp) rfl
              obtain ⟨x0, x0'⟩ := hAt.dep 1 (d := 83) (by omega) l0 (by rfl) (hM.fact 1 (by omega) l0)
              go_simp
              exact hK _ w5 gr0.out HI.out rfl
            | 3, _ =>
              injection ho with ho
              subst ho
              have l0 := hdep ⟨2, .data⟩ (by simp) rfl
              obtain ⟨x0, x0'⟩ := hAt.dep 2 (d := 84) (by omega) l0 (by rfl) (hM.fact 2 (by omega) l0)
              have c0 := (HI.out.k1.now.ru.erow.cells k hkl).1
              have c1 := HI.out.k1.now.ru.erow.lt
              go_simp
              exact hK _ w5 gr0.out HI.out rfl
            | 4, _ =>
              injection ho with ho
              subst ho
              go_simp
              exact hK _ w5 gr0.out HI.out rfl
            | 5, _ =>
              injection ho with ho
              subst ho
              go_simp
              exact hK _ w5 gr0.out HI.out rfl
            | 6, _ =>
              injection ho with ho
              subst ho
              have l0 := hdep ⟨5, .data⟩ (by simp) rfl
              obtain ⟨x0, x0'⟩ := hAt.dep 5 (d := 87) (by omega) l0 (by rfl) (hM.fact 5 (by omega) l0)
              go_simp
              exact hK _ w5 gr0.out HI.out rfl
            | 7, _ =>
              injection ho with ho
              subst ho
              have l0 := hdep ⟨6, .data⟩ (by simp) rfl
              obtain ⟨x0, x0'⟩ := hAt.dep 6 (d := 88) (by omega) l0 (by rfl) (hM.fact 6 (by omega) l0)
              go_simp
              exact hK _ w5 gr0.out HI.out rfl
            | 8, _ =>
              injection ho with ho
              subst ho
              have l0 := hdep ⟨7, .data⟩ (by simp) rfl
              obtain ⟨x0, x0'⟩ := hAt.dep 7 (d := 89) (by omega) l0 (by rfl) (hM.fact 7 (by omega) l0)
              have c0 := (HI.out.k1.now.ru.erow.cells k hkl).1
              have c1 := HI.out.k1.now.ru.erow.lt
              go_simp
              exact hK _ w5 gr0.out HI.out rfl
            | 9, _ =>
              injection ho with ho
              subst ho
              have l0 := hdep ⟨8, .data⟩ (by simp) rfl
              obtain ⟨x0, x0'⟩ := hAt.dep 8 (d := 90) (by omega) l0 (by rfl) (hM.fact 8 (by omega) l0)
              go_simp
              exact hK _ w5 gr0.out HI.out (congrArg (Value.int .i64) (IntWalk.i64_in _ (by omega)))
            | 10, _ =>
              injection ho with ho
              subst ho
              have l0 := hdep ⟨4, .data⟩ (by simp) rfl
              obtain ⟨x0, x0'⟩ := hAt.dep 4 (d := 86) (by omega) l0 (by rfl) (hM.fact 4 (by omega) l0)
              have l1 := hdep ⟨9, .data⟩ (by simp) rfl
              obtain ⟨x1, x1'⟩ := hAt.dep 9 (d := 91) (by omega) l1 (by rfl) (hM.fact 9 (by omega) l1)
              go_simp
              refine (pullE_any g A2 c2 zs2 _ _ HI.out.ch (by omega)).mono ?_
              rintro e w6 ⟨q, rfl, hqq, hq, hC6, hg6⟩
              have hq2 : 0 ≤ q ∧ q ≤ ps[k].1 := by
                by_cases h2 : 2 ≤ ps[k].1 + 1
                · have := hq h2; omega
                · have := hqq (by omega); omega
              exact hK _ w6 hg6 (HI.out.pull hg6 hC6) ⟨q, rfl, hq2.1, hq2.2⟩
            | 11, _ =>
              injection ho with ho
              subst ho
              have l0 := hdep ⟨3, .data⟩ (by simp) rfl
              obtain ⟨x0, x0'⟩ := hAt.dep 3 (d := 85) (by omega) l0 (by rfl) (hM.fact 3 (by omega) l0)
              have l1 := hdep ⟨10, .data⟩ (by simp) rfl
              obtain ⟨q, f10, q0, q1⟩ := hM.fact 10 (by omega) l1
              obtain ⟨x1, x1'⟩ := hAt.dep 10 (d := 92) (by omega) l1 (by rfl) f10
              go_simp
              exact hK _ w5 gr0.out HI.out ⟨ps[k].1 - q, congrArg (Value.int .i64) (IntWalk.i64_in _ (by omega)), by omega, by omega⟩
          · intro vals w5 hM
            have HI := Lib.hid hM.inv
            have f0 : vals 0 = .pointer (some ⟨r2, k * 2, none⟩) := hM.all (by decide) 0 (by omega)
            have f1 : vals 1 = .pointer (some ⟨r2, k * 2, none⟩) := hM.all (by decide) 1 (by omega)
            have f2 : vals 2 = .pointer (some ⟨r2, k * 2, none⟩) := hM.all (by decide) 2 (by omega)
            have f5 : vals 5 = .pointer (some ⟨r2, k * 2, none⟩) := hM.all (by decide) 5 (by omega)
            have f6 : vals 6 = .pointer (some ⟨r2, k * 2, none⟩) := hM.all (by decide) 6 (by omega)
            have f7 : vals 7 = .pointer (some ⟨r2, k * 2, none⟩) := hM.all (by decide) 7 (by omega)
            have f3 : vals 3 = .int .i64 ps[k].1 := hM.all (by decide) 3 (by omega)
            have f8 : vals 8 = .int .i64 ps[k].1 := hM.all (by decide) 8 (by omega)
            have f4 : vals 4 = .pointer (some ⟨g, 0, none⟩) := hM.all (by decide) 4 (by omega)
            have f9 : vals 9 = .int .i64 (ps[k].1 + 1) := hM.all (by decide) 9 (by omega)
            obtain ⟨y10, f10, _, _⟩ := hM.all (by decide) 10 (by omega)
            obtain ⟨dq, f11, dq0, dq1⟩ := hM.all (by decide) 11 (by omega)
            have her := HI.out.k1.now.ru.erow
            have c0 := (her.cells k hkl).1
            have c1 := her.free (k * 2)
            have c2 := her.lt
            clear hM
            simp only [putAll, List.range, List.range.loop, List.foldl_cons, List.foldl_nil, f0, f1, f2, f3, f4, f5, f6, f7, f8, f9, f10, f11]
            clear f0 f1 f2 f3 f4 f5 f6 f7 f8 f9 f10 f11
            change wpAny _ _ _ _ _ _ (Act.put (Act.put (Act.put (Act.put (Act.put (Act.put (Act.put (Act.put (Act.put (Act.put (Act.put (Act.put _ (some 82) _) (some 83) _) (some 84) _) (some 85) _) (some 86) _) (some 87) _) (some 88) _) (some 89) _) (some 90) _) (some 91) _) (some 92) _) (some 93) _) _
            simp only [Act.put, List.setIfInBounds_toArray, List.set_cons_zero, List.set_cons_succ]
            refine tail_step 12 _ (by kernel_rfl) rfl rfl (fun K' hK => ?_)
            go_simp
            refine hK _ _ ?_
            clear hK K'
            refine tail_step 13 _ (by kernel_rfl) rfl rfl (fun K' hK => ?_)
            go_simp
            refine hK _ _ ?_
            clear hK K'
            refine tail_step 14 _ (by kernel_rfl) rfl rfl (fun K' hK => ?_)
            go_simp
            refine hK _ _ ?_
            clear hK K'
            refine wpAny_done (by kernel_rfl) ?_ _
            have hsl : (ps.set k (dq, ps[k].2)).length = ps.length := by simp
            have HQ10 := Lib.hid (HI.out.setU (ps' := ps.set k (dq, ps[k].2)) rfl hsl (grownBy_setCell w5 r2 (k * 2) (.int .i64 dq)) (her.day hkl dq))
            clear c0 c1 c2 her HI HQ9
            generalize hW6 : World.setCell w5 _ _ = w6' at HQ10 ⊢
            clear hW6
            have hsrt := sortE2_any r2 c2' (ps.set k (dq, ps[k].2)) w6' HQ10.out.k1.now.ru.erow (by omega) (by omega) (fun e he => by
              rcases List.mem_or_eq_of_mem_set he with h | h
              · have := HA.out.ok.pall e h; omega
              · subst h; show 0 ≤ dq ∧ dq ≤ 1000; omega)
            rw [hsl] at hsrt
            have HS2 := Lib.hid hsrt
            have HSL := Lib.hid hsl
            clear hsrt hsl
            have c1x := HQ10.out.k1.now.b1
            have hl2 := HQ10.out.k1.now.lt
            go_wp2_with fail
            refine HS2.out.mono ?_
            rintro e w8 ⟨qs2, rfl, hp2, hu2', her2, hgr2⟩
            have HG2 : Hid (SoonG ps qs2) := soon_set (q := ps[k].1 - dq) hkl (by omega) (by omega) (by rw [show ps[k].1 - (ps[k].1 - dq) = dq by omega]; exact hp2) hu2' HA.out.ok.pall
            have HQ11 := Lib.hid (HQ10.out.setU (ps' := qs2) rfl hp2.length_eq hgr2 her2)
            have HSQ : Hid (qs2.length = ps.length) := hp2.length_eq.trans HSL.out
            clear hp2 hu2' her2 hgr2 HS2 HQ10 c1x hl2
            go_wp2_with fail
            go_meet
            case rel => exact ⟨qs2, HQ11, HG2⟩
        · have hnzi : ¬ (0 : Int) < ps.length := by omega
          have HX2 := Lib.hid HQ2.out.ax
          have HG2 := Lib.hid (soon_refl (up_of HA.out.ok.prise) HA.out.ok.pall)
          go_wp2_with fail
          go_meet
          case rel => exact ⟨ps, HX2, HG2⟩
      case rest =>
        obtain ⟨qs2, HQ3, HG2⟩ := hcut
        obtain ⟨U1, HU1⟩ : ∃ x, Hid (x = Value.slice (some ⟨r1, 0, none⟩) (ps.length + 1) cp1) := ⟨_, rfl⟩
        rw [← HU1.out] at HQ3
        have HQ4 := Lib.hid HQ3.out.rot
        have hday : ∀ e ∈ cs, 0 ≤ e.1 ∧ e.1 ≤ 70 := fun e he => by have h1 := HEC.out.all e he; have h2 := HEC.out.u1; have h3 := HCL.out; omega
        have HDAY := Lib.hid hday
        clear hday HQ3 HU1
        have y0 := HQ4.out.bel.at_ hlb x0
        have hlb8 := Nat.lt_of_lt_of_le hlb HQ4.out.bel.size
        have HEA := Lib.hid (HA.out.ea.next HQ4.out.bel)
        go_wp2_with fail
        go_loopw [16, 102] (fun lv iv wr => ∃ (k : Nat) (last : Int), iv = .int .i64 k ∧ k ≤ cs.length ∧ lv = .int .i64 last ∧ 0 ≤ last ∧ last ≤ 70 ∧ Hid (∀ e ∈ cs.take k, e.1 ≤ last) ∧ Hid (Below wc.heap.size wc wr)) (fun _ iv _ => cs.length - (intOf iv).toNat)
        case atStart => exact ⟨0, 0, rfl, by omega, rfl, by omega, by omega, fun e he => by simp at he, Below.refl _ _⟩
        case round =>
          obtain ⟨k, last, rfl, hk, rfl, l0, l1, HL, HX⟩ := hrel
          by_cases hlt : k < cs.length
          · obtain ⟨b5, o5, rfl, hbb, e1, e2⟩ := (HEA.out.rd.below HX.out).pair hlt
            have hbb' : b5 < wr.heap.size := Nat.lt_of_lt_of_le hbb HX.out.size
            obtain ⟨v1', v2'⟩ := HDAY.out cs[k] (List.getElem_mem _)
            by_cases hmx : last < cs[k].1
            · have HL2 : Hid (∀ e ∈ cs.take (k + 1), e.1 ≤ cs[k].1) := take_max hlt HL.out (by omega) (Int.le_refl _)
              go_wp2_with fail
              go_roundw
              case rel => exact ⟨k + 1, cs[k].1, by go_num, by omega, rfl, by omega, by omega, HL2, HX.out.alloc HX.out.size _⟩
              case measure => simp [intOf]; omega
            · have HL2 : Hid (∀ e ∈ cs.take (k + 1), e.1 ≤ last) := take_max hlt HL.out (Int.le_refl _) (by omega)
              go_wp2_with fail
              go_roundw
              case rel => exact ⟨k + 1, last, by go_num, by omega, rfl, by omega, by omega, HL2, HX.out.alloc HX.out.size _⟩
              case measure => simp [intOf]; omega
          · have HLA : Hid (∀ e ∈ cs, e.1 ≤ last) := by
              have := HL.out
              rwa [List.take_of_length_le (by omega)] at this
            have HQ5 := Lib.hid (HQ4.out.below HX.out)
            clear HL HX HQ4 y0 hlb8 HEA
            go_upto_region 18 with fail
            refine wp_inv 10 (by kernel_rfl) (by kernel_rfl) (by kernel_rfl) (by decide) (FL [PEq (.pointer (some ⟨b3, 0, none⟩)), PEq v3, PEq (.int .i64 last), PEq (.pointer (some ⟨g, 0, none⟩)), PNum 0 8, PNum last (last + 8), PEq (.pointer (some ⟨g, 0, none⟩)), PNum 1 99, PEnt last (last + 8) 1 99, PSl g last (last + 8) 1 99])
              (fun x => Q4 W (AT b3 v3 u3) (AT b4 v4 u4) (AT b1 V1 U1) (AT b2 v2 u2) (AV b3 gr la cs ps v3 u3) (AV b4 gr la cs ps v4 u4) (AX b1 gr la cs qs1 V1 U1) (AX b2 gr la cs qs2 v2 u2) g A2 c2 zs2 x) (fun x y => x.grownBy y (some g)) (FL.keep (by simp [stb_eq, stb_num, stb_ent, stb_sl])) HQ5.out.drew ?_ ?_
            · intro i o hi' ho listed vals a w5 hdep hM hAt K hK
              have HI := Lib.hid hM.inv
              have gr0 := Lib.hid (grownBy_self w5 (some g))
              obtain ⟨e12, e12'⟩ := hAt.slot 12 (by kernel_rfl) (by rfl)
              obtain ⟨e8, e8'⟩ := hAt.slot 8 (by kernel_rfl) (by rfl)
              obtain ⟨e16, e16'⟩ := hAt.slot 16 (by kernel_rfl) (by rfl)
              match i, hi' with
              | 0, _ =>
                injection ho with ho
                subst ho
                go_simp
                exact hK _ w5 gr0.out HI.out rfl
              | 1, _ =>
                injection ho with ho
                subst ho
                have l0 := hdep ⟨0, .data⟩ (by simp) rfl
                obtain ⟨x0, x0'⟩ := hAt.dep 0 (d := 111) (by omega) l0 (by rfl) (hM.fact 0 (by omega) l0)
                have c0 := HI.out.k1.now.b0
                go_simp
                exact hK _ w5 gr0.out HI.out rfl
              | 2, _ =>
                injection ho with ho
                subst ho
                go_simp
                exact hK _ w5 gr0.out HI.out rfl
              | 3, _ =>
                injection ho with ho
                subst ho
                go_simp
                exact hK _ w5 gr0.out HI.out rfl
              | 4, _ =>
                injection ho with ho
                subst ho
                have l0 := hdep ⟨3, .data⟩ (by simp) rfl
                obtain ⟨x0, x0'⟩ := hAt.dep 3 (d := 114) (by omega) l0 (by rfl) (hM.fact 3 (by omega) l0)
                go_simp
                refine (pullE_any g A2 c2 zs2 _ _ HI.out.ch (by omega)).mono ?_
                rintro e w6 ⟨q, rfl, _, hq, hC6, hg6⟩
                obtain ⟨q0, q1⟩ := hq (by omega)
                exact hK _ w6 hg6 (HI.out.pull hg6 hC6) ⟨q, rfl, q0, by omega⟩
              | 5, _ =>
                injection ho with ho
                subst ho
                have l0 := hdep ⟨2, .data⟩ (by simp) rfl
                obtain ⟨x0, x0'⟩ := hAt.dep 2 (d := 113) (by omega) l0 (by rfl) (hM.fact 2 (by omega) l0)
                have l1 := hdep ⟨4, .data⟩ (by simp) rfl
                obtain ⟨q, f4, q0, q1⟩ := hM.fact 4 (by omega) l1
                obtain ⟨x1, x1'⟩ := hAt.dep 4 (d := 115) (by omega) l1 (by rfl) f4
                go_simp
                exact hK _ w5 gr0.out HI.out ⟨last + q, congrArg (Value.int .i64) (IntWalk.i64_in _ (by omega)), by omega, by omega⟩
              | 6, _ =>
                injection ho with ho
                subst ho
                go_simp
                exact hK _ w5 gr0.out HI.out rfl
              | 7, _ =>
                injection ho with ho
                subst ho
                have l0 := hdep ⟨6, .data⟩ (by simp) rfl
                obtain ⟨x0, x0'⟩ := hAt.dep 6 (d := 117) (by omega) l0 (by rfl) (hM.fact 6 (by omega) l0)
                go_simp
                refine (betweenE_any g A2 c2 zs2 _ _ _ HI.out.ch (by omega) (by omega) (by omega)).mono ?_
                rintro e w6 ⟨q, rfl, q0, q1, hC6, hg6⟩
                exact hK _ w6 hg6 (HI.out.pull hg6 hC6) ⟨q, rfl, q0, q1⟩
              | 8, _ =>
                injection ho with ho
                subst ho
                have l0 := hdep ⟨5, .data⟩ (by simp) rfl
                have l1 := hdep ⟨7, .data⟩ (by simp) rfl
                obtain ⟨d, f5, d0, d1⟩ := hM.fact 5 (by omega) l0
                obtain ⟨q, f7, q0, q1⟩ := hM.fact 7 (by omega) l1
                obtain ⟨x0, x0'⟩ := hAt.dep 5 (d := 116) (by omega) l0 (by rfl) f5
                obtain ⟨x1, x1'⟩ := hAt.dep 7 (d := 118) (by omega) l1 (by rfl) f7
                go_simp
                exact hK _ w5 gr0.out HI.out ⟨d, q, rfl, d0, d1, q0, q1⟩
              | 9, _ =>
                injection ho with ho
                subst ho
                have l0 := hdep ⟨8, .data⟩ (by simp) rfl
                obtain ⟨d, q, f8, d0, d1, q0, q1⟩ := hM.fact 8 (by omega) l0
                obtain ⟨x0, x0'⟩ := hAt.dep 8 (d := 119) (by omega) l0 (by rfl) f8
                go_simp
                exact hK _ _ (only_allocg gr0.out _) (HI.out.alloc _) ⟨d, q, w5.heap.size, rfl, d0, d1, q0, q1, HI.out.ch.lt, by simp, news_new w5 [.int .i64 d, .int .i64 q] _ rfl 0 _ rfl, news_new w5 [.int .i64 d, .int .i64 q] _ rfl 1 _ rfl⟩
            · intro vals w5 hM
              have HI := Lib.hid hM.inv
              have f0 : vals 0 = .pointer (some ⟨b3, 0, none⟩) := hM.all (by decide) 0 (by omega)
              have f1 : vals 1 = v3 := hM.all (by decide) 1 (by omega)
              have f2 : vals 2 = .int .i64 last := hM.all (by decide) 2 (by omega)
              have f3 : vals 3 = .pointer (some ⟨g, 0, none⟩) := hM.all (by decide) 3 (by omega)
              have f6 : vals 6 = .pointer (some ⟨g, 0, none⟩) := hM.all (by decide) 6 (by omega)
              obtain ⟨y4, f4, _, _⟩ := hM.all (by decide) 4 (by omega)
              obtain ⟨y5, f5, _, _⟩ := hM.all (by decide) 5 (by omega)
              obtain ⟨y7, f7, _, _⟩ := hM.all (by decide) 7 (by omega)
              obtain ⟨y8, z8, f8, _, _, _, _⟩ := hM.all (by decide) 8 (by omega)
              obtain ⟨ld, lp, k9, f9, ld0, ld1, lp0, lp1, hgb, hbl, c0, c1⟩ := hM.all (by decide) 9 (by omega)
              have HN := Lib.hid (news2 c0 c1)
              clear hM c0 c1
              simp only [putAll, List.range, List.range.loop, List.foldl_cons, List.foldl_nil, f0, f1, f2, f3, f4, f5, f6, f7, f8, f9]
              clear f0 f1 f2 f3 f4 f5 f6 f7 f8 f9
              change wpAny _ _ _ _ _ _ (Act.put (Act.put (Act.put (Act.put (Act.put (Act.put (Act.put (Act.put (Act.put (Act.put _ (some 111) _) (some 112) _) (some 113) _) (some 114) _) (some 115) _) (some 116) _) (some 117) _) (some 118) _) (some 119) _) (some 120) _) _
              simp only [Act.put, List.setIfInBounds_toArray, List.set_cons_zero, List.set_cons_succ]
              refine tail_step 10 _ (by kernel_rfl) rfl rfl (fun K' hK => ?_)
              refine wp_append_lies w5 _ _ _ rfl 0 80 i0 _ 2 16 Try.underlying74 hi0 hz0 hz1 hz2 rfl (by decide) _ cs.length (pairs cs) rfl HI.out.k1.now.ov ⟨k9, 0, none⟩ 1 1 [.int .i64 ld, .int .i64 lp] rfl rfl HN.out (by simp [Value.oneCell']) (by omega) (by simp only [maxLen]; omega) (by omega) (Nat.zero_le _) _ rfl ?_
              intro r3 cp3 w8 hown1 hgrow1 hat hlt8
              refine hK _ _ ?_
              clear hK K'
              obtain ⟨⟨my, m1⟩, m2, m3⟩ := HI.out.appV (x := (ld, lp)) hown1 hgrow1 hat
              have HQ6 := Lib.hid m3
              clear m3 hown1 hgrow1 hat hlt8 hbl hgb HI HN HQ5
              refine tail_step 11 _ (by kernel_rfl) rfl rfl (fun K' hK => ?_)
              go_simp
              refine hK _ _ ?_
              clear hK K'
              refine tail_step 12 _ (by kernel_rfl) rfl rfl (fun K' hK => ?_)
              go_simp
              refine hK _ _ ?_
              clear hK K'
              refine wpAny_done (by kernel_rfl) ?_ _
              clear m1 m2
              generalize hW6 : World.setCell w8 _ _ = w6' at HQ6 ⊢
              clear hW6
              have HLG : Hid (last ≤ ld ∧ ld ≤ 78 ∧ 1 ≤ lp ∧ lp ≤ 99) := by show _ ∧ _; omega
              have HQ7 := Lib.hid HQ6.out.ax.rot
              clear HQ6
              go_wp2_with fail
              refine (pullE_any g A2 c2 zs2 90 w6' HQ7.out.ch (by omega)).mono ?_
              rintro e w9 ⟨by_, rfl, _, hby, hC9, hg9⟩
              obtain ⟨by0, by1⟩ := hby (by omega)
              have HQ8 := Lib.hid (HQ7.out.pull hg9 hC9).ax
              clear HQ7 hby hC9 hg9
              obtain ⟨V3, HV3⟩ : ∃ x, Hid (x = Value.slice (some ⟨r3, 0, none⟩) (cs.length + 1) cp3) := ⟨_, rfl⟩
              rw [← HV3.out] at HQ8
              obtain ⟨A4, c4, e4, _⟩ := HQ8.out.k1.now.rv.ent
              subst e4
              obtain ⟨A5, c5, e5, _⟩ := HQ8.out.k1.now.ru.ent
              subst e5
              have hpay : ∀ e ∈ ps, 0 ≤ e.1 ∧ e.1 ≤ 85 := fun e he => by have h1 := HEP.out.all e he; have h2 := HEP.out.u1; have h3 := HPL.out; omega
              have HPAY := Lib.hid hpay
              clear hpay
              have c40 := HQ8.out.k1.now.b0
              have l40 := HQ8.out.k1.now.lt
              go_wp2_with fail
              go_loopw [20, 128] (fun _ iv wr => ∃ k : Nat, iv = .int .i64 k ∧ k ≤ cs.length ∧ Hid (Q4 W (AT b4 (.slice A4 cs.length c4) (.slice A5 ps.length c5)) (AT b1 V1 U1) (AT b2 v2 u2) (AT b3 V3 u3) (AX b4 gr la (shK cs by_ k) ps (.slice A4 cs.length c4) (.slice A5 ps.length c5)) (AX b1 gr la cs qs1 V1 U1) (AX b2 gr la cs qs2 v2 u2) (AX b3 gr la (cs ++ [(ld, lp)]) ps V3 u3) g A2 c2 zs2 wr)) (fun _ iv _ => cs.length - (intOf iv).toNat)
              case atStart => exact ⟨0, rfl, by omega, HQ8⟩
              case round =>
                obtain ⟨k, rfl, hk, HR⟩ := hrel
                clear c40 l40
                by_cases hlt : k < cs.length
                · have hlk := shK_length cs by_ hk
                  obtain ⟨r4, cx, e4, _⟩ := HR.out.k1.now.rv.some (by rw [hlk]; omega)
                  rw [hlk] at e4
                  injection e4 with e4 _ _
                  subst e4
                  have her := HR.out.k1.now.rv.erow
                  have hkk : k < (shK cs by_ k).length := by rw [hlk]; exact hlt
                  have hc0 := (her.cells k hkk).1
                  rw [shK_get cs by_ hlt] at hc0
                  have hfr := her.free (k * 2)
                  have hlr := her.lt
                  have hcb := HR.out.k1.now.b0
                  have hlb4 := HR.out.k1.now.lt
                  obtain ⟨v1', v2'⟩ := HDAY.out cs[k] (List.getElem_mem _)
                  have hkz : (k : Int) < cs.length := by omega
                  have hE := her.day hkk (cs[k].1 + by_)
                  have hg2 : ((shK cs by_ k)[k]).2 = cs[k].2 := by rw [shK_get cs by_ hlt]
                  rw [hg2, shK_set cs by_ hlt] at hE
                  have HR2 := Lib.hid (HR.out.setV (r := r4) rfl (by rw [shK_length cs by_ (by omega), hlk]) (grownBy_setCell wr r4 (k * 2) (.int .i64 (cs[k].1 + by_))) hE)
                  clear hE hg2 her hlk hkk
                  go_wp2_with fail
                  go_roundw
                  case rel => exact ⟨k + 1, by go_num, by omega, HR2⟩
                  case measure => simp [intOf]; omega
                · obtain rfl : k = cs.length := by omega
                  have HQ9 := HR
                  rw [shK_all] at HQ9
                  clear HR hlt hk
                  have c41 := HQ9.out.k1.now.b1
                  have l41 := HQ9.out.k1.now.lt
                  go_wp2_with fail
                  go_loopw [21, 145] (fun _ iv wr => ∃ k : Nat, iv = .int .i64 k ∧ k ≤ ps.length ∧ Hid (Q4 W (AT b4 (.slice A4 cs.length c4) (.slice A5 ps.length c5)) (AT b1 V1 U1) (AT b2 v2 u2) (AT b3 V3 u3) (AX b4 gr la (shiftD cs by_) (shK ps by_ k) (.slice A4 cs.length c4) (.slice A5 ps.length c5)) (AX b1 gr la cs qs1 V1 U1) (AX b2 gr la cs qs2 v2 u2) (AX b3 gr la (cs ++ [(ld, lp)]) ps V3 u3) g A2 c2 zs2 wr)) (fun _ iv _ => ps.length - (intOf iv).toNat)
                  case atStart => exact ⟨0, rfl, by omega, HQ9⟩
                  case round =>
                    obtain ⟨k, rfl, hk, HR⟩ := hrel
                    clear c41 l41
                    by_cases hlt : k < ps.length
                    · have hlk := shK_length ps by_ hk
                      obtain ⟨r4, cx, e4, _⟩ := HR.out.k1.now.ru.some (by rw [hlk]; omega)
                      rw [hlk] at e4
                      injection e4 with e4 _ _
                      subst e4
                      have her := HR.out.k1.now.ru.erow
                      have hkk : k < (shK ps by_ k).length := by rw [hlk]; exact hlt
                      have hc0 := (her.cells k hkk).1
                      rw [shK_get ps by_ hlt] at hc0
                      have hfr := her.free (k * 2)
                      have hlr := her.lt
                      have hcb := HR.out.k1.now.b1
                      have hlb4 := HR.out.k1.now.lt
                      obtain ⟨v1', v2'⟩ := HPAY.out ps[k] (List.getElem_mem _)
                      have hkz : (k : Int) < ps.length := by omega
                      have hE := her.day hkk (ps[k].1 + by_)
                      have hg2 : ((shK ps by_ k)[k]).2 = ps[k].2 := by rw [shK_get ps by_ hlt]
                      rw [hg2, shK_set ps by_ hlt] at hE
                      have HR2 := Lib.hid (HR.out.setU (r := r4) rfl (by rw [shK_length ps by_ (by omega), hlk]) (grownBy_setCell wr r4 (k * 2) (.int .i64 (ps[k].1 + by_))) hE)
                      clear hE hg2 her hlk hkk
                      go_wp2_with fail
                      go_roundw
                      case rel => exact ⟨k + 1, by go_num, by omega, HR2⟩
                      case measure => simp [intOf]; omega
                    · obtain rfl : k = ps.length := by omega
                      have HQ10 := HR
                      rw [shK_all] at HQ10
                      clear HR hlt hk
                      generalize hWz : wr = Wz at *
                      clear hWz
                      have K4 := HQ10.out.k1.now
                      have K1 := HQ10.out.k2.now
                      have K2 := HQ10.out.k3.now
                      have K3 := HQ10.out.k4.now
                      obtain ⟨A6, c6, e6, n6⟩ := K1.rv.ent
                      subst e6
                      obtain ⟨A7, c7, e7, n7⟩ := K1.ru.ent
                      subst e7
                      obtain ⟨A8, c8, e8, n8⟩ := K2.rv.ent
                      subst e8
                      obtain ⟨A9, c9, e9, n9⟩ := K2.ru.ent
                      subst e9
                      obtain ⟨A10, c10, e10, n10⟩ := K3.rv.ent
                      subst e10
                      obtain ⟨A11, c11, e11, n11⟩ := K3.ru.ent
                      subst e11
                      obtain ⟨A12, c12, e12, n12⟩ := K4.rv.ent
                      obtain ⟨A13, c13, e13, n13⟩ := K4.ru.ent
                      rw [shiftD_length] at e12 e13
                      injection e12 with e12 _ e12'
                      injection e13 with e13 _ e13'
                      subst e12 e12' e13 e13'
                      have HC1 := Lib.hid K1.c4
                      have HC2 := Lib.hid K2.c4
                      have HC3 := Lib.hid K3.c4
                      have HC4 := Lib.hid K4.c4
                      have HCb : Hid (C4 Wz b (.slice A cs.length cA) (.slice B ps.length cB) gr la) := ⟨Nat.lt_of_lt_of_le hlb HQ10.out.bel.size, HQ10.out.bel.at_ hlb x0, HQ10.out.bel.at_ hlb x1, HQ10.out.bel.at_ hlb x2, HQ10.out.bel.at_ hlb x3⟩
                      have hcl5 := HCL.out
                      have hpl5 := HPL.out
                      have HG0 := Lib.hid (HA.out.next HQ10.out.bel)
                      have HO1 : Hid (Oth cs ps gr la day 0 cs qs1) := oth_soon (by omega) HA.out.ok HG1.out (by omega)
                      have HO2 : Hid (Oth cs ps gr la day 1 cs qs2) := oth_soon (by omega) HA.out.ok HG2.out (by omega)
                      have HO3 : Hid (Oth cs ps gr la day 2 (cs ++ [(ld, lp)]) ps) := oth_longer (x := (ld, lp)) HA.out.ok (fun e he => by have h1 := HLA.out e he; have h2 := HLG.out; show e.1 ≤ ld; omega) (by have h2 := HLG.out; show 0 ≤ ld ∧ ld ≤ 400 ∧ 1 ≤ lp ∧ lp ≤ 10000; omega) (by omega)
                      have HOK4 : Hid (AccOk (shiftD cs by_) (shiftD ps by_) gr la) := ok_shift HA.out.ok by0 (by omega) (fun e he => by have := HDAY.out e he; omega) (fun e he => by have := HPAY.out e he; omega)
                      have HA1 : Hid (Acc Wz A6 A7 c6 c7 cs qs1 gr la) := ⟨n6, n7, HO1.out.ok⟩
                      have HA2 : Hid (Acc Wz A8 A9 c8 c9 cs qs2 gr la) := ⟨n8, n9, HO2.out.ok⟩
                      have HA3 : Hid (Acc Wz A10 A11 c10 c11 (cs ++ [(ld, lp)]) ps gr la) := ⟨n10, n11, HO3.out.ok⟩
                      have HA4 : Hid (Acc Wz A4 A5 c4 c5 (shiftD cs by_) (shiftD ps by_) gr la) := ⟨n12, n13, HOK4.out⟩
                      obtain ⟨cs3, HCS3⟩ : ∃ x, Hid (cs ++ [(ld, lp)] = x) := ⟨_, rfl⟩
                      rw [HCS3.out] at HO3 HA3 HC3
                      have HBz := Lib.hid (HB.out.trans (HQ10.out.bel.mono HB.out.size))
                      clear n6 n7 n8 n9 n10 n11 n12 n13 K1 K2 K3 K4 HQ10 hcl5 hpl5
                      obtain ⟨lb, y0, y1, y2, y3⟩ := HCb.out
                      go_wp2_with fail
                      refine (paidG_any HG0.out).mono ?_
                      rintro e wA ⟨vp, rfl, hop, hbA⟩
                      obtain ⟨P, cP, rfl, hcP, hP⟩ := own_slice hop
                      have HP := Lib.hid hP
                      have HG0' := Lib.hid (HG0.out.next hbA)
                      have HCb' := Lib.hid (HCb.out.next hbA)
                      have HC1' := Lib.hid (HC1.out.next hbA)
                      have HC2' := Lib.hid (HC2.out.next hbA)
                      have HC3' := Lib.hid (HC3.out.next hbA)
                      have HC4' := Lib.hid (HC4.out.next hbA)
                      have HA1' := Lib.hid (HA1.out.next hbA)
                      have HA2' := Lib.hid (HA2.out.next hbA)
                      have HA3' := Lib.hid (HA3.out.next hbA)
                      have HA4' := Lib.hid (HA4.out.next hbA)
                      have HBz' := Lib.hid (HBz.out.trans (hbA.mono HBz.out.size))
                      clear hop hP hbA HG0 HCb HC1 HC2 HC3 HC4 HA1 HA2 HA3 HA4 HBz lb y0 y1 y2 y3
                      obtain ⟨lb, y0, y1, y2, y3⟩ := HCb'.out
                      go_wp2_with fail
                      refine (lateG_any HG0'.out (by omega) (by omega)).mono ?_
                      rintro e wB ⟨vl, rfl, hol, hbB⟩
                      obtain ⟨Lt, cL, rfl, hcLt, hLt⟩ := own_slice hol
                      have HLt := Lib.hid hLt
                      have HP := Lib.hid (HP.out.next hbB)
                      have HCb := Lib.hid (HCb'.out.next hbB)
                      have HC1 := Lib.hid (HC1'.out.next hbB)
                      have HC2 := Lib.hid (HC2'.out.next hbB)
                      have HC3 := Lib.hid (HC3'.out.next hbB)
                      have HC4 := Lib.hid (HC4'.out.next hbB)
                      have HA1 := Lib.hid (HA1'.out.next hbB)
                      have HA2 := Lib.hid (HA2'.out.next hbB)
                      have HA3 := Lib.hid (HA3'.out.next hbB)
                      have HA4 := Lib.hid (HA4'.out.next hbB)
                      have HBz := Lib.hid (HBz'.out.trans (hbB.mono HBz'.out.size))
                      clear hol hLt hbB HG0' HCb' HC1' HC2' HC3' HC4' HA1' HA2' HA3' HA4' HBz' lb y0 y1 y2 y3
                      obtain ⟨lb, y0, y1, y2, y3⟩ := HCb.out
                      obtain ⟨l1', m0, m1, m2, m3⟩ := HC1.out
                      obtain ⟨l2', n0, n1, n2, n3⟩ := HC2.out
                      obtain ⟨l3', o0, o1, o2, o3⟩ := HC3.out
                      go_wp2_with fail
                      generalize hWL : World.alloc wB _ = WL
                      obtain ⟨hLl, hbL, hot⟩ := othAt_new hWL HA1.out HA2.out HA3.out HO1.out HO2.out HO3.out
                      have HOT := Lib.hid hot
                      have HP2 := Lib.hid (HP.out.next hbL)
                      have HLt2 := Lib.hid (HLt.out.next hbL)
                      have HCb2 := Lib.hid (HCb.out.next hbL)
                      have HC42 := Lib.hid (HC4.out.next hbL)
                      have HA42 := Lib.hid (HA4.out.next hbL)
                      have HBL := Lib.hid (HBz.out.trans (hbL.mono HBz.out.size))
                      have hcl5 := HCL.out
                      generalize hbl : wB.heap.size = bL at HOT hLl ⊢
                      clear hWL hbL hot HP HLt HCb HC4 HA4 HBz HA1 HA2 HA3 HC1 HC2 HC3 hbl lb y0 y1 y2 y3 l1' m0 m1 m2 m3 l2' n0 n1 n2 n3 l3' o0 o1 o2 o3
                      generalize hco : lateC cs ps gr la day cs.length = cost
                      have HCO := Lib.hid hco
                      clear hco
                      go_loopw [190] (fun iv wr => ∃ k : Nat, iv = .int .i64 k ∧ k ≤ 3 ∧ Hid (Below WL.heap.size WL wr)) (fun iv _ => 3 - (intOf iv).toNat)
                      case atStart => exact ⟨0, rfl, by omega, Below.refl _ _⟩
                      case round =>
                        obtain ⟨k, rfl, hk3, HX⟩ := hrel
                        by_cases hlt : k < 3
                        · obtain ⟨Ao, co_, cso, Bo, do_, pso, hOT⟩ := HOT.out k hlt
                          have HOr := Lib.hid (hOT.next hLl HX.out)
                          obtain ⟨z0, z1, z2, z3, za, zo⟩ := HOr.out
                          have hkz : (k : Int) < 3 := by omega
                          have hlr := Nat.lt_of_lt_of_le hLl HX.out.size
                          have HZA := Lib.hid za
                          have HZO := Lib.hid zo
                          have hcc := zo.len
                          have hco8 := za.ok.clen
                          clear za zo hOT HOr
                          go_wp2_with fail
                          generalize hWr : World.alloc wr _ = Wr
                          obtain ⟨c4r, hbr⟩ := c4_new hWr
                          have HC4r := Lib.hid c4r
                          have HAr := Lib.hid (HZA.out.next hbr)
                          have HXr := Lib.hid (HX.out.trans (hbr.mono HX.out.size))
                          generalize wr.heap.size = bo at HC4r ⊢
                          clear hWr hbr c4r z0 z1 z2 z3 hlr HZA
                          refine (paidG_any HAr.out).mono ?_
                          rintro e wC ⟨vn, rfl, hon, hbC⟩
                          obtain ⟨N, cN, rfl, hcN, hN⟩ := own_slice hon
                          have HN := Lib.hid hN
                          have HC4c := Lib.hid (HC4r.out.next hbC)
                          have HAc := Lib.hid (HAr.out.next hbC)
                          have HXc := Lib.hid (HXr.out.trans (hbC.mono HXr.out.size))
                          clear hon hN hbC HC4r HAr HXr
                          obtain ⟨lo_, r0, r1', r2', r3'⟩ := HC4c.out
                          go_wp2_with fail
                          refine (lateG_any HAc.out (by omega) (by omega)).mono ?_
                          rintro e wD ⟨vk, rfl, hok, hbD⟩
                          obtain ⟨Lk, cLk, rfl, hcLk, hLk⟩ := own_slice hok
                          have HLk := Lib.hid hLk
                          have HN2 := Lib.hid (HN.out.next hbD)
                          have HC4d := Lib.hid (HC4c.out.next hbD)
                          have HXd := Lib.hid (HXc.out.trans (hbD.mono HXc.out.size))
                          clear hok hLk hbD HN HC4c HAc HXc lo_ r0 r1' r2' r3'
                          obtain ⟨lo_, r0, r1', r2', r3'⟩ := HC4d.out
                          go_wp2_with fail
                          have HPd := Lib.hid (HP2.out.next HXd.out)
                          have HLd := Lib.hid (HLt2.out.next HXd.out)
                          go_loopw [223] (fun iv wq => ∃ i : Nat, iv = .int .i64 i ∧ i ≤ cs.length ∧ Hid (Below wD.heap.size wD wq)) (fun iv _ => cs.length - (intOf iv).toNat)
                          case atStart => exact ⟨0, rfl, by omega, Below.refl _ _⟩
                          case round =>
                            obtain ⟨i, rfl, hi, HY⟩ := hrel
                            by_cases hil : i < cs.length
                            · obtain ⟨b3', o3, rfl, hbb3, e3⟩ := (HPd.out.below HY.out).int (t := paidL cs ps) (k := i) (by unfold paidL; rw [paidK_length]; exact hil)
                              obtain ⟨b4', o4, rfl, hbb4, e4⟩ := (HN2.out.below HY.out).int (t := paidL cso pso) (k := i) (by unfold paidL; rw [paidK_length]; omega)
                              have f3 : (paidL cs ps)[i]'(by unfold paidL; rw [paidK_length]; exact hil) = paidAt cs ps i := by simp [paidL, paidK]
                              have f4 : (paidL cso pso)[i]'(by unfold paidL; rw [paidK_length]; omega) = paidAt cso pso i := by simp [paidL, paidK]
                              rw [f3] at e3
                              rw [f4] at e4
                              clear f3 f4
                              have hbb3' : b3' < wr.heap.size := Nat.lt_of_lt_of_le hbb3 HY.out.size
                              have hbb4' : b4' < wr.heap.size := Nat.lt_of_lt_of_le hbb4 HY.out.size
                              have hiz : (i : Int) < cs.length := by omega
                              have hizo : (i : Int) < cso.length := by omega
                              have hpd := HZO.out.paid i hil
                              have hsm := fun h => HZO.out.same h i hil
                              generalize paidAt cs ps i = dd at e3 hpd hsm
                              generalize paidAt cso pso i = nn at e4 hpd hsm
                              have hcase : (dd = -1 ∨ (dd ≠ -1 ∧ nn ≠ -1 ∧ nn ≤ dd)) := by
                                by_cases h : dd = -1
                                · exact .inl h
                                · exact .inr ⟨h, hpd h⟩
                              have hcase2 : (k = 2 ∧ nn = dd) ∨ k ≠ 2 := by
                                by_cases h : k = 2
                                · exact .inl ⟨h, hsm h⟩
                                · exact .inr h
                              clear hpd hsm
                              rcases hcase with rfl | ⟨q1, q2, q3⟩
                              · have dx : ((-1 : Int) != -1) = false := rfl
                                rcases hcase2 with ⟨hk2, hnd⟩ | hk2
                                · have dk : ((k : Int) == 2) = true := by rw [beq_iff_eq]; omega
                                  have dn : (nn != -1) = false := by simpa using hnd
                                  clear hnd hk2
                                  go_wp2_with fail
                                  go_roundw
                                  case rel => exact ⟨i + 1, by go_num, by omega, HY⟩
                                  case measure => simp [intOf]; omega
                                · have dk : ((k : Int) == 2) = false := by rw [beq_eq_false_iff_ne]; omega
                                  clear hk2
                                  go_wp2_with fail
                                  go_roundw
                                  case rel => exact ⟨i + 1, by go_num, by omega, HY⟩
                                  case measure => simp [intOf]; omega
                              · have dx : (dd != -1) = true := by simpa using q1
                                have dy : (nn == -1) = false := by simpa using q2
                                have dz : decide (dd < nn) = false := decide_eq_false (by omega)
                                clear q1 q2
                                rcases hcase2 with ⟨hk2, hnd⟩ | hk2
                                · have dk : ((k : Int) == 2) = true := by rw [beq_iff_eq]; omega
                                  have dn : (nn != dd) = false := by simpa using hnd
                                  clear hnd hk2
                                  go_wp2_with fail
                                  go_roundw
                                  case rel => exact ⟨i + 1, by go_num, by omega, HY⟩
                                  case measure => simp [intOf]; omega
                                · have dk : ((k : Int) == 2) = false := by rw [beq_eq_false_iff_ne]; omega
                                  clear hk2
                                  go_wp2_with fail
                                  go_roundw
                                  case rel => exact ⟨i + 1, by go_num, by omega, HY⟩
                                  case measure => simp [intOf]; omega
                            · have HLe := Lib.hid (HLk.out.next HY.out)
                              have HLde := Lib.hid (HLd.out.next HY.out)
                              have HXe := Lib.hid (HXd.out.trans (HY.out.mono HXd.out.size))
                              have hcost := HZO.out.cost
                              rw [HCO.out] at hcost
                              have hlkc : (lateK cso pso gr day cso.length).length ≤ 8 := Nat.le_trans (lateK_len _ _ _ _ _) hco8
                              generalize lateC cso pso gr la day cso.length = nco at hcost ⊢
                              obtain ⟨bb, dk, dn⟩ : ∃ bb, decide ((k : Int) < 2) = bb ∧ (bb = true → decide (cost < nco) = false) := ⟨_, rfl, fun h => decide_eq_false (by have h2 := of_decide_eq_true h; have := hcost (by omega); omega)⟩
                              have HDN := Lib.hid dn
                              clear hcost dn HY HLk
                              have hqc : Hid (∀ q : Nat, q < cs.length → lateB cso pso gr day q = true → (lateK cs ps gr day cs.length).any ((q : Int) == ·) = true) := fun q h1 h2 => List.any_eq_true.2 ⟨(q : Int), lateK_mem.2 ⟨q, rfl, h1, HZO.out.late q h1 h2⟩, by simp⟩
                              have hll : (lateK cs ps gr day cs.length).length ≤ 8 := Nat.le_trans (lateK_len _ _ _ _ _) (by omega)
                              cases bb
                              case' true => have dn2 := HDN.out rfl
                              all_goals
                                go_wp2_with fail
                                go_loopw [267] (fun iv wq => ∃ j : Nat, iv = .int .i64 j ∧ j ≤ (lateK cso pso gr day cso.length).length ∧ Hid (Below wr.heap.size wr wq)) (fun iv _ => (lateK cso pso gr day cso.length).length - (intOf iv).toNat)
                                case atStart => exact ⟨0, rfl, by omega, Below.refl _ _⟩
                                case round =>
                                  obtain ⟨j, rfl, hj, HZ⟩ := hrel
                                  by_cases hjl : j < (lateK cso pso gr day cso.length).length
                                  · obtain ⟨q, eq, hq, hlq⟩ := lateK_at hjl
                                    obtain ⟨b5', o5, rfl, hbb5, e5⟩ := (HLe.out.below HZ.out).int (t := lateK cso pso gr day cso.length) hjl
                                    rw [eq] at e5
                                    have hbb5' : b5' < wr.heap.size := Nat.lt_of_lt_of_le hbb5 HZ.out.size
                                    have hjz : (j : Int) < ((lateK cso pso gr day cso.length).length : Int) := by omega
                                    clear eq
                                    by_cases hqc2 : q < cs.length
                                    · have hqz : (q : Int) < cs.length := by omega
                                      have hany := hqc.out q hqc2 hlq
                                      have hcont := contains_any Lt cL (lateK cs ps gr day cs.length) q wr (HLde.out.next HZ.out) (by omega)
                                      rw [hany] at hcont
                                      have HCONT := Lib.hid hcont
                                      clear hany hcont
                                      go_wp2_with fail
                                      refine HCONT.out.mono ?_
                                      rintro e wE ⟨rfl, hbE⟩
                                      go_wp2_with fail
                                      go_roundw
                                      case rel => exact ⟨j + 1, by go_num, by omega, HZ.out.trans (hbE.mono HZ.out.size)⟩
                                      case measure => simp [intOf]; omega
                                    · have hqz : ¬ (q : Int) < cs.length := by omega
                                      go_wp2_with fail
                                      go_roundw
                                      case rel => exact ⟨j + 1, by go_num, by omega, HZ⟩
                                      case measure => simp [intOf]; omega
                                  · go_wp2_with fail
                                    go_roundw
                                    case rel => exact ⟨k + 1, by go_num, by omega, HXe.out.trans (HZ.out.mono HXe.out.size)⟩
                                    case measure => simp [intOf]; omega
                        · have hkz : ¬ (k : Int) < 3 := by omega
                          have HC4e := Lib.hid (HC42.out.next HX.out)
                          have HA4e := Lib.hid (HA42.out.next HX.out)
                          have HPe := Lib.hid (HP2.out.next HX.out)
                          have HLe := Lib.hid (HLt2.out.next HX.out)
                          have HBe := Lib.hid (HBL.out.trans (HX.out.mono HBL.out.size))
                          have hpd := fun w1 (hb : Below wr.heap.size wr w1) => paidG_any (HA4e.out.next hb)
                          have hlt4 := fun w1 (hb : Below wr.heap.size wr w1) => lateG_any (day := day + by_) (HA4e.out.next hb) (by omega) (by omega)
                          have c0e : ∀ e ∈ cs, 0 ≤ e.1 := fun e he => (HA.out.ok.call e he).1
                          simp only [shiftD_length] at hpd hlt4
                          rw [lateK_shift by0 c0e (up_of HA.out.ok.prise) _ (Nat.le_refl _), lateC_shift by0 c0e (up_of HA.out.ok.prise) _ (Nat.le_refl _), HCO.out] at hlt4
                          have HPD := Lib.hid hpd
                          have HLT4 := Lib.hid hlt4
                          clear hpd hlt4 HA4e
                          obtain ⟨lb, y0, y1, y2, y3⟩ := HC4e.out
                          go_wp2_with fail
                          refine (HPD.out _ (Below.refl _ _)).mono ?_
                          rintro e wF ⟨vt, rfl, hot, hbF⟩
                          obtain ⟨Tn, cT, rfl, hcT, hT⟩ := own_slice hot
                          have HT := Lib.hid hT
                          have HC4f := Lib.hid (HC4e.out.next hbF)
                          have HPf := Lib.hid (HPe.out.next hbF)
                          have HLf := Lib.hid (HLe.out.next hbF)
                          have HBf := Lib.hid (HBe.out.trans (hbF.mono HBe.out.size))
                          have HLT5 := Lib.hid (HLT4.out _ hbF)
                          clear hot hT hbF HC4e HPe HLe HBe HLT4 HPD lb y0 y1 y2 y3
                          obtain ⟨lb, y0, y1, y2, y3⟩ := HC4f.out
                          go_wp2_with fail
                          refine HLT5.out.mono ?_
                          rintro e wG ⟨vg, rfl, hog, hbG⟩
                          obtain ⟨Lg, cG, rfl, hcG, hLg⟩ := own_slice hog
                          have HLg := Lib.hid hLg
                          have HTg := Lib.hid (HT.out.next hbG)
                          have HPg := Lib.hid (HPf.out.next hbG)
                          have HLtg := Lib.hid (HLf.out.next hbG)
                          have HBg := Lib.hid (HBf.out.trans (hbG.mono HBf.out.size))
                          clear hog hLg hbG HC4f HPf HLf HBf HLT5 HT lb y0 y1 y2 y3
                          go_wp2_with fail
                          refine (alikeInt_any Lg Lt cG cL (lateK cs ps gr day cs.length) (lateK cs ps gr day cs.length) wG HLg.out HLtg.out (by have := lateK_len cs ps gr day cs.length; omega)).mono ?_
                          rintro e wH ⟨rfl, hbH⟩
                          rw [decide_eq_true rfl]
                          have HTh := Lib.hid (HTg.out.next hbH)
                          have HPh := Lib.hid (HPg.out.next hbH)
                          have HBh := Lib.hid (HBg.out.trans (hbH.mono HBg.out.size))
                          clear hbH HTg HPg HBg HLg HLtg
                          go_wp2_with fail
                          go_loopw [323] (fun iv wr => ∃ i : Nat, iv = .int .i64 i ∧ i ≤ cs.length ∧ Hid (Below wH.heap.size wH wr)) (fun iv _ => cs.length - (intOf iv).toNat)
                          case atStart => exact ⟨0, rfl, by omega, Below.refl _ _⟩
                          case round =>
                            obtain ⟨i, rfl, hi, HY⟩ := hrel
                            by_cases hil : i < cs.length
                            · obtain ⟨b3', o3, rfl, hbb3, e3⟩ := (HPh.out.below HY.out).int (t := paidL cs ps) (k := i) (by unfold paidL; rw [paidK_length]; exact hil)
                              obtain ⟨b4', o4, rfl, hbb4, e4⟩ := (HTh.out.below HY.out).int (t := paidL (shiftD cs by_) (shiftD ps by_)) (k := i) (by unfold paidL; rw [paidK_length, shiftD_length]; exact hil)
                              have f3 : (paidL cs ps)[i]'(by unfold paidL; rw [paidK_length]; exact hil) = paidAt cs ps i := by simp [paidL, paidK]
                              have f4 : (paidL (shiftD cs by_) (shiftD ps by_))[i]'(by unfold paidL; rw [paidK_length, shiftD_length]; exact hil) = if paidAt cs ps i = -1 then -1 else paidAt cs ps i + by_ := by
                                rw [← paid_shift by0 c0e hil]; simp [paidL, paidK]
                              rw [f3] at e3
                              rw [f4] at e4
                              clear f3 f4
                              have hbb3' : b3' < wr.heap.size := Nat.lt_of_lt_of_le hbb3 HY.out.size
                              have hbb4' : b4' < wr.heap.size := Nat.lt_of_lt_of_le hbb4 HY.out.size
                              have hiz : (i : Int) < cs.length := by omega
                              have hbd : -1 ≤ paidAt cs ps i ∧ paidAt cs ps i ≤ 400 := payDay_in (by have := paidC_in HDAY.out hil; omega) (fun e he => by have := HPAY.out e he; omega)
                              generalize paidAt cs ps i = dd at e3 e4 hbd
                              by_cases hdd : dd = -1
                              · subst hdd
                                rw [if_pos rfl] at e4
                                have dx : ((-1 : Int) != -1) = false := rfl
                                have dy : ((-1 : Int) == -1) = true := rfl
                                go_wp2_with fail
                                go_roundw
                                case rel => exact ⟨i + 1, by go_num, by omega, HY⟩
                                case measure => simp [intOf]; omega
                              · rw [if_neg hdd] at e4
                                have dx : (dd != -1) = true := by simpa using hdd
                                have dy : (dd == -1) = false := by simpa using hdd
                                have dz : (dd + by_ != dd + by_) = false := by simp
                                clear hdd
                                go_wp2_with fail
                                go_roundw
                                case rel => exact ⟨i + 1, by go_num, by omega, HY⟩
                                case measure => simp [intOf]; omega
                            · go_wp2_with fail
                              refine (awake_any _).mono ?_
                              rintro e w15 ⟨rfl, hb15⟩
                              go_wp2_with fail
                              go_ret
                              have hx := HBh.out.trans (HY.out.mono HBh.out.size)
                              exact ⟨rfl, hx.trans (hb15.mono hx.size)⟩
end Go.Proofs.Ytfojjecnmfkcfaa
