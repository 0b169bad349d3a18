/- The shares by remainders. -/
import Derived.Test.YtfojjecnmfkcfaaShMath
import Derived.Test.YtfojjecnmfkcfaaSort3
import Derived.Test.YtfojjecnmfkcfaaPaid
import Derived.Test.YtfojjecnmfkcfaaAsk
import Derived.StillTailTactics
namespace Go.Proofs.Ytfojjecnmfkcfaa
open Go.RowKit
set_option linter.unusedVariables false
theorem idxL_snoc (n : Nat) : ints (idxL (n + 1)) = ints (idxL n) ++ [.int .i64 n] := by
  unfold idxL ints; rw [List.range_succ]; simp
theorem idxL_len (n : Nat) : (idxL n).length = n := by simp [idxL]
/-- An owned row that is written in place. -/
theorem own_lst {w : World} {base : Nat} {v : Value} {d : List Int} (h : w.ownsRow base 3 1 v d.length (ints d)) (hd : 1 ≤ d.length) : ∃ b c, v = .slice (some ⟨b, 0, none⟩) d.length c ∧ base ≤ b ∧ d.length ≤ c ∧ Lst w b d := by
  rcases h.2 with ⟨rfl, hx⟩ | ⟨b, cap, cur, rfl, hb, hg, hc, _, h3, h4⟩
  · omega
  · refine ⟨b, cap, rfl, hb, hc, (Array.getElem?_eq_some_iff.1 hg).1, fun j u hu => ?_, fun o => ?_⟩
    · have := h.cells (g := b) rfl j (.int .i64 u) (by simp [ints, hu])
      rwa [addr_add, Nat.zero_add] at this
    · unfold World.frozen?
      rw [hg]
      simp
theorem own_lst' {w : World} {base n : Nat} {v : Value} {d : List Int} (h : w.ownsRow base 3 1 v n (ints d)) (hn : d.length = n) (hd : 1 ≤ n) : ∃ b c, v = .slice (some ⟨b, 0, none⟩) n c ∧ base ≤ b ∧ n ≤ c ∧ Lst w b d := by
  subst hn
  exact own_lst h hd
theorem CmpEnv.bump {w : World} {bb bd g : Nat} {p : Int} {A : Option Addr} {c : Nat} {hs : List (Int × Int × Int)} {ps : List Int} {B : Nat} (h : CmpEnv w bb bd g p A c hs ps B) (h1 : bb ≠ g) (h2 : bd ≠ g) (h3 : B ≤ g) {j : Nat} (hj : j < 6) (v : Int) : CmpEnv (w.setCell ⟨g, 2 + j, none⟩ (.int .i64 v)) bb bd g p A c hs (ps.set j v) B := by
  have hg := grownBy_setCell w g (2 + j) (.int .i64 v)
  have e1 := World.cell?_of_block (a := ⟨bb, 0, none⟩) (hg.block bb h.lb (by intro e; injection e; omega))
  have e2 := World.cell?_of_block (a := ⟨bb, 1, none⟩) (hg.block bb h.lb (by intro e; injection e; omega))
  have e3 := World.cell?_of_block (a := ⟨bd, 0, none⟩) (hg.block bd h.ld (by intro e; injection e; omega))
  exact ⟨h.desk.bump hj v, e1.trans h.bill0, e2.trans h.bill1, e3.trans h.box, h.rd.keep fun b o hb => World.cell?_of_block (a := ⟨b, o, none⟩) (hg.block b (Nat.lt_of_lt_of_le hb h.le) (by intro e; injection e; omega)), Nat.lt_of_lt_of_le h.lb hg.size, Nat.lt_of_lt_of_le h.ld hg.size, Nat.le_trans h.le hg.size⟩
theorem paysOk_floors {p : Int} {hs : List (Int × Int × Int)} (ho : housesOk hs) (h0 : valueSum hs ≠ 0) (hp : 0 ≤ p) (hp5 : p ≤ 500) : paysOk hs (floorsK p hs hs.length) := by
  refine ⟨floorsK_len _ _ _, fun j => ?_⟩
  rw [floorsK_get]
  have := floor_get_bd ho h0 hp j
  split <;> omega
theorem keepSet {w : World} {g o b1 b2 b3 o1 o2 o3 : Nat} {v v1 v2 v3 : Value} (n1 : b1 ≠ g) (n2 : b2 ≠ g) (n3 : b3 ≠ g) (h1 : w.cell? ⟨b1, o1, none⟩ = some v1) (h2 : w.cell? ⟨b2, o2, none⟩ = some v2) (h3 : w.cell? ⟨b3, o3, none⟩ = some v3) :
    (w.setCell ⟨g, o, none⟩ v).cell? ⟨b1, o1, none⟩ = some v1 ∧ (w.setCell ⟨g, o, none⟩ v).cell? ⟨b2, o2, none⟩ = some v2 ∧ (w.setCell ⟨g, o, none⟩ v).cell? ⟨b3, o3, none⟩ = some v3 :=
  ⟨(World.cell?_setCell_other _ _ _ _ (by intro e; injection e with e _; exact n1 e.symm)).trans h1, (World.cell?_setCell_other _ _ _ _ (by intro e; injection e with e _; exact n2 e.symm)).trans h2, (World.cell?_setCell_other _ _ _ _ (by intro e; injection e with e _; exact n3 e.symm)).trans h3⟩
set_option maxRecDepth 100000 in
set_option maxHeartbeats 4000000 in
theorem Shares_any (A : Option Addr) (c : Nat) (p : Int) (hs : List (Int × Int × Int)) (w : World) (hr : Rd w w.heap.size A (trips hs)) (hl : hs.length ≤ 1000) :
    Calls Try.prog 57 #[.agg #[.int .i64 p, .slice A hs.length c]] w (RetOwnE 3 1 (sharesL p hs).length (ints (sharesL p hs)) (shareCode p hs) w) := by
  obtain ⟨i0, ihi, ihz0, ihz1, ihz2⟩ := info_parts infoIntP
  have HO := fun w1 (hb : Below w.heap.size w w1) => Lib.hid (opened_any A c p hs w1 (hr.next hb) hl)
  by_cases h0 : ckBill p hs = 0
  · have ho := housesOk_of h0
    obtain ⟨p0, p1, l1, _⟩ := ckBill_ok h0
    have H0 := Lib.hid h0
    have hl6 := ho.1
    have HT := fun g A' ps W hd hr' => Lib.hid (total_any g p A' c hs ps W hd hr' ho)
    by_cases hv : valueSum hs = 0
    · have e1 : shareCode p hs = 1 := by unfold shareCode; rw [if_pos h0, if_pos hv]
      have e2 : sharesL p hs = [] := by unfold sharesL; rw [e1]; rfl
      rw [e1, e2]
      rw [hv] at HT
      clear h0 e1 e2
      go_enter Try.func57, Try.ntmps57
      go_wp2_with fail
      refine (HO _ (by go_grown)).out.mono ?_
      rintro e w1 (⟨_, g, rfl, hg, hd, hb1⟩ | ⟨hne, _⟩)
      · have hbw : Below w.heap.size w w1 := Below.trans (by go_grown) (hb1.mono (by simp))
        go_wp2_with fail
        refine (HT g _ _ _ (hd.alloc _) ((hr.next hbw).alloc _)).out.mono ?_
        rintro e w2 ⟨rfl, hb2⟩
        have hbw2 : Below w.heap.size w w2 := (hbw.alloc hbw.size _).trans (hb2.mono (by have := hbw.size; simp; omega))
        go_wp2_with fail
        go_ret2
        exact ⟨_, rfl, World.ownsRow_nil _ _ _ _, hbw2⟩
      · exact absurd H0.out hne
    · have e1 : shareCode p hs = 0 := by unfold shareCode; rw [if_pos h0, if_neg hv]
      have e2 : sharesL p hs = (sharesPs p hs).take hs.length := by unfold sharesL; rw [if_pos e1]
      have e3 : ((sharesPs p hs).take hs.length).length = hs.length := by
        rw [List.length_take, show (sharesPs p hs).length = 6 by unfold sharesPs; rw [bumps_len, floorsK_len]]; omega
      rw [e1, e2, e3]
      have hv' : (valueSum hs == 0) = false := by rw [beq_eq_false_iff_ne]; exact hv
      clear h0 e1 e2 e3
      obtain ⟨bh, oh, rfl, hbh⟩ := hr.addr (k := 0) (by rw [trips_length]; omega)
      go_enter Try.func57, Try.ntmps57
      go_wp2_with fail
      refine (HO _ (by go_grown)).out.mono ?_
      rintro e w1 (⟨_, g, rfl, hg, hd, hb1⟩ | ⟨hne, _⟩)
      · have hbw : Below w.heap.size w w1 := Below.trans (by go_grown) (hb1.mono (by simp))
        have hc0 := hb1.cell (p := ⟨w.heap.size, 0, none⟩) (by simp)
        have hc1 := hb1.cell (p := ⟨w.heap.size, 1, none⟩) (by simp)
        have hz1 := hb1.size
        simp at hg hc0 hc1 hz1
        go_wp2_with fail
        refine (HT g _ _ _ (hd.alloc _) ((hr.next hbw).alloc _)).out.mono ?_
        rintro e w2 ⟨rfl, hb2⟩
        have hz2 := hb2.size
        simp at hz2
        have hgl := hd.lt
        have hE : CmpEnv w2 w.heap.size w1.heap.size g p (some ⟨bh, oh, none⟩) c hs (floorsK p hs 0) w.heap.size := by
          rw [floorsK_zero]
          refine CmpEnv.below ⟨hd.alloc _, (World.cell?_alloc_lt w1 _ ⟨w.heap.size, 0, none⟩ (by show w.heap.size < w1.heap.size; omega)).trans hc0, (World.cell?_alloc_lt w1 _ ⟨w.heap.size, 1, none⟩ (by show w.heap.size < w1.heap.size; omega)).trans hc1, by simp, hr.below (hbw.alloc hbw.size _), by simp; omega, by simp, by simp; omega⟩ hb2
        have hbw2 : Below w.heap.size w w2 := (hbw.alloc hbw.size _).trans (hb2.mono (by simp; omega))
        have HE := Lib.hid hE
        have m1 := hE.bill1
        clear hE hb2 hc0 hc1 hd hb1
        go_wp2_with fail
        go_loopw [6, 7, 8, 27] (fun v _ _ i wr => ∃ k : Nat, k ≤ hs.length ∧ i = .int .i64 k ∧ Hid (CmpEnv wr w.heap.size w1.heap.size g p (some ⟨bh, oh, none⟩) c hs (floorsK p hs k) w.heap.size) ∧ wr.ownsRow w2.heap.size 3 1 v k (ints (idxL k)) ∧ Below w.heap.size w wr ∧ w2.heap.size ≤ wr.heap.size) (fun _ _ _ i _ => hs.length - (intOf i).toNat)
        case atStart => exact ⟨0, Nat.zero_le _, rfl, HE, World.ownsRow_nil _ _ _ _, hbw2, Nat.le_refl _⟩
        case round =>
          obtain ⟨k, hk, rfl, HEk, hown, hbr, hzr⟩ := hrel
          by_cases hlt : k < hs.length
          · have HOW := Lib.hid hown
            clear hown
            obtain ⟨x1, x2, x3⟩ := (hr.below hbr).trip' hlt
            have hbh' : bh < wr.heap.size := Nat.lt_of_lt_of_le hbh hbr.size
            go_wp2_with fail
            obtain ⟨W4, hW4⟩ : ∃ W4, W4 = wr.alloc (.cells #[.int .i64 hs[k].1, .int .i64 hs[k].2.1, .int .i64 hs[k].2.2] 65) := ⟨_, rfl⟩
            rw [← hW4]
            have hb4 : Below wr.heap.size wr W4 := by rw [hW4]; exact below_new _ _
            have x4 : W4.cell? ⟨wr.heap.size, 0, none⟩ = some (.int .i64 hs[k].1) := by rw [hW4]; exact news_new wr [.int .i64 hs[k].1, .int .i64 hs[k].2.1, .int .i64 hs[k].2.2] 65 rfl 0 _ rfl
            have hz4 : W4.heap.size = wr.heap.size + 1 := by rw [hW4]; simp
            have hE4 := HEk.out.below hb4
            have y1 := hE4.bill0
            have y2 := hE4.box
            have hd4 := hE4.desk
            have y3 := hd4.at_ (i := k) (by omega)
            have y4 := hd4.free (2 + k)
            have y5 := hE4.lb
            have y6 := hE4.ld
            have y7 := hd4.lt
            have y8 : wr.heap.size < W4.heap.size := by omega
            have HT4 : ∀ n, Hid (Calls Try.prog 116 #[.pointer (some ⟨g, 0, none⟩)] (W4.drewN n) fun e w' => e = .returned (.int .i64 (valueSum hs)) ∧ w'.cell? ⟨w.heap.size, 0, none⟩ = some (.int .i64 p) ∧ w'.cell? ⟨w1.heap.size, 0, none⟩ = some (.pointer (some ⟨g, 0, none⟩)) ∧ w'.cell? ⟨wr.heap.size, 0, none⟩ = some (.int .i64 hs[k].1) ∧ w'.cell? ⟨g, 2 + k, none⟩ = some (.int .i64 ((floorsK p hs k)[k]'(by rw [floorsK_len]; omega))) ∧ w'.frozen? ⟨g, 2 + k, none⟩ = false ∧ Below W4.heap.size W4 w') := by
              intro n
              refine (HT g _ _ (W4.drewN n) (hd4.drewN n) ((hE4.rd.more hE4.le).drewN n)).out.mono ?_
              rintro e w' ⟨rfl, hb⟩
              have hb' : Below W4.heap.size W4 w' := (below_drewN (Below.refl _ _) n).trans hb
              exact ⟨rfl, (hb'.cell (p := ⟨w.heap.size, 0, none⟩) y5).trans y1, (hb'.cell (p := ⟨w1.heap.size, 0, none⟩) y6).trans y2, (hb'.cell (p := ⟨wr.heap.size, 0, none⟩) y8).trans x4, (hb'.cell (p := ⟨g, 2 + k, none⟩) y7).trans y3, (hb'.frozen (p := ⟨g, 2 + k, none⟩) y7).trans y4, hb'⟩
            have hgd : hs.getD k (0, 0, 0) = hs[k] := by simp [List.getD_eq_getElem?_getD, List.getElem?_eq_getElem hlt]
            obtain ⟨u1, u2, _⟩ := ho.2 hs[k] (List.getElem_mem _)
            obtain ⟨n1, n2⟩ := mul_bd p0 p1 u1 u2 (by omega)
            obtain ⟨f1, f2⟩ := floor_get_bd ho hv p0 k
            have hfo : floorOf p hs k = p * hs[k].1 / valueSum hs := by unfold floorOf; rw [hgd]
            rw [hfo] at f1 f2
            have hk6 : (k : Int) < 6 := by omega
            have hk0 : (0 : Int) ≤ (k : Int) := by omega
            have q1 : IntKind.i64.wrap (p * hs[k].1) = p * hs[k].1 := IntWalk.i64_in _ (by omega)
            have q2 : (p * hs[k].1).tdiv (valueSum hs) = p * hs[k].1 / valueSum hs := Int.tdiv_eq_ediv_of_nonneg n1
            have q3 : IntKind.i64.wrap (p * hs[k].1 / valueSum hs) = p * hs[k].1 / valueSum hs := IntWalk.i64_in _ (by omega)
            have HFO := Lib.hid hfo
            have HHD := Lib.hid (And.intro hd4 hE4)
            clear hW4 hE4 hgd hfo x1 x2 x3
            have g1 : w.heap.size ≠ g := by omega
            have g2 : w1.heap.size ≠ g := by omega
            have g3 : wr.heap.size ≠ g := by omega
            go_region_held3 (fun w' => w'.cell? ⟨w.heap.size, 0, none⟩ = some (.int .i64 p) ∧ w'.cell? ⟨w1.heap.size, 0, none⟩ = some (.pointer (some ⟨g, 0, none⟩)) ∧ w'.cell? ⟨wr.heap.size, 0, none⟩ = some (.int .i64 hs[k].1)) (first | exact ⟨y1, y2, x4⟩ | exact ⟨z1, z2, z3⟩ | exact keepSet g1 g2 g3 z1 z2 z3)
              (first | (go_at_call 116; refine (HT4 1).out.mono ?_; rintro e w5 ⟨rfl, z1, z2, z3, z4, z5, hb5⟩))
            obtain ⟨W6, hW6⟩ : ∃ W6, W6 = w5.setCell ⟨g, 2 + k, none⟩ (.int .i64 (p * hs[k].1 / valueSum hs)) := ⟨_, rfl⟩
            rw [← hW6]
            have hgr : wr.grownBy W6 (some g) := by rw [hW6]; exact grownBy_trans (below_grown _ hb4) (grownBy_trans (below_grown _ hb5) (grownBy_setCell _ _ _ _))
            have hE6 : CmpEnv W6 w.heap.size w1.heap.size g p (some ⟨bh, oh, none⟩) c hs (floorsK p hs (k + 1)) w.heap.size := by
              have h := (HHD.out.2.below hb5).bump g1 g2 (by omega) (j := k) (by omega) (p * hs[k].1 / valueSum hs)
              rw [← hW6, ← HFO.out, floorsK_set p hs k (by omega)] at h
              exact h
            have own6 := HOW.out.kept hgr (.inr (fun e => by have := (HOW.out.lt g e).1; omega))
            have hb6 : Below w.heap.size w W6 := hbr.grown hgr hbr.size (fun q hq => by injection hq with hq; omega)
            have hz6 : w2.heap.size ≤ W6.heap.size := Nat.le_trans hzr hgr.size
            have HE6 := Lib.hid hE6
            have HO6 := Lib.hid own6
            clear hW6 hE6 own6 HHD HOW HFO z1 z2 z3 z4 z5 y1 y2 y3 y4 q1 q2 q3 hd4 x4 HT4
            go_wp2_with (at_builtin; refine wpList_append_own_at _ rfl _ _ 45 rfl w2.heap.size 3 i0 _ 1 8 Try.underlying45 ihi ihz0 ihz1 ihz2 rfl (by decide) _ _ _ rfl (HO6.out.alloc _) ⟨W6.heap.size, 0, none⟩ 1 1 [.int .i64 k] rfl rfl (news_new _ _ _ rfl) (by simp [Value.oneCell']) (by simp only [maxLen]; omega) (by omega) (by simp; omega) ?_; intro v1 w7 hown1 hgrow1 _ hat1)
            go_roundw
            case rel =>
              refine ⟨k + 1, by omega, by go_num, ?_, by rw [idxL_snoc]; exact hown1, (hb6.alloc hb6.size _).grown hgrow1 (by have := hb6.size; simp; omega) (fun q hq => by have := (HO6.out.lt q hq).1; omega), by have := hgrow1.size; simp at this; omega⟩
              have hEa := HE6.out.below (below_new W6 (.cells #[.int .i64 k] 3))
              refine hEa.keep hgrow1.size fun q hq => hgrow1.block q ?_ ?_
              · simp; omega
              · intro e
                have := (HO6.out.lt q e.symm).1
                omega
            case measure => simp [intOf]; omega
          · obtain rfl : k = hs.length := by omega
            obtain ⟨bs, cs, rfl, hbs, hcs, hLst⟩ := own_lst' hown (idxL_len _) l1
            have hS := sortStable_any w.heap.size w1.heap.size g p (some ⟨bh, oh, none⟩) c hs (floorsK p hs hs.length) w.heap.size bs cs (idxL hs.length) wr HEk.out ho hv p0 p1 hLst (by omega) (by omega) (by omega) (by omega) (by rw [idxL_len]; exact l1) (by rw [idxL_len]; exact hl6) idxL_mem
            rw [idxL_len] at hS
            have HS := Lib.hid hS
            clear hS hown hlt
            go_wp2_with fail
            refine HS.out.mono ?_
            rintro e w8 ⟨rfl, hL8, hg8⟩
            have hE8 := HEk.out.grown hg8 (by omega) (by omega) (by omega) (by omega)
            have hb8 : Below w.heap.size w w8 := hbr.grown hg8 hbr.size (fun q hq => by injection hq with hq; omega)
            have HSum : ∀ n, Hid (Calls Try.prog 112 #[.slice (some ⟨g, 2, none⟩) 6 6] (w8.drewN n) fun e w' => e = .returned (.int .i64 (floorsK p hs hs.length).sum) ∧ w' = w8.drewN n) := fun n => sum6_any (hs := hs) (hE8.desk.drewN n) (paysOk_floors ho hv p0 p1)
            obtain ⟨s1, s2, s3⟩ := floors_bd ho hv p0
            obtain ⟨M, hM⟩ : ∃ M : Nat, p - (floorsK p hs hs.length).sum = M := ⟨(p - (floorsK p hs hs.length).sum).toNat, by omega⟩
            have hMn : M ≤ hs.length := by omega
            have HFin : Hid (sharesPs p hs = bumps (floorsK p hs hs.length) ((byRem p hs).take M)) := by
              show _ = _
              unfold sharesPs
              rw [hM, Int.toNat_natCast]
            have hby : (byRem p hs).length = hs.length := by unfold byRem; rw [insSort_length, idxL_len]
            have hbm : ∀ x ∈ byRem p hs, ∃ i : Nat, x = i ∧ i < hs.length := fun x hx => idxL_mem x (insSort_mem _ _ (by rw [idxL_len]; exact l1) x hx)
            have HBM := Lib.hid hbm
            have HL8 : Hid (Lst w8 bs (byRem p hs)) := hL8
            have HE8 := Lib.hid hE8
            have HBY := Lib.hid hby
            have HPO := Lib.hid (paysOk_floors (p := p) ho hv p0 p1)
            have y1 := hE8.bill0
            have y2 := hE8.box
            have y7 := hE8.desk.lt
            have q0 : IntKind.i64.wrap (p - (floorsK p hs hs.length).sum) = (M : Int) := by rw [hM]; exact IntWalk.i64_in _ (by omega)
            have m2 : (M : Int) ≤ (cs : Int) := by omega
            have m3 : (0 : Int) ≤ (M : Int) := by omega
            clear hL8 hE8 hby hbm HS hM s1 s2 s3
            go_wp2_with fail
            go_quiet ((first | (go_at_call 112; exact Calls.quiet_of_same (HSum _).out)))
            clear q0
            go_wp2_with fail
            go_loopw [10, 64] (fun _ i wr => ∃ j : Nat, j ≤ M ∧ i = .int .i64 j ∧ Hid (Desk wr g p (some ⟨bh, oh, none⟩) hs.length c (bumps (floorsK p hs hs.length) ((byRem p hs).take j))) ∧ Hid (Lst wr bs (byRem p hs)) ∧ wr.cell? ⟨w1.heap.size, 0, none⟩ = some (.pointer (some ⟨g, 0, none⟩)) ∧ w1.heap.size < wr.heap.size ∧ Below w.heap.size w wr) (fun _ i _ => M - (intOf i).toNat)
            case atStart => exact ⟨0, Nat.zero_le _, rfl, HE8.out.desk.drewN _, HL8.out.drewN _, y2, HE8.out.ld, below_drewN hb8 _⟩
            case round =>
              obtain ⟨j, hj, rfl, HD, HL, hbx, hbz, hbj⟩ := hrel
              by_cases hlt : j < M
              · have hjl : j < (byRem p hs).length := by rw [HBY.out]; omega
                obtain ⟨i, hi, hil⟩ := HBM.out (byRem p hs)[j] (List.getElem_mem _)
                have hci := HL.out.at_ hjl
                rw [hi] at hci
                have hlz := HL.out.lt
                have hpl : (bumps (floorsK p hs hs.length) ((byRem p hs).take j)).length = 6 := by rw [bumps_len, floorsK_len]
                have hat := HD.out.at_ (i := i) (by omega)
                have hfz := HD.out.free (2 + i)
                have hglt := HD.out.lt
                have hbd := bumps_bd HPO.out.1 HPO.out.2 (byRem p hs) j (by omega) i
                have hgg : (bumps (floorsK p hs hs.length) ((byRem p hs).take j)).getD i 0 = (bumps (floorsK p hs hs.length) ((byRem p hs).take j))[i]'(by rw [hpl]; omega) := by simp [List.getD_eq_getElem?_getD, List.getElem?_eq_getElem (show i < (bumps (floorsK p hs hs.length) ((byRem p hs).take j)).length by rw [hpl]; omega)]
                have hsn := bumps_snoc (floorsK p hs hs.length) (byRem p hs) j hjl
                rw [hi, Int.toNat_natCast] at hsn
                unfold bump at hsn
                rw [hgg] at hsn hbd
                have HSN := Lib.hid hsn
                have hjm : (j : Int) < (M : Int) := by omega
                have hi6 : (i : Int) < 6 := by omega
                have hi0 : (0 : Int) ≤ (i : Int) := by omega
                have hj6 : (j : Int) ≤ 6 := by omega
                obtain ⟨b1, b2⟩ := hbd
                have q1 : IntKind.i64.wrap ((bumps (floorsK p hs hs.length) ((byRem p hs).take j))[i]'(by rw [hpl]; omega) + 1) = (bumps (floorsK p hs hs.length) ((byRem p hs).take j))[i]'(by rw [hpl]; omega) + 1 := IntWalk.i64_in _ (by omega)
                clear hsn hgg hi
                go_wp2_with fail
                go_region
                clear q1
                all_goals go_wp2_with fail
                go_roundw
                case rel =>
                  have hgr := grownBy_setCell wr g (2 + i) (.int .i64 ((bumps (floorsK p hs hs.length) ((byRem p hs).take j))[i]'(by rw [hpl]; omega) + 1))
                  refine ⟨j + 1, by omega, by go_num, ?_, ?_, ?_, by simpa [World.setCell] using hbz, below_drewN (hbj.grown hgr hbj.size (fun q hq => by injection hq with hq; omega)) 1⟩
                  · show Desk _ _ _ _ _ _ _
                    rw [HSN.out]
                    exact (HD.out.bump (by omega) _).drewN 1
                  · exact (show Lst _ _ _ from ⟨Nat.lt_of_lt_of_le hlz hgr.size, fun q u hu => (World.cell?_of_block (a := ⟨bs, q, none⟩) (hgr.block bs hlz (by intro e; injection e; omega))).trans (HL.out.cells q u hu), fun o => (World.frozen?_of_block (a := ⟨bs, o, none⟩) (hgr.block bs hlz (by intro e; injection e; omega))).trans (HL.out.free o)⟩)
                  · exact (World.cell?_of_block (a := ⟨w1.heap.size, 0, none⟩) (hgr.block w1.heap.size hbz (by intro e; injection e; omega))).trans hbx
                case measure => simp [intOf]; omega
              · obtain rfl : j = M := by omega
                have HLi := fun W hb => Lib.hid (list_any g p (some ⟨bh, oh, none⟩) hs.length c _ W (HD.out.below hb) hl6)
                clear hlt
                go_wp2_with fail
                refine (HLi _ (Below.refl _ _)).out.mono ?_
                rintro e w9 ⟨v, rfl, hown, hb9⟩
                have HO := Lib.hid hown
                clear hown
                go_wp2_with fail
                go_ret2
                refine ⟨v, rfl, ?_, hbj.trans (hb9.mono hbj.size)⟩
                rw [HFin.out]
                exact HO.out.base_ hbj.size
      · exact absurd H0.out hne
  · have e1 : shareCode p hs = ckBill p hs := by unfold shareCode; rw [if_neg h0]
    have e2 : sharesL p hs = [] := by unfold sharesL; rw [e1, if_neg h0]
    rw [e1, e2]
    have h0' : (ckBill p hs == 0) = false := by simpa using h0
    have h0'' : (ckBill p hs != 0) = true := by simpa using h0
    have H0 := Lib.hid h0
    clear h0 e1 e2
    go_enter Try.func57, Try.ntmps57
    go_wp2_with fail
    refine (HO _ (by go_grown)).out.mono ?_
    rintro e w1 (⟨hz, _⟩ | ⟨_, rfl, hb1⟩)
    · exact absurd hz H0.out
    · have hbw : Below w.heap.size w w1 := Below.trans (by go_grown) (hb1.mono (by simp))
      go_wp2_with fail
      go_ret2
      exact ⟨_, rfl, World.ownsRow_nil _ _ _ _, hbw.alloc hbw.size _⟩
end Go.Proofs.Ytfojjecnmfkcfaa
