/- The shares by remainders. The examples' values: Tariff, Three, Account. What the examples come to. What the examples about bills come to. The examples of the chapter: awake() is true. Arguments that are slices of structs of integers, opened: what the walks read. Arguments that are bills, accounts and lists of numbers, opened: what the walks read. -/
import Derived.Test.YtfojjecnmfkcfaaGreatP9
import Derived.Test.YtfojjecnmfkcfaaGreatP10
import Derived.Test.YtfojjecnmfkcfaaGreatP6
import Derived.StillTailTactics
import Derived.Test.YtfojjecnmfkcfaaGreatP8
import Derived.Test.YtfojjecnmfkcfaaGreatP2
import Derived.Test.YtfojjecnmfkcfaaGreatP7
import Derived.Test.YtfojjecnmfkcfaaGreatP4
import Derived.Deep.Slices
import Derived.Deep.Fields
import Derived.ChangeSame
import Derived.ChangeArms
import Derived.Lib.SmallJoins
import Derived.WalkKit
import Derived.ProofKit
import Derived.OpenShut
import Derived.ChangeOld
import Derived.Below
namespace Go.Proofs.YtfojjecnmfkcfaaGreat
open Go.RowKit
set_option linter.unusedVariables false
theorem idxL_snoc (n : Nat) : ints (idxL (n + 1)) = ints (idxL n) ++ [.int .i64 n] := by
  unfold idxL ints; rw [List.range_succ]; simp
theorem idxL_len (n : Nat) : (idxL n).length = n := by simp [idxL]
/-- An owned row that is written in place. -/
theorem own_lst {w : World} {base : Nat} {v : Value} {d : List Int} (h : w.ownsRow base 3 1 v d.length (ints d)) (hd : 1 ≤ d.length) : ∃ b c, v = .slice (some ⟨b, 0, none⟩) d.length c ∧ base ≤ b ∧ d.length ≤ c ∧ Lst w b d := by
  rcases h.2 with ⟨rfl, hx⟩ | ⟨b, cap, cur, rfl, hb, hg, hc, _, h3, h4⟩
  · omega
  · refine ⟨b, cap, rfl, hb, hc, (Array.getElem?_eq_some_iff.1 hg).1, fun j u hu => ?_, fun o => ?_⟩
    · have := h.cells (g := b) rfl j (.int .i64 u) (by simp [ints, hu])
      rwa [addr_add, Nat.zero_add] at this
    · unfold World.frozen?
      rw [hg]
      simp
theorem own_lst' {w : World} {base n : Nat} {v : Value} {d : List Int} (h : w.ownsRow base 3 1 v n (ints d)) (hn : d.length = n) (hd : 1 ≤ n) : ∃ b c, v = .slice (some ⟨b, 0, none⟩) n c ∧ base ≤ b ∧ n ≤ c ∧ Lst w b d := by
  subst hn
  exact own_lst h hd
theorem CmpEnv.bump {w : World} {bb bd g : Nat} {p : Int} {A : Option Addr} {c : Nat} {hs : List (Int × Int × Int)} {ps : List Int} {B : Nat} (h : CmpEnv w bb bd g p A c hs ps B) (h1 : bb ≠ g) (h2 : bd ≠ g) (h3 : B ≤ g) {j : Nat} (hj : j < 6) (v : Int) : CmpEnv (w.setCell ⟨g, 2 + j, none⟩ (.int .i64 v)) bb bd g p A c hs (ps.set j v) B := by
  have hg := grownBy_setCell w g (2 + j) (.int .i64 v)
  have e1 := World.cell?_of_block (a := ⟨bb, 0, none⟩) (hg.block bb h.lb (by intro e; injection e; omega))
  have e2 := World.cell?_of_block (a := ⟨bb, 1, none⟩) (hg.block bb h.lb (by intro e; injection e; omega))
  have e3 := World.cell?_of_block (a := ⟨bd, 0, none⟩) (hg.block bd h.ld (by intro e; injection e; omega))
  exact ⟨h.desk.bump hj v, e1.trans h.bill0, e2.trans h.bill1, e3.trans h.box, h.rd.keep fun b o hb => World.cell?_of_block (a := ⟨b, o, none⟩) (hg.block b (Nat.lt_of_lt_of_le hb h.le) (by intro e; injection e; omega)), Nat.lt_of_lt_of_le h.lb hg.size, Nat.lt_of_lt_of_le h.ld hg.size, Nat.le_trans h.le hg.size⟩
theorem paysOk_floors {p : Int} {hs : List (Int × Int × Int)} (ho : housesOk hs) (h0 : valueSum hs ≠ 0) (hp : 0 ≤ p) (hp5 : p ≤ 500) : paysOk hs (floorsK p hs hs.length) := by
  refine ⟨floorsK_len _ _ _, fun j => ?_⟩
  rw [floorsK_get]
  have := floor_get_bd ho h0 hp j
  split <;> omega
theorem keepSet {w : World} {g o b1 b2 b3 o1 o2 o3 : Nat} {v v1 v2 v3 : Value} (n1 : b1 ≠ g) (n2 : b2 ≠ g) (n3 : b3 ≠ g) (h1 : w.cell? ⟨b1, o1, none⟩ = some v1) (h2 : w.cell? ⟨b2, o2, none⟩ = some v2) (h3 : w.cell? ⟨b3, o3, none⟩ = some v3) :
    (w.setCell ⟨g, o, none⟩ v).cell? ⟨b1, o1, none⟩ = some v1 ∧ (w.setCell ⟨g, o, none⟩ v).cell? ⟨b2, o2, none⟩ = some v2 ∧ (w.setCell ⟨g, o, none⟩ v).cell? ⟨b3, o3, none⟩ = some v3 :=
  ⟨(World.cell?_setCell_other _ _ _ _ (by intro e; injection e with e _; exact n1 e.symm)).trans h1, (World.cell?_setCell_other _ _ _ _ (by intro e; injection e with e _; exact n2 e.symm)).trans h2, (World.cell?_setCell_other _ _ _ _ (by intro e; injection e with e _; exact n3 e.symm)).trans h3⟩
set_option maxRecDepth 100000 in
set_option maxHeartbeats 4000000 in
theorem Shares_any (A : Option Addr) (c : Nat) (p : Int) (hs : List (Int × Int × Int)) (w : World) (hr : Rd w w.heap.size A (trips hs)) (hl : hs.length ≤ 1000) :
    Calls Tryz.prog 23 #[.agg #[.int .i64 p, .slice A hs.length c]] w (RetOwnE 3 1 (sharesL p hs).length (ints (sharesL p hs)) (shareCode p hs) w) := by
  obtain ⟨i0, ihi, ihz0, ihz1, ihz2⟩ := info_parts infoIntP
  have HO := fun w1 (hb : Below w.heap.size w w1) => Lib.hid (opened_any A c p hs w1 (hr.next hb) hl)
  by_cases h0 : ckBill p hs = 0
  · have ho := housesOk_of h0
    obtain ⟨p0, p1, l1, _⟩ := ckBill_ok h0
    have H0 := Lib.hid h0
    have hl6 := ho.1
    have HT := fun g A' ps W hd hr' => Lib.hid (total_any g p A' c hs ps W hd hr' ho)
    by_cases hv : valueSum hs = 0
    · have e1 : shareCode p hs = 1 := by unfold shareCode; rw [if_pos h0, if_pos hv]
      have e2 : sharesL p hs = [] := by unfold sharesL; rw [e1]; rfl
      rw [e1, e2]
      rw [hv] at HT
      clear h0 e1 e2
      go_enter Tryz.func23, Tryz.ntmps23
      go_wp2_with fail
      refine (HO _ (by go_grown)).out.mono ?_
      rintro e w1 (⟨_, g, rfl, hg, hd, hb1⟩ | ⟨hne, _⟩)
      · have hbw : Below w.heap.size w w1 := Below.trans (by go_grown) (hb1.mono (by simp))
        go_wp2_with fail
        refine (HT g _ _ _ (hd.alloc _) ((hr.next hbw).alloc _)).out.mono ?_
        rintro e w2 ⟨rfl, hb2⟩
        have hbw2 : Below w.heap.size w w2 := (hbw.alloc hbw.size _).trans (hb2.mono (by have := hbw.size; simp; omega))
        go_wp2_with fail
        go_ret2
        exact ⟨_, rfl, World.ownsRow_nil _ _ _ _, hbw2⟩
      · exact absurd H0.out hne
    · have e1 : shareCode p hs = 0 := by unfold shareCode; rw [if_pos h0, if_neg hv]
      have e2 : sharesL p hs = (sharesPs p hs).take hs.length := by unfold sharesL; rw [if_pos e1]
      have e3 : ((sharesPs p hs).take hs.length).length = hs.length := by
        rw [List.length_take, show (sharesPs p hs).length = 6 by unfold sharesPs; rw [bumps_len, floorsK_len]]; omega
      rw [e1, e2, e3]
      have hv' : (valueSum hs == 0) = false := by rw [beq_eq_false_iff_ne]; exact hv
      clear h0 e1 e2 e3
      obtain ⟨bh, oh, rfl, hbh⟩ := hr.addr (k := 0) (by rw [trips_length]; omega)
      go_enter Tryz.func23, Tryz.ntmps23
      go_wp2_with fail
      refine (HO _ (by go_grown)).out.mono ?_
      rintro e w1 (⟨_, g, rfl, hg, hd, hb1⟩ | ⟨hne, _⟩)
      · have hbw : Below w.heap.size w w1 := Below.trans (by go_grown) (hb1.mono (by simp))
        have hc0 := hb1.cell (p := ⟨w.heap.size, 0, none⟩) (by simp)
        have hc1 := hb1.cell (p := ⟨w.heap.size, 1, none⟩) (by simp)
        have hz1 := hb1.size
        simp at hg hc0 hc1 hz1
        go_wp2_with fail
        refine (HT g _ _ _ (hd.alloc _) ((hr.next hbw).alloc _)).out.mono ?_
        rintro e w2 ⟨rfl, hb2⟩
        have hz2 := hb2.size
        simp at hz2
        have hgl := hd.lt
        have hE : CmpEnv w2 w.heap.size w1.heap.size g p (some ⟨bh, oh, none⟩) c hs (floorsK p hs 0) w.heap.size := by
          rw [floorsK_zero]
          refine CmpEnv.below ⟨hd.alloc _, (World.cell?_alloc_lt w1 _ ⟨w.heap.size, 0, none⟩ (by show w.heap.size < w1.heap.size; omega)).trans hc0, (World.cell?_alloc_lt w1 _ ⟨w.heap.size, 1, none⟩ (by show w.heap.size < w1.heap.size; omega)).trans hc1, by simp, hr.below (hbw.alloc hbw.size _), by simp; omega, by simp, by simp; omega⟩ hb2
        have hbw2 : Below w.heap.size w w2 := (hbw.alloc hbw.size _).trans (hb2.mono (by simp; omega))
        have HE := Lib.hid hE
        have m1 := hE.bill1
        clear hE hb2 hc0 hc1 hd hb1
        go_wp2_with fail
        go_loopw [6, 7, 8, 27] (fun v _ _ i wr => ∃ k : Nat, k ≤ hs.length ∧ i = .int .i64 k ∧ Hid (CmpEnv wr w.heap.size w1.heap.size g p (some ⟨bh, oh, none⟩) c hs (floorsK p hs k) w.heap.size) ∧ wr.ownsRow w2.heap.size 3 1 v k (ints (idxL k)) ∧ Below w.heap.size w wr ∧ w2.heap.size ≤ wr.heap.size) (fun _ _ _ i _ => hs.length - (intOf i).toNat)
        case atStart => exact ⟨0, Nat.zero_le _, rfl, HE, World.ownsRow_nil _ _ _ _, hbw2, Nat.le_refl _⟩
        case round =>
          obtain ⟨k, hk, rfl, HEk, hown, hbr, hzr⟩ := hrel
          by_cases hlt : k < hs.length
          · have HOW := Lib.hid hown
            clear hown
            obtain ⟨x1, x2, x3⟩ := (hr.below hbr).trip' hlt
            have hbh' : bh < wr.heap.size := Nat.lt_of_lt_of_le hbh hbr.size
            go_wp2_with fail
            obtain ⟨W4, hW4⟩ : ∃ W4, W4 = wr.alloc (.cells #[.int .i64 hs[k].1, .int .i64 hs[k].2.1, .int .i64 hs[k].2.2] 37) := ⟨_, rfl⟩
            rw [← hW4]
            have hb4 : Below wr.heap.size wr W4 := by rw [hW4]; exact below_new _ _
            have x4 : W4.cell? ⟨wr.heap.size, 0, none⟩ = some (.int .i64 hs[k].1) := by rw [hW4]; exact news_new wr [.int .i64 hs[k].1, .int .i64 hs[k].2.1, .int .i64 hs[k].2.2] 37 rfl 0 _ rfl
            have hz4 : W4.heap.size = wr.heap.size + 1 := by rw [hW4]; simp
            have hE4 := HEk.out.below hb4
            have y1 := hE4.bill0
            have y2 := hE4.box
            have hd4 := hE4.desk
            have y3 := hd4.at_ (i := k) (by omega)
            have y4 := hd4.free (2 + k)
            have y5 := hE4.lb
            have y6 := hE4.ld
            have y7 := hd4.lt
            have y8 : wr.heap.size < W4.heap.size := by omega
            have HT4 : ∀ n, Hid (Calls Tryz.prog 76 #[.pointer (some ⟨g, 0, none⟩)] (W4.drewN n) fun e w' => e = .returned (.int .i64 (valueSum hs)) ∧ w'.cell? ⟨w.heap.size, 0, none⟩ = some (.int .i64 p) ∧ w'.cell? ⟨w1.heap.size, 0, none⟩ = some (.pointer (some ⟨g, 0, none⟩)) ∧ w'.cell? ⟨wr.heap.size, 0, none⟩ = some (.int .i64 hs[k].1) ∧ w'.cell? ⟨g, 2 + k, none⟩ = some (.int .i64 ((floorsK p hs k)[k]'(by rw [floorsK_len]; omega))) ∧ w'.frozen? ⟨g, 2 + k, none⟩ = false ∧ Below W4.heap.size W4 w') := by
              intro n
              refine (HT g _ _ (W4.drewN n) (hd4.drewN n) ((hE4.rd.more hE4.le).drewN n)).out.mono ?_
              rintro e w' ⟨rfl, hb⟩
              have hb' : Below W4.heap.size W4 w' := (below_drewN (Below.refl _ _) n).trans hb
              exact ⟨rfl, (hb'.cell (p := ⟨w.heap.size, 0, none⟩) y5).trans y1, (hb'.cell (p := ⟨w1.heap.size, 0, none⟩) y6).trans y2, (hb'.cell (p := ⟨wr.heap.size, 0, none⟩) y8).trans x4, (hb'.cell (p := ⟨g, 2 + k, none⟩) y7).trans y3, (hb'.frozen (p := ⟨g, 2 + k, none⟩) y7).trans y4, hb'⟩
            have hgd : hs.getD k (0, 0, 0) = hs[k] := by simp [List.getD_eq_getElem?_getD, List.getElem?_eq_getElem hlt]
            obtain ⟨u1, u2, _⟩ := ho.2 hs[k] (List.getElem_mem _)
            obtain ⟨n1, n2⟩ := mul_bd p0 p1 u1 u2 (by omega)
            obtain ⟨f1, f2⟩ := floor_get_bd ho hv p0 k
            have hfo : floorOf p hs k = p * hs[k].1 / valueSum hs := by unfold floorOf; rw [hgd]
            rw [hfo] at f1 f2
            have hk6 : (k : Int) < 6 := by omega
            have hk0 : (0 : Int) ≤ (k : Int) := by omega
            have q1 : IntKind.i64.wrap (p * hs[k].1) = p * hs[k].1 := IntWalk.i64_in _ (by omega)
            have q2 : (p * hs[k].1).tdiv (valueSum hs) = p * hs[k].1 / valueSum hs := Int.tdiv_eq_ediv_of_nonneg n1
            have q3 : IntKind.i64.wrap (p * hs[k].1 / valueSum hs) = p * hs[k].1 / valueSum hs := IntWalk.i64_in _ (by omega)
            have HFO := Lib.hid hfo
            have HHD := Lib.hid (And.intro hd4 hE4)
            clear hW4 hE4 hgd hfo x1 x2 x3
            have g1 : w.heap.size ≠ g := by omega
            have g2 : w1.heap.size ≠ g := by omega
            have g3 : wr.heap.size ≠ g := by omega
            go_region_held3 (fun w' => w'.cell? ⟨w.heap.size, 0, none⟩ = some (.int .i64 p) ∧ w'.cell? ⟨w1.heap.size, 0, none⟩ = some (.pointer (some ⟨g, 0, none⟩)) ∧ w'.cell? ⟨wr.heap.size, 0, none⟩ = some (.int .i64 hs[k].1)) (first | exact ⟨y1, y2, x4⟩ | exact ⟨z1, z2, z3⟩ | exact keepSet g1 g2 g3 z1 z2 z3)
              (first | (go_at_call 76; refine (HT4 1).out.mono ?_; rintro e w5 ⟨rfl, z1, z2, z3, z4, z5, hb5⟩))
            obtain ⟨W6, hW6⟩ : ∃ W6, W6 = w5.setCell ⟨g, 2 + k, none⟩ (.int .i64 (p * hs[k].1 / valueSum hs)) := ⟨_, rfl⟩
            rw [← hW6]
            have hgr : wr.grownBy W6 (some g) := by rw [hW6]; exact grownBy_trans (below_grown _ hb4) (grownBy_trans (below_grown _ hb5) (grownBy_setCell _ _ _ _))
            have hE6 : CmpEnv W6 w.heap.size w1.heap.size g p (some ⟨bh, oh, none⟩) c hs (floorsK p hs (k + 1)) w.heap.size := by
              have h := (HHD.out.2.below hb5).bump g1 g2 (by omega) (j := k) (by omega) (p * hs[k].1 / valueSum hs)
              rw [← hW6, ← HFO.out, floorsK_set p hs k (by omega)] at h
              exact h
            have own6 := HOW.out.kept hgr (.inr (fun e => by have := (HOW.out.lt g e).1; omega))
            have hb6 : Below w.heap.size w W6 := hbr.grown hgr hbr.size (fun q hq => by injection hq with hq; omega)
            have hz6 : w2.heap.size ≤ W6.heap.size := Nat.le_trans hzr hgr.size
            have HE6 := Lib.hid hE6
            have HO6 := Lib.hid own6
            clear hW6 hE6 own6 HHD HOW HFO z1 z2 z3 z4 z5 y1 y2 y3 y4 q1 q2 q3 hd4 x4 HT4
            go_wp2_with (at_builtin; refine wpList_append_own_at _ rfl _ _ 22 rfl w2.heap.size 3 i0 _ 1 8 Tryz.underlying22 ihi ihz0 ihz1 ihz2 rfl (by decide) _ _ _ rfl (HO6.out.alloc _) ⟨W6.heap.size, 0, none⟩ 1 1 [.int .i64 k] rfl rfl (news_new _ _ _ rfl) (by simp [Value.oneCell']) (by simp only [maxLen]; omega) (by omega) (by simp; omega) ?_; intro v1 w7 hown1 hgrow1 _ hat1)
            go_roundw
            case rel =>
              refine ⟨k + 1, by omega, by go_num, ?_, by rw [idxL_snoc]; exact hown1, (hb6.alloc hb6.size _).grown hgrow1 (by have := hb6.size; simp; omega) (fun q hq => by have := (HO6.out.lt q hq).1; omega), by have := hgrow1.size; simp at this; omega⟩
              have hEa := HE6.out.below (below_new W6 (.cells #[.int .i64 k] 3))
              refine hEa.keep hgrow1.size fun q hq => hgrow1.block q ?_ ?_
              · simp; omega
              · intro e
                have := (HO6.out.lt q e.symm).1
                omega
            case measure => simp [intOf]; omega
          · obtain rfl : k = hs.length := by omega
            obtain ⟨bs, cs, rfl, hbs, hcs, hLst⟩ := own_lst' hown (idxL_len _) l1
            have hS := sortStable_any w.heap.size w1.heap.size g p (some ⟨bh, oh, none⟩) c hs (floorsK p hs hs.length) w.heap.size bs cs (idxL hs.length) wr HEk.out ho hv p0 p1 hLst (by omega) (by omega) (by omega) (by omega) (by rw [idxL_len]; exact l1) (by rw [idxL_len]; exact hl6) idxL_mem
            rw [idxL_len] at hS
            have HS := Lib.hid hS
            clear hS hown hlt
            go_wp2_with fail
            refine HS.out.mono ?_
            rintro e w8 ⟨rfl, hL8, hg8⟩
            have hE8 := HEk.out.grown hg8 (by omega) (by omega) (by omega) (by omega)
            have hb8 : Below w.heap.size w w8 := hbr.grown hg8 hbr.size (fun q hq => by injection hq with hq; omega)
            have HSum : ∀ n, Hid (Calls Tryz.prog 82 #[.slice (some ⟨g, 2, none⟩) 6 6] (w8.drewN n) fun e w' => e = .returned (.int .i64 (floorsK p hs hs.length).sum) ∧ w' = w8.drewN n) := fun n => sum6_any (hs := hs) (hE8.desk.drewN n) (paysOk_floors ho hv p0 p1)
            obtain ⟨s1, s2, s3⟩ := floors_bd ho hv p0
            obtain ⟨M, hM⟩ : ∃ M : Nat, p - (floorsK p hs hs.length).sum = M := ⟨(p - (floorsK p hs hs.length).sum).toNat, by omega⟩
            have hMn : M ≤ hs.length := by omega
            have HFin : Hid (sharesPs p hs = bumps (floorsK p hs hs.length) ((byRem p hs).take M)) := by
              show _ = _
              unfold sharesPs
              rw [hM, Int.toNat_natCast]
            have hby : (byRem p hs).length = hs.length := by unfold byRem; rw [insSort_length, idxL_len]
            have hbm : ∀ x ∈ byRem p hs, ∃ i : Nat, x = i ∧ i < hs.length := fun x hx => idxL_mem x (insSort_mem _ _ (by rw [idxL_len]; exact l1) x hx)
            have HBM := Lib.hid hbm
            have HL8 : Hid (Lst w8 bs (byRem p hs)) := hL8
            have HE8 := Lib.hid hE8
            have HBY := Lib.hid hby
            have HPO := Lib.hid (paysOk_floors (p := p) ho hv p0 p1)
            have y1 := hE8.bill0
            have y2 := hE8.box
            have y7 := hE8.desk.lt
            have q0 : IntKind.i64.wrap (p - (floorsK p hs hs.length).sum) = (M : Int) := by rw [hM]; exact IntWalk.i64_in _ (by omega)
            have m2 : (M : Int) ≤ (cs : Int) := by omega
            have m3 : (0 : Int) ≤ (M : Int) := by omega
            clear hL8 hE8 hby hbm HS hM s1 s2 s3
            go_wp2_with fail
            go_quiet ((first | (go_at_call 82; exact Calls.quiet_of_same (HSum _).out)))
            clear q0
            go_wp2_with fail
            go_loopw [10, 64] (fun _ i wr => ∃ j : Nat, j ≤ M ∧ i = .int .i64 j ∧ Hid (Desk wr g p (some ⟨bh, oh, none⟩) hs.length c (bumps (floorsK p hs hs.length) ((byRem p hs).take j))) ∧ Hid (Lst wr bs (byRem p hs)) ∧ wr.cell? ⟨w1.heap.size, 0, none⟩ = some (.pointer (some ⟨g, 0, none⟩)) ∧ w1.heap.size < wr.heap.size ∧ Below w.heap.size w wr) (fun _ i _ => M - (intOf i).toNat)
            case atStart => exact ⟨0, Nat.zero_le _, rfl, HE8.out.desk.drewN _, HL8.out.drewN _, y2, HE8.out.ld, below_drewN hb8 _⟩
            case round =>
              obtain ⟨j, hj, rfl, HD, HL, hbx, hbz, hbj⟩ := hrel
              by_cases hlt : j < M
              · have hjl : j < (byRem p hs).length := by rw [HBY.out]; omega
                obtain ⟨i, hi, hil⟩ := HBM.out (byRem p hs)[j] (List.getElem_mem _)
                have hci := HL.out.at_ hjl
                rw [hi] at hci
                have hlz := HL.out.lt
                have hpl : (bumps (floorsK p hs hs.length) ((byRem p hs).take j)).length = 6 := by rw [bumps_len, floorsK_len]
                have hat := HD.out.at_ (i := i) (by omega)
                have hfz := HD.out.free (2 + i)
                have hglt := HD.out.lt
                have hbd := bumps_bd HPO.out.1 HPO.out.2 (byRem p hs) j (by omega) i
                have hgg : (bumps (floorsK p hs hs.length) ((byRem p hs).take j)).getD i 0 = (bumps (floorsK p hs hs.length) ((byRem p hs).take j))[i]'(by rw [hpl]; omega) := by simp [List.getD_eq_getElem?_getD, List.getElem?_eq_getElem (show i < (bumps (floorsK p hs hs.length) ((byRem p hs).take j)).length by rw [hpl]; omega)]
                have hsn := bumps_snoc (floorsK p hs hs.length) (byRem p hs) j hjl
                rw [hi, Int.toNat_natCast] at hsn
                unfold bump at hsn
                rw [hgg] at hsn hbd
                have HSN := Lib.hid hsn
                have hjm : (j : Int) < (M : Int) := by omega
                have hi6 : (i : Int) < 6 := by omega
                have hi0 : (0 : Int) ≤ (i : Int) := by omega
                have hj6 : (j : Int) ≤ 6 := by omega
                obtain ⟨b1, b2⟩ := hbd
                have q1 : IntKind.i64.wrap ((bumps (floorsK p hs hs.length) ((byRem p hs).take j))[i]'(by rw [hpl]; omega) + 1) = (bumps (floorsK p hs hs.length) ((byRem p hs).take j))[i]'(by rw [hpl]; omega) + 1 := IntWalk.i64_in _ (by omega)
                clear hsn hgg hi
                go_wp2_with fail
                go_region
                clear q1
                all_goals go_wp2_with fail
                go_roundw
                case rel =>
                  have hgr := grownBy_setCell wr g (2 + i) (.int .i64 ((bumps (floorsK p hs hs.length) ((byRem p hs).take j))[i]'(by rw [hpl]; omega) + 1))
                  refine ⟨j + 1, by omega, by go_num, ?_, ?_, ?_, by simpa [World.setCell] using hbz, below_drewN (hbj.grown hgr hbj.size (fun q hq => by injection hq with hq; omega)) 1⟩
                  · show Desk _ _ _ _ _ _ _
                    rw [HSN.out]
                    exact (HD.out.bump (by omega) _).drewN 1
                  · exact (show Lst _ _ _ from ⟨Nat.lt_of_lt_of_le hlz hgr.size, fun q u hu => (World.cell?_of_block (a := ⟨bs, q, none⟩) (hgr.block bs hlz (by intro e; injection e; omega))).trans (HL.out.cells q u hu), fun o => (World.frozen?_of_block (a := ⟨bs, o, none⟩) (hgr.block bs hlz (by intro e; injection e; omega))).trans (HL.out.free o)⟩)
                  · exact (World.cell?_of_block (a := ⟨w1.heap.size, 0, none⟩) (hgr.block w1.heap.size hbz (by intro e; injection e; omega))).trans hbx
                case measure => simp [intOf]; omega
              · obtain rfl : j = M := by omega
                have HLi := fun W hb => Lib.hid (list_any g p (some ⟨bh, oh, none⟩) hs.length c _ W (HD.out.below hb) hl6)
                clear hlt
                go_wp2_with fail
                refine (HLi _ (Below.refl _ _)).out.mono ?_
                rintro e w9 ⟨v, rfl, hown, hb9⟩
                have HO := Lib.hid hown
                clear hown
                go_wp2_with fail
                go_ret2
                refine ⟨v, rfl, ?_, hbj.trans (hb9.mono hbj.size)⟩
                rw [HFin.out]
                exact HO.out.base_ hbj.size
      · exact absurd H0.out hne
  · have e1 : shareCode p hs = ckBill p hs := by unfold shareCode; rw [if_neg h0]
    have e2 : sharesL p hs = [] := by unfold sharesL; rw [e1, if_neg h0]
    rw [e1, e2]
    have h0' : (ckBill p hs == 0) = false := by simpa using h0
    have h0'' : (ckBill p hs != 0) = true := by simpa using h0
    have H0 := Lib.hid h0
    clear h0 e1 e2
    go_enter Tryz.func23, Tryz.ntmps23
    go_wp2_with fail
    refine (HO _ (by go_grown)).out.mono ?_
    rintro e w1 (⟨hz, _⟩ | ⟨_, rfl, hb1⟩)
    · exact absurd hz H0.out
    · have hbw : Below w.heap.size w w1 := Below.trans (by go_grown) (hb1.mono (by simp))
      go_wp2_with fail
      go_ret2
      exact ⟨_, rfl, World.ownsRow_nil _ _ _ _, hbw.alloc hbw.size _⟩
end Go.Proofs.YtfojjecnmfkcfaaGreat
namespace Go.Proofs.YtfojjecnmfkcfaaGreat
open Go.RowKit
set_option linter.unusedVariables false
def tarX : List (Int × Int) := [(1000, 50), (3000, 30)]
def threeX : List (Int × Int × Int) := [(5, 0, 100), (3, 0, 100), (1, 0, 100)]
def chX : List (Int × Int) := [(0, 100), (20, 80)]
def payX : List (Int × Int) := [(5, 60), (25, 90)]
theorem Lst.new (w : World) (l : List Int) (t : TypeId) {H : Nat} (hH : w.heap.size = H) : Lst (w.alloc (.cells (ints l).toArray t)) H l := by
  subst hH
  refine ⟨by simp, fun j u hu => ?_, fun o => by simp⟩
  have := (Rd.new w (ints l) t rfl).news j (.int .i64 u) (by simp [ints, hu])
  rwa [addr_add, Nat.zero_add] at this
theorem Lst.rd {w : World} {b : Nat} {d : List Int} (h : Lst w b d) : Rd w w.heap.size (some ⟨b, 0, none⟩) (ints d) := fun _ => ⟨b, 0, rfl, h.lt, fun j u hu => by
  simp only [ints, List.getElem?_map, Option.map_eq_some_iff] at hu
  obtain ⟨x, hx, rfl⟩ := hu
  rw [Nat.zero_add]
  exact h.cells j x hx⟩
/-- The call hands back a row of its own, that may be written. -/
def NewRow (d : List Int) (n : Nat) (W : World) (e : Ending) (w' : World) : Prop := ∃ b, e = .returned (.slice (some ⟨b, 0, none⟩) n n) ∧ W.heap.size ≤ b ∧ Lst w' b d ∧ Below W.heap.size W w'
theorem Tariff_any (w : World) : Calls Tryz.prog 4 #[] w (NewRow [1000, 50, 3000, 30] 2 w) := by
  go_enter Tryz.func4, Tryz.ntmps4
  go_wp2_with fail
  go_ret
  exact ⟨w.heap.size, rfl, Nat.le_refl _, Lst.new w [1000, 50, 3000, 30] _ rfl, by go_grown⟩
def NewBill (p : Int) (d : List Int) (n : Nat) (W : World) (e : Ending) (w' : World) : Prop := ∃ b, e = .returned (.agg #[.int .i64 p, .slice (some ⟨b, 0, none⟩) n n]) ∧ W.heap.size ≤ b ∧ Lst w' b d ∧ Below W.heap.size W w'
theorem Three_any (w : World) : Calls Tryz.prog 5 #[] w (NewBill 100 [5, 0, 100, 3, 0, 100, 1, 0, 100] 3 w) := by
  go_enter Tryz.func5, Tryz.ntmps5
  go_wp2_with fail
  refine bodyPost_ret (v := .agg #[.int .i64 100, .slice (some ⟨w.heap.size + 1, 0, none⟩) 3 3]) (by simp [results, Tryz.results5, go_sem]) rfl ⟨w.heap.size + 1, rfl, by omega, ?_, by go_grown⟩
  exact Lst.new (w.alloc _) [5, 0, 100, 3, 0, 100, 1, 0, 100] _ (by simp)
def NewAcc (W : World) (e : Ending) (w' : World) : Prop := ∃ b d, e = .returned (accV (some ⟨b, 0, none⟩) 2 2 (some ⟨d, 0, none⟩) 2 2 10 5) ∧ W.heap.size ≤ b ∧ W.heap.size ≤ d ∧ Lst w' b [0, 100, 20, 80] ∧ Lst w' d [5, 60, 25, 90] ∧ Below W.heap.size W w'
theorem Account_any (w : World) : Calls Tryz.prog 6 #[] w (NewAcc w) := by
  go_enter Tryz.func6, Tryz.ntmps6
  go_wp2_with fail
  refine bodyPost_ret (v := accV (some ⟨w.heap.size + 1, 0, none⟩) 2 2 (some ⟨w.heap.size + 1 + 1, 0, none⟩) 2 2 10 5) (by simp [results, Tryz.results6, go_sem, accV]) rfl ⟨w.heap.size + 1, w.heap.size + 1 + 1, rfl, by omega, by omega, ?_, ?_, by go_grown⟩
  · exact (Lst.new (w.alloc _) [0, 100, 20, 80] _ (by simp)).below (below_new _ _)
  · exact Lst.new ((w.alloc _).alloc _) [5, 60, 25, 90] _ (by simp)
end Go.Proofs.YtfojjecnmfkcfaaGreat
namespace Go.Proofs.YtfojjecnmfkcfaaGreat
set_option linter.unusedVariables false
theorem exCost : costRes tarX 1251 = 576 ∧ costCode tarX 1251 = 0 := by decide +kernel
theorem tarX_ok : stepsOk tarX := by
  intro s hs
  simp only [tarX, List.mem_cons, List.not_mem_nil, or_false] at hs
  rcases hs with rfl | rfl <;> decide
theorem exPounds : poundsRes tarX 575 = 1250 ∧ poundsCode tarX 575 = 0 := by
  have hc : poundsCode tarX 575 = 0 := by decide +kernel
  refine ⟨?_, hc⟩
  unfold poundsRes
  rw [if_pos hc]
  refine (poundsF_of tarX_ok ⟨by omega, by omega, .inr ?_, .inr ?_⟩).symm
  · decide +kernel
  · decide +kernel
theorem exPaid : ckAcc chX payX 10 5 = 0 ∧ paidR chX payX 10 5 = [25, -1] := by decide +kernel
theorem exLate : datedCode chX payX 10 5 31 = 0 ∧ lateL chX payX 10 5 31 = [0, 1] ∧ lateCost chX payX 10 5 31 = 9 := by decide +kernel
theorem exDue : datedCode chX payX 10 5 30 = 0 ∧ dueR chX payX 10 5 30 = 30 := by decide +kernel
end Go.Proofs.YtfojjecnmfkcfaaGreat
namespace Go.Proofs.YtfojjecnmfkcfaaGreat
set_option linter.unusedVariables false
def leastX : List (Int × Int × Int) := [(5, 0, 100), (3, 0, 100), (1, 20, 100)]
def mostX : List (Int × Int × Int) := [(5, 0, 40), (3, 0, 100), (1, 20, 100)]
theorem exShares : shareCode 100 threeX = 0 ∧ sharesL 100 threeX = [56, 33, 11] := by decide +kernel
theorem exBids : bidsCode 100 leastX = 0 ∧ bidsL 100 leastX = [50, 30, 20] ∧ bidsCode 100 mostX = 0 ∧ bidsL 100 mostX = [40, 40, 20] := by decide +kernel
theorem exOut : outCode 100 threeX [55, 34, 11] = 0 ∧ outL 100 threeX [55, 34, 11] = [(0, 1)] := by decide +kernel
theorem exAppeal : appealCode 100 threeX 0 4 = 0 ∧ appealL 100 threeX 0 4 = [50, 38, 12] ∧ appealD 100 threeX 0 4 = 6 := by decide +kernel
theorem exWorthCode : worthCode 100 threeX 0 50 = 0 := by decide +kernel
theorem threeX_ok : housesOk threeX := by
  refine ⟨by decide, ?_⟩
  intro s hs
  simp only [threeX, List.mem_cons, List.not_mem_nil, or_false] at hs
  rcases hs with rfl | rfl | rfl <;> decide
theorem exWorth {r : Int} (h : Between2 (worthSo 100 threeX 0 50) 0 1001 r) : r = 4 := by
  have hk : bidOk threeX 100 = true := by decide +kernel
  have h4 : worthSo 100 threeX 0 50 4 = true := by decide +kernel
  have h5 : worthSo 100 threeX 0 50 5 = false := by decide +kernel
  obtain ⟨a, b, c, d⟩ := h
  have mono : ∀ v v', 0 ≤ v → v ≤ v' → v' ≤ 1000 → worthSo 100 threeX 0 50 v' = true → worthSo 100 threeX 0 50 v = true := by
    intro v v' h1 h2 h3 h
    have hm := bids_mono threeX_ok (j := 0) (by decide) h1 h2 h3 hk
    unfold worthSo at h ⊢
    simp only [Bool.and_eq_true, decide_eq_true_eq] at h ⊢
    refine ⟨?_, by omega⟩
    rw [bidOk_iff (housesOk_reval threeX_ok (by decide) h1 (by omega)), leastSum_revalue _ _ _ (by decide), mostSum_revalue _ _ _ (by decide)]
    exact (bidOk_iff threeX_ok 100).1 hk
  by_cases h1 : r ≤ 3
  · have := mono (r + 1) 4 (by omega) (by omega) (by omega) h4
    rcases d with d | d
    · omega
    · rw [d] at this; cases this
  · by_cases h2 : 5 ≤ r
    · rcases c with c | c
      · omega
      · have := mono 5 r (by omega) h2 (by omega) c
        rw [h5] at this; cases this
    · omega
end Go.Proofs.YtfojjecnmfkcfaaGreat
namespace Go.Proofs.YtfojjecnmfkcfaaGreat
open Go.RowKit
set_option linter.unusedVariables false
theorem sharesX_any (b : Nat) (w : World) (h : Lst w b [5, 0, 100, 3, 0, 100, 1, 0, 100]) : Hid (Calls Tryz.prog 23 #[.agg #[.int .i64 100, .slice (some ⟨b, 0, none⟩) 3 3]] w (RetOwnE 3 1 3 (ints [56, 33, 11]) 0 w)) := by
  have C := Shares_any (some ⟨b, 0, none⟩) 3 100 threeX w h.rd (by decide)
  rw [exShares.1, exShares.2] at C
  exact C
theorem bidsX_any (b : Nat) (w : World) (h : Lst w b [5, 0, 100, 3, 0, 100, 1, 20, 100]) : Hid (Calls Tryz.prog 12 #[.agg #[.int .i64 100, .slice (some ⟨b, 0, none⟩) 3 3]] w (RetOwnE 3 1 3 (ints [50, 30, 20]) 0 w)) := by
  have C := Bids_any (some ⟨b, 0, none⟩) 3 100 leastX w h.rd (by decide)
  rw [exBids.1, exBids.2.1] at C
  exact C
theorem bidsY_any (b : Nat) (w : World) (h : Lst w b [5, 0, 40, 3, 0, 100, 1, 20, 100]) : Hid (Calls Tryz.prog 12 #[.agg #[.int .i64 100, .slice (some ⟨b, 0, none⟩) 3 3]] w (RetOwnE 3 1 3 (ints [40, 40, 20]) 0 w)) := by
  have C := Bids_any (some ⟨b, 0, none⟩) 3 100 mostX w h.rd (by decide)
  rw [exBids.2.2.1, exBids.2.2.2] at C
  exact C
theorem outX_any (b l : Nat) (w : World) (h : Lst w b [5, 0, 100, 3, 0, 100, 1, 0, 100]) (hq : Rd w w.heap.size (some ⟨l, 0, none⟩) (ints [55, 34, 11])) : Hid (Calls Tryz.prog 29 #[.agg #[.int .i64 100, .slice (some ⟨b, 0, none⟩) 3 3], .slice (some ⟨l, 0, none⟩) 3 3] w (RetOwnE 77 2 1 (pairs [(0, 1)]) 0 w)) := by
  have C := Outbids_any (some ⟨b, 0, none⟩) 3 100 threeX (some ⟨l, 0, none⟩) 3 [55, 34, 11] w h.rd (by decide) hq (by decide)
  rw [exOut.1, exOut.2] at C
  exact C
theorem appealX_any (b : Nat) (w : World) (h : Lst w b [5, 0, 100, 3, 0, 100, 1, 0, 100]) : Hid (Calls Tryz.prog 55 #[.agg #[.int .i64 100, .slice (some ⟨b, 0, none⟩) 3 3], .int .i64 0, .int .i64 4] w (RetApp 3 [50, 38, 12] 6 0 w)) := by
  have C := Appeal_any (some ⟨b, 0, none⟩) 3 100 threeX 0 4 w h.rd (by decide)
  rw [exAppeal.1, exAppeal.2.1, exAppeal.2.2] at C
  exact C
theorem worthX_any (b : Nat) (w : World) (h : Lst w b [5, 0, 100, 3, 0, 100, 1, 0, 100]) : Hid (Calls Tryz.prog 57 #[.agg #[.int .i64 100, .slice (some ⟨b, 0, none⟩) 3 3], .int .i64 0, .int .i64 50] w fun e w' => e = .returned (.tuple #[.int .i64 4, .int .i64 0]) ∧ Below w.heap.size w w') := by
  refine (Worth_any (some ⟨b, 0, none⟩) 3 100 threeX 0 50 w h.rd (by decide)).mono ?_
  rintro e w' ⟨hb, (⟨_, r, rfl, hr⟩ | ⟨hne, _⟩)⟩
  · have : r = 4 := exWorth hr
    subst this
    exact ⟨rfl, hb⟩
  · exact absurd exWorthCode hne
theorem paidX_any (b d : Nat) (w : World) (h : Lst w b [0, 100, 20, 80]) (k : Lst w d [5, 60, 25, 90]) : Hid (Calls Tryz.prog 36 #[accV (some ⟨b, 0, none⟩) 2 2 (some ⟨d, 0, none⟩) 2 2 10 5] w (RetOwnE 3 1 2 (ints [25, -1]) 0 w)) := by
  have C := Paid_any (some ⟨b, 0, none⟩) (some ⟨d, 0, none⟩) 2 2 chX payX 10 5 w ⟨h.rd, by decide, .inr ⟨b, 0, rfl⟩⟩ ⟨k.rd, by decide, .inr ⟨d, 0, rfl⟩⟩ (by decide) (by decide)
  rw [exPaid.1, exPaid.2] at C
  exact C
theorem lateX_any (b d : Nat) (w : World) (h : Lst w b [0, 100, 20, 80]) (k : Lst w d [5, 60, 25, 90]) : Hid (Calls Tryz.prog 42 #[accV (some ⟨b, 0, none⟩) 2 2 (some ⟨d, 0, none⟩) 2 2 10 5, .int .i64 31] w (RetApp 3 [0, 1] 9 0 w)) := by
  have C := Late_any (some ⟨b, 0, none⟩) (some ⟨d, 0, none⟩) 2 2 chX payX 10 5 31 w ⟨h.rd, by decide, .inr ⟨b, 0, rfl⟩⟩ ⟨k.rd, by decide, .inr ⟨d, 0, rfl⟩⟩ (by decide) (by decide)
  rw [exLate.1, exLate.2.1, exLate.2.2] at C
  exact C
theorem dueX_any (b d : Nat) (w : World) (h : Lst w b [0, 100, 20, 80]) (k : Lst w d [5, 60, 25, 90]) : Hid (Calls Tryz.prog 44 #[accV (some ⟨b, 0, none⟩) 2 2 (some ⟨d, 0, none⟩) 2 2 10 5, .int .i64 30] w fun e w' => e = .returned (.tuple #[.int .i64 30, .int .i64 0]) ∧ Below w.heap.size w w') := by
  have C := Due_any (some ⟨b, 0, none⟩) (some ⟨d, 0, none⟩) 2 2 chX payX 10 5 30 w ⟨h.rd, by decide, .inr ⟨b, 0, rfl⟩⟩ ⟨k.rd, by decide, .inr ⟨d, 0, rfl⟩⟩ (by decide) (by decide)
  rw [exDue.1, exDue.2] at C
  exact C
theorem sameInts (A : Option Addr) (c n : Nat) (l : List Int) (hn : l.length = n) (w : World) (hr : Rd w w.heap.size A (ints l)) (hl : l.length ≤ 1000) : Hid (Calls Tryz.prog 25 #[.slice A n c, .slice (some ⟨w.heap.size, 0, none⟩) n n] (w.alloc (.cells (ints l).toArray 3)) fun e w' => e = .returned (.bool true) ∧ Below w.heap.size w w') := by
  subst hn
  refine (alikeInt_any A (some ⟨w.heap.size, 0, none⟩) c l.length l l _ (hr.alloc _) (Rd.new w _ _ rfl) (by omega)).mono ?_
  rintro e w' ⟨rfl, hb⟩
  exact ⟨by simp, (below_new _ _).trans (hb.mono (by simp))⟩
theorem samePairs (A : Option Addr) (c n : Nat) (l : List (Int × Int)) (hn : l.length = n) (w : World) (hr : Rd w w.heap.size A (pairs l)) (hl : l.length ≤ 1000) : Hid (Calls Tryz.prog 73 #[.slice A n c, .slice (some ⟨w.heap.size, 0, none⟩) n n] (w.alloc (.cells (pairs l).toArray 77)) fun e w' => e = .returned (.bool true) ∧ Below w.heap.size w w') := by
  subst hn
  refine (alikePair_any A (some ⟨w.heap.size, 0, none⟩) c l.length l l _ (hr.alloc _) (Rd.new w _ _ rfl) (by omega)).mono ?_
  rintro e w' ⟨rfl, hb⟩
  exact ⟨by simp, (below_new _ _).trans (hb.mono (by simp))⟩
theorem own_rd {w : World} {base : Nat} {E : TypeId} {size n c : Nat} {A : Option Addr} {xs : List Value} (h : w.ownsRow base E size (.slice A n c) n xs) : Rd w w.heap.size A xs := by
  obtain ⟨A', c', e, _, hr⟩ := own_slice h
  injection e with e1 _ _
  rw [e1]
  exact hr
theorem Rd.setCell {w : World} {B b o : Nat} {A : Option Addr} {xs : List Value} {v : Value} (h : Rd w B A xs) (hb : B ≤ b) : Rd (w.setCell ⟨b, o, none⟩ v) B A xs :=
  h.keep fun b' o' hlt => World.cell?_setCell_other _ _ _ _ (by intro e; injection e; omega)
set_option maxRecDepth 100000 in
set_option maxHeartbeats 4000000 in
theorem awake_any (w : World) : Calls Tryz.prog 16 #[] w fun e w' => e = .returned (.bool true) ∧ Below w.heap.size w w' := by
  go_enter Tryz.func16, Tryz.ntmps16
  go_wp2_with fail
  refine (Tariff_any w).mono ?_
  rintro e w1 ⟨b1, rfl, _, hL1, hB1⟩
  have C1 := Cost_any (some ⟨b1, 0, none⟩) 2 tarX 1251 w1 hL1.rd (by decide) (by decide)
  rw [exCost.1, exCost.2] at C1
  have HC1 := Lib.hid C1
  clear C1 hL1
  go_wp2_with fail
  refine HC1.out.mono ?_
  rintro e w2 ⟨rfl, hB2⟩
  clear HC1
  go_wp2_with fail
  refine (Tariff_any w2).mono ?_
  rintro e w3 ⟨b3, rfl, _, hL3, hB3⟩
  have C1 := Pounds_any (some ⟨b3, 0, none⟩) 2 tarX 575 w3 hL3.rd (by decide) (by decide)
  rw [exPounds.1, exPounds.2] at C1
  have HC1 := Lib.hid C1
  clear C1 hL3
  go_wp2_with fail
  refine HC1.out.mono ?_
  rintro e w4 ⟨rfl, hB4⟩
  clear HC1
  have hB : Below w.heap.size w w4 := (((hB1.trans (hB2.mono hB1.size))).trans ((hB3.trans (hB4.mono hB3.size)).mono (Nat.le_trans hB1.size hB2.size)))
  clear hB1 hB2 hB3 hB4
  go_wp2_with fail
  refine (Three_any w4).mono ?_
  rintro e w5 ⟨b5, rfl, _, hL5, hB5⟩
  go_wp2_with fail
  refine (sharesX_any b5 w5 hL5).out.mono ?_
  rintro e w6 ⟨v6, rfl, hO6, hB6⟩
  obtain ⟨A6, c6, rfl, _, hR6⟩ := own_slice hO6
  have hBw6 : Below w.heap.size w w6 := hB.trans ((hB5.trans (hB6.mono hB5.size)).mono hB.size)
  clear hB hB5 hB6 hO6 hL5
  go_wp2_with fail
  refine (Three_any w6).mono ?_
  rintro e w7 ⟨b7, rfl, hb7, hL7, hB7⟩
  have f7 := hL7.at_ (j := 7) (by decide)
  have g7 := hL7.free 7
  have l7 := hL7.lt
  have n7 : b7 ≠ w7.heap.size := by omega
  simp only [List.getElem_cons_succ, List.getElem_cons_zero] at f7
  have HL7 := Lib.hid hL7
  clear hL7
  go_wp2_with fail
  obtain ⟨W8, hW8⟩ : ∃ W8, W8 = (w7.setCell ⟨b7, 7, none⟩ (.int .i64 20)).alloc (.cells #[.int .i64 100, .slice (some ⟨b7, 0, none⟩) 3 3] 27) := ⟨_, rfl⟩
  rw [← hW8]
  have hz7 : (w7.setCell ⟨b7, 7, none⟩ (.int .i64 20)).heap.size = w7.heap.size := by simp [World.setCell]
  have hL8 : Lst W8 b7 [5, 0, 100, 3, 0, 100, 1, 20, 100] := by rw [hW8]; exact (HL7.out.put (j := 7) (by decide) 20).below (below_new _ _)
  have hB8 : Below w6.heap.size w6 W8 := by rw [hW8]; exact (hB7.grown (grownBy_setCell _ _ _ _) hB7.size (fun q hq => by injection hq with hq; omega)).alloc (by rw [hz7]; exact hB7.size) _
  have k8 : W8.cell? ⟨w7.heap.size, 1, none⟩ = some (.slice (some ⟨b7, 0, none⟩) 3 3) := by rw [hW8]; exact (Rd.new _ [.int .i64 100, .slice (some ⟨b7, 0, none⟩) 3 3] 27 hz7).news 1 _ rfl
  have k8' : W8.cell? ⟨w7.heap.size, 0, none⟩ = some (.int .i64 100) := by rw [hW8]; exact (Rd.new _ [.int .i64 100, .slice (some ⟨b7, 0, none⟩) 3 3] 27 hz7).news 0 _ rfl
  have z8 : w7.heap.size < W8.heap.size := by rw [hW8]; simp [World.setCell]
  clear hW8 HL7 hB7 f7 g7
  refine (bidsX_any b7 W8 hL8).out.mono ?_
  rintro e w9 ⟨v9, rfl, hO9, hB9⟩
  obtain ⟨A9, c9, rfl, _, hR9⟩ := own_slice hO9
  have hR9' : Rd w9 w9.heap.size A9 (ints [50, 30, 20]) := hR9
  have hB96 := hB8.trans (hB9.mono hB8.size)
  have hL9 := hL8.below hB9
  have k9 := (hB9.cell (p := ⟨w7.heap.size, 1, none⟩) z8).trans k8
  have k9' := (hB9.cell (p := ⟨w7.heap.size, 0, none⟩) z8).trans k8'
  have f9 := hL9.at_ (j := 2) (by decide)
  have g9 := hL9.free 2
  have l9 := hL9.lt
  have z9 : w7.heap.size < w9.heap.size := Nat.lt_of_lt_of_le z8 hB9.size
  simp only [List.getElem_cons_succ, List.getElem_cons_zero] at f9
  have HL9 := Lib.hid hL9
  have z8b : b7 < W8.heap.size := by omega
  clear hL9 hL8 hB8 k8 k8' z8 hR9
  go_wp2_with fail
  obtain ⟨W10, hW10⟩ : ∃ W10, W10 = w9.setCell ⟨b7, 2, none⟩ (.int .i64 40) := ⟨_, rfl⟩
  rw [← hW10]
  have hL10 : Lst W10 b7 [5, 0, 40, 3, 0, 100, 1, 20, 100] := by rw [hW10]; exact HL9.out.put (j := 2) (by decide) 40
  have hB10 : Below w6.heap.size w6 W10 := by rw [hW10]; exact hB96.grown (grownBy_setCell _ _ _ _) hB96.size (fun q hq => by injection hq with hq; omega)
  have hR10 : Rd W10 W10.heap.size A9 (ints [50, 30, 20]) := by
    rw [hW10]
    exact own_rd (hO9.kept (grownBy_setCell w9 b7 2 (.int .i64 40)) (.inr (fun e => by have := (hO9.lt _ e).1; omega)))
  clear hW10 HL9 hB96 f9 g9 k9 k9' hR9' z9 hO9 hB9
  refine (bidsY_any b7 W10 hL10).out.mono ?_
  rintro e w11 ⟨v11, rfl, hO11, hB11⟩
  obtain ⟨A11, c11, rfl, _, hR11⟩ := own_slice hO11
  have hBw := hBw6.trans ((hB10.trans (hB11.mono hB10.size)).mono hBw6.size)
  have R1 := (hR6.below (hB10.trans (hB11.mono hB10.size))).more (Nat.le_trans hB10.size hB11.size)
  have R2 := hR10.next hB11
  clear hL10 hB10 hR10 hB11 hO11 hR6 hBw6
  go_wp2_with fail
  refine (sameInts A6 c6 3 [56, 33, 11] rfl w11 R1 (by decide)).out.mono ?_
  rintro e w12 ⟨rfl, hB12⟩
  have hBw12 := hBw.trans (hB12.mono hBw.size)
  have R2' := R2.next hB12
  have R3' : Rd w12 w12.heap.size A11 (ints [40, 40, 20]) := hR11.next hB12
  clear R1 R2 hR11 hBw hB12
  go_wp2_with fail
  refine (sameInts A9 c9 3 [50, 30, 20] rfl w12 R2' (by decide)).out.mono ?_
  rintro e w13 ⟨rfl, hB13⟩
  have hBw13 := hBw12.trans (hB13.mono hBw12.size)
  have R3 := R3'.next hB13
  clear R2' R3' hBw12 hB13
  go_wp2_with fail
  refine (sameInts A11 c11 3 [40, 40, 20] rfl w13 R3 (by decide)).out.mono ?_
  rintro e w14 ⟨rfl, hB14⟩
  have hBw14 := hBw13.trans (hB14.mono hBw13.size)
  clear R3 hBw13 hB14
  go_wp2_with fail
  refine (Three_any w14).mono ?_
  rintro e w15 ⟨b15, rfl, _, hL15, hB15⟩
  have hBw15 := hBw14.trans (hB15.mono hBw14.size)
  clear hBw14 hB15
  go_wp2_with fail
  refine (outX_any b15 w15.heap.size (w15.alloc (.cells (ints [55, 34, 11]).toArray 3)) (hL15.below (below_new _ _)) (Rd.new w15 _ _ rfl)).out.mono ?_
  rintro e w16 ⟨v16, rfl, hO16, hB16⟩
  obtain ⟨A16, c16, rfl, _, hR16⟩ := own_slice hO16
  have hBw16 : Below w.heap.size w w16 := (hBw15.alloc hBw15.size _).trans (hB16.mono (by have := hBw15.size; simp; omega))
  clear hBw15 hB16 hO16 hL15
  go_wp2_with fail
  refine (Three_any w16).mono ?_
  rintro e w17 ⟨b17, rfl, _, hL17, hB17⟩
  have R1 := hR16.next hB17
  have hBw17 := hBw16.trans (hB17.mono hBw16.size)
  clear hBw16 hB17 hR16
  go_wp2_with fail
  refine (appealX_any b17 w17 hL17).out.mono ?_
  rintro e w18 ⟨v18, rfl, hO18, hB18⟩
  obtain ⟨A18, c18, rfl, _, hR18⟩ := own_slice hO18
  have S1 := R1.next hB18
  have hBw18 := hBw17.trans (hB18.mono hBw17.size)
  clear hBw17 hB18 hL17 hO18 R1
  go_wp2_with fail
  refine (Three_any w18).mono ?_
  rintro e w19 ⟨b19, rfl, _, hL19, hB19⟩
  have R1 := S1.next hB19
  have R2 := hR18.next hB19
  have hBw19 := hBw18.trans (hB19.mono hBw18.size)
  clear hBw18 hB19 hR18 S1
  go_wp2_with fail
  refine (worthX_any b19 w19 hL19).out.mono ?_
  rintro e w20 ⟨rfl, hB20⟩
  have S1 := R1.next hB20
  have S2 := R2.next hB20
  have hBw20 := hBw19.trans (hB20.mono hBw19.size)
  clear hBw19 hB20 hL19 R1 R2
  go_wp2_with fail
  refine (Account_any w20).mono ?_
  rintro e w21 ⟨b21, d21, rfl, _, _, hL21, hK21, hB21⟩
  have R1 := S1.next hB21
  have R2 := S2.next hB21
  have hBw21 := hBw20.trans (hB21.mono hBw20.size)
  clear hBw20 hB21 S1 S2
  go_wp2_with fail
  refine (paidX_any b21 d21 w21 hL21 hK21).out.mono ?_
  rintro e w22 ⟨v22, rfl, hO22, hB22⟩
  obtain ⟨A22, c22, rfl, _, hR22⟩ := own_slice hO22
  have S1 := R1.next hB22
  have S2 := R2.next hB22
  have hBw22 := hBw21.trans (hB22.mono hBw21.size)
  clear hBw21 hB22 hL21 hK21 R1 R2 hO22
  go_wp2_with fail
  refine (Account_any w22).mono ?_
  rintro e w23 ⟨b23, d23, rfl, _, _, hL23, hK23, hB23⟩
  have R1 := S1.next hB23
  have R2 := S2.next hB23
  have R3 := hR22.next hB23
  have hBw23 := hBw22.trans (hB23.mono hBw22.size)
  clear hBw22 hB23 S1 S2 hR22
  go_wp2_with fail
  refine (lateX_any b23 d23 w23 hL23 hK23).out.mono ?_
  rintro e w24 ⟨v24, rfl, hO24, hB24⟩
  obtain ⟨A24, c24, rfl, _, hR24⟩ := own_slice hO24
  have S1 := R1.next hB24
  have S2 := R2.next hB24
  have S3 := R3.next hB24
  have hBw24 := hBw23.trans (hB24.mono hBw23.size)
  clear hBw23 hB24 hL23 hK23 R1 R2 R3 hO24
  go_wp2_with fail
  refine (Account_any w24).mono ?_
  rintro e w25 ⟨b25, d25, rfl, _, _, hL25, hK25, hB25⟩
  have R1 := S1.next hB25
  have R2 := S2.next hB25
  have R3 := S3.next hB25
  have R4 := hR24.next hB25
  have hBw25 := hBw24.trans (hB25.mono hBw24.size)
  clear hBw24 hB25 S1 S2 S3 hR24
  go_wp2_with fail
  refine (dueX_any b25 d25 w25 hL25 hK25).out.mono ?_
  rintro e w26 ⟨rfl, hB26⟩
  have S1 := R1.next hB26
  have S2 := R2.next hB26
  have S3 := R3.next hB26
  have S4 := R4.next hB26
  have hBw26 := hBw25.trans (hB26.mono hBw25.size)
  clear hBw25 hB26 hL25 hK25 R1 R2 R3 R4
  go_wp2_with fail
  refine (samePairs A16 c16 1 [(0, 1)] rfl w26 S1 (by decide)).out.mono ?_
  rintro e w27 ⟨rfl, hB27⟩
  have R2 : Rd w27 w27.heap.size A18 (ints [50, 38, 12]) := S2.next hB27
  have R3 : Rd w27 w27.heap.size A22 (ints [25, -1]) := S3.next hB27
  have R4 : Rd w27 w27.heap.size A24 (ints [0, 1]) := S4.next hB27
  have hBw27 := hBw26.trans (hB27.mono hBw26.size)
  clear hBw26 hB27 S1 S2 S3 S4
  go_wp2_with fail
  refine (sameInts A18 c18 3 [50, 38, 12] rfl w27 R2 (by decide)).out.mono ?_
  rintro e w28 ⟨rfl, hB28⟩
  have S3 := R3.next hB28
  have S4 := R4.next hB28
  have hBw28 := hBw27.trans (hB28.mono hBw27.size)
  clear hBw27 hB28 R2 R3 R4
  go_wp2_with fail
  refine (sameInts A22 c22 2 [25, -1] rfl w28 S3 (by decide)).out.mono ?_
  rintro e w29 ⟨rfl, hB29⟩
  have R4 := S4.next hB29
  have hBw29 := hBw28.trans (hB29.mono hBw28.size)
  clear hBw28 hB29 S3 S4
  go_wp2_with fail
  refine (sameInts A24 c24 2 [0, 1] rfl w29 R4 (by decide)).out.mono ?_
  rintro e w30 ⟨rfl, hB30⟩
  have hBw30 := hBw29.trans (hB30.mono hBw29.size)
  clear hBw29 hB30 R4
  go_wp2_with fail
  go_ret
  exact ⟨rfl, hBw30⟩
end Go.Proofs.YtfojjecnmfkcfaaGreat
namespace Go.Proofs.YtfojjecnmfkcfaaGreat
open Go.ChangeShapes Go.WideShapes Go.Deep Go.RowKit
set_option linter.unusedVariables false
section
variable {H : Type} {enc : TypeId × Value → H} {P : Program} {w : World} {base : Nat} {spare : Nat → Bool} {held : Bool}
/-- One element: each field's cell. -/
theorem row_fields {e : TypeId} {fs : Array Field} {n : Nat} {a : Addr} {cs : List Value} {D : DataW H × List MemPlace} (he : P.underlying e = some (.struct fs)) (hone : oneCellFields P fs = true)
    (hint : ∀ (j : Nat) (f : Field), fs[j]? = some f → P.underlying f.type = some (.int .i64)) (hc : w.cells? base a fs.size = some cs) (ht : DataW.trod enc P w base spare held n e cs = some D) :
    ∃ g : Nat → Int, ∀ j, j < fs.size → w.cell? (a.add j) = some (.int .i64 (g j)) := by
  obtain ⟨ys, n', hn', hy, hlen, hyl, hf⟩ := DataW.trod_struct he ht
  obtain ⟨_, hcl, hat⟩ := World.cells?_some hc
  have key : ∀ j, ∃ z : Int, j < fs.size → w.cell? (a.add j) = some (.int .i64 z) := by
    intro j
    by_cases hj : j < fs.size
    · have hj' : fs[j]? = some fs[j] := Array.getElem?_eq_getElem hj
      obtain ⟨ho, hk⟩ := hone_of hone j _ hj'
      have h1 := hf j _ hj'
      rw [ho, hk] at h1
      have hv : (cs.drop j).take 1 = [cs[j]'(by omega)] := by
        rw [List.drop_eq_getElem_cons (by omega)]
        rfl
      rw [hv, List.getElem?_eq_getElem (by omega)] at h1
      obtain ⟨z, hz, _, _⟩ := DataW.trod_int (hint j _ hj') h1
      refine ⟨z, fun _ => ?_⟩
      rw [hat j hj, List.getElem?_eq_getElem (by omega)]
      injection hz with hz
      rw [hz]
    · exact ⟨0, fun h => absurd h hj⟩
  exact ⟨fun j => Classical.choose (key j), fun j hj => Classical.choose_spec (key j) hj⟩
theorem open_rows {t e : TypeId} {fs : Array Field} {fuel : Nat} {cs : List Value} {x : DataW H × List MemPlace} (ht : P.underlying t = some (.slice e)) (he : P.underlying e = some (.struct fs)) (hone : oneCellFields P fs = true) (hC : P.cellsOf e = fs.size)
    (hint : ∀ (j : Nat) (f : Field), fs[j]? = some f → P.underlying f.type = some (.int .i64)) (h : DataW.trod enc P w base spare held fuel t cs = some x) :
    cs = [.slice none 0 0] ∨ ∃ (a : Addr) (len cap : Nat) (g : Nat → Nat → Int), cs = [.slice (some a) len cap] ∧ len ≤ cap ∧ ∀ i, i < len → ∀ j, j < fs.size → w.cell? (a.add (i * fs.size + j)) = some (.int .i64 (g i j)) := by
  rcases open_slice ht h with ⟨rfl, _⟩ | ⟨a, len, cap, m, n, D, Pl, rfl, hb, hl, hm, hmm, hx, hi⟩
  · exact .inl rfl
  · refine .inr ⟨a, len, cap, ?_⟩
    have hlm : len ≤ m := by rw [hmm]; split <;> omega
    have key : ∀ i, ∃ g : Nat → Int, i < len → ∀ j, j < fs.size → w.cell? (a.add (i * fs.size + j)) = some (.int .i64 (g j)) := by
      intro i
      by_cases h : i < len
      · obtain ⟨cs', hc, ht'⟩ := hi i (by omega)
        rw [hC] at hc
        obtain ⟨g, hg⟩ := row_fields he hone hint hc ht'
        refine ⟨g, fun _ j hj => ?_⟩
        rw [← Go.Deep.add_add]
        exact hg j hj
      · exact ⟨fun _ => 0, fun h' => absurd h' h⟩
    exact ⟨fun i => Classical.choose (key i), rfl, hl, fun i hi => Classical.choose_spec (key i) hi⟩
end
theorem add_spot {w : World} {x : Addr} {v : Value} (h : w.cell? (x.add 0) = some v) : x = ⟨x.block, x.off, none⟩ ∧ x.block < w.heap.size := by
  obtain ⟨b, off, spot⟩ := x
  have hs : spot = none := World.cell?_spot (a := ⟨b, off, spot⟩) h
  subst hs
  refine ⟨rfl, ?_⟩
  show b < _
  have h' : w.cell? ⟨b, off, none⟩ = some v := h
  unfold World.cell? at h'
  by_cases hb : b < w.heap.size
  · exact hb
  · rw [show w.heap[b]? = none from Array.getElem?_eq_none (by omega)] at h'
    simp at h'
/-- What a walk is told of a slice of rows: its length, its room, and the cells. -/
def Came (w : World) (A : Option Addr) (n c : Nat) (xs : List Value) : Prop := n ≤ c ∧ Rd w w.heap.size A xs
theorem came_cells {w : World} {k len cap : Nat} {a : Addr} {g : Nat → Nat → Int} (hk : 0 < k) (hl : len ≤ cap) (hc : ∀ i, i < len → ∀ j, j < k → w.cell? (a.add (i * k + j)) = some (.int .i64 (g i j))) (xs : List Value) (hx : xs.length = len * k)
    (hg : ∀ i, i < len → ∀ j, j < k → xs[i * k + j]? = some (.int .i64 (g i j))) : Came w (some a) len cap xs := by
  refine ⟨hl, fun hne => ?_⟩
  have h0 : 0 < len := by
    rcases Nat.eq_zero_or_pos len with h | h
    · subst h
      rw [Nat.zero_mul] at hx
      exact absurd (List.eq_nil_of_length_eq_zero hx) hne
    · exact h
  have c0 := hc 0 h0 0 hk
  rw [Nat.zero_mul] at c0
  obtain ⟨e, hb⟩ := add_spot c0
  refine ⟨a.block, a.off, by rw [e], hb, fun j u hu => ?_⟩
  have hj : j < len * k := by rw [← hx]; exact (List.getElem?_eq_some_iff.1 hu).1
  have hm := Nat.div_add_mod j k
  have hi : j / k < len := Nat.div_lt_of_lt_mul (by rw [Nat.mul_comm]; exact hj)
  have hr := Nat.mod_lt j hk
  have e2 : j / k * k + j % k = j := by rw [Nat.mul_comm]; exact hm
  have h1 := hg _ hi _ hr
  have h2 := hc _ hi _ hr
  rw [e2] at h1 h2
  rw [h1] at hu
  injection hu with hu
  rw [← hu, ← h2]
  rw [e]
  exact (congrArg w.cell? (addr_add a.block a.off j)).symm
theorem came_pairs {w : World} {cs : List Value} (h : cs = [.slice none 0 0] ∨ ∃ (a : Addr) (len cap : Nat) (g : Nat → Nat → Int), cs = [.slice (some a) len cap] ∧ len ≤ cap ∧ ∀ i, i < len → ∀ j, j < 2 → w.cell? (a.add (i * 2 + j)) = some (.int .i64 (g i j))) :
    ∃ A c, ∃ l : List (Int × Int), cs = [.slice A l.length c] ∧ Came w A l.length c (pairs l) := by
  rcases h with rfl | ⟨a, len, cap, g, rfl, hl, hc⟩
  · exact ⟨none, 0, [], rfl, Nat.le_refl _, Rd.nil⟩
  · refine ⟨some a, cap, (List.range len).map fun i => (g i 0, g i 1), by simp, ?_⟩
    rw [List.length_map, List.length_range]
    refine came_cells (k := 2) (by decide) hl hc _ (by rw [pairs_length]; simp) fun i hi j hj => ?_
    obtain ⟨p1, p2⟩ := pairs_get ((List.range len).map fun i => (g i 0, g i 1)) i (by simpa using hi)
    match j, hj with
    | 0, _ => rw [Nat.add_zero, p1]; simp
    | 1, _ => rw [p2]; simp
theorem came_trips {w : World} {cs : List Value} (h : cs = [.slice none 0 0] ∨ ∃ (a : Addr) (len cap : Nat) (g : Nat → Nat → Int), cs = [.slice (some a) len cap] ∧ len ≤ cap ∧ ∀ i, i < len → ∀ j, j < 3 → w.cell? (a.add (i * 3 + j)) = some (.int .i64 (g i j))) :
    ∃ A c, ∃ l : List (Int × Int × Int), cs = [.slice A l.length c] ∧ Came w A l.length c (trips l) := by
  rcases h with rfl | ⟨a, len, cap, g, rfl, hl, hc⟩
  · exact ⟨none, 0, [], rfl, Nat.le_refl _, Rd.nil⟩
  · refine ⟨some a, cap, (List.range len).map fun i => (g i 0, g i 1, g i 2), by simp, ?_⟩
    rw [List.length_map, List.length_range]
    refine came_cells (k := 3) (by decide) hl hc _ (by rw [trips_length]; simp) fun i hi j hj => ?_
    obtain ⟨p1, p2, p3⟩ := trips_get ((List.range len).map fun i => (g i 0, g i 1, g i 2)) i (by simpa using hi)
    match j, hj with
    | 0, _ => rw [Nat.add_zero, p1]; simp
    | 1, _ => rw [p2]; simp
    | 2, _ => rw [p3]; simp
end Go.Proofs.YtfojjecnmfkcfaaGreat
namespace Go.Proofs.YtfojjecnmfkcfaaGreat
open Go.ChangeShapes Go.WideShapes Go.ChangeAt Go.RowKit Go.Joins
set_option linter.unusedVariables false
theorem own : ownKnob Tryz.prog.godebug = none := by kernel_rfl
theorem laidOut : laidOutB Tryz.prog = true := by kernel_rfl
theorem cellsHouse : Tryz.prog.cellsOf 37 = 3 := by kernel_rfl
theorem cellsBill : Tryz.prog.cellsOf 27 = 2 := by kernel_rfl
theorem intFields3 {f0 f1 f2 : Field} {P : Program} (h0 : P.underlying f0.type = some (.int .i64)) (h1 : P.underlying f1.type = some (.int .i64)) (h2 : P.underlying f2.type = some (.int .i64)) : ∀ (j : Nat) (f : Field), #[f0, f1, f2][j]? = some f → P.underlying f.type = some (.int .i64) := by
  intro j f h
  match j with
  | 0 => simp at h; subst h; exact h0
  | 1 => simp at h; subst h; exact h1
  | 2 => simp at h; subst h; exact h2
  | j + 3 => simp at h
variable {H : Type} {enc : TypeId × Value → H} {W : World} {base : Nat} {spare : Nat → Bool} {held : Bool}
set_option maxRecDepth 100000 in
theorem open_bill {r : Reach} {b0 : Nat} {v : Value} {d : DataW H} {p : List MemPlace} (hv : Value.okWide Tryz.prog W r b0 27 v) (h : DataW.Trod enc Tryz.prog W base spare held 27 v d p) :
    ∃ (n : Int) (A : Option Addr) (c : Nat) (hs : List (Int × Int × Int)), v = .agg #[.int .i64 n, .slice A hs.length c] ∧ Came W A hs.length c (trips hs) := by
  obtain ⟨v0, v1, y0, y1, m, rfl, _, _, h0, h1⟩ := open_agg2 Tryz.underlying27 (by kernel_rfl) cellsBill hv h
  obtain ⟨z, hz, _, _⟩ := DataW.trod_int Tryz.underlying3 h0
  obtain ⟨A, c, l, e1, e2⟩ := came_trips (open_rows Tryz.underlying25 Tryz.underlying37 (by kernel_rfl) cellsHouse (intFields3 Tryz.underlying3 Tryz.underlying3 Tryz.underlying3) h1)
  injection hz with hz
  injection e1 with e1
  exact ⟨z, A, c, l, by rw [hz, e1], e2⟩
end Go.Proofs.YtfojjecnmfkcfaaGreat
