/- Paid, and Late. -/
import Derived.Test.YtfojjecnmfkcfaaPaid
import Derived.Test.YtfojjecnmfkcfaaAppeal
import Derived.StillTailTactics
import Derived.Deep.QuietTactic
namespace Go.Proofs.Ytfojjecnmfkcfaa
open Go.RowKit
set_option linter.unusedVariables false
def paidR (cs ps : List (Int × Int)) (g l : Int) : List Int := if ckAcc cs ps g l = 0 then paidL cs ps else []
set_option maxHeartbeats 1000000 in
theorem Paid_any (A B : Option Addr) (c d : Nat) (cs ps : List (Int × Int)) (g l : Int) (w : World) (hA : Ent w A c cs) (hB : Ent w B d ps) (hl : cs.length ≤ 1000) (hl2 : ps.length ≤ 1000) :
    Calls Try.prog 49 #[accV A cs.length c B ps.length d g l] w (RetOwnE 3 1 (paidR cs ps g l).length (ints (paidR cs ps g l)) (ckAcc cs ps g l) w) := by
  have HC := fun w1 (hb : Below w.heap.size w w1) => Lib.hid (CheckAccount_any A B c d cs ps g l w1 (hA.next hb) (hB.next hb) hl hl2)
  unfold accV at HC ⊢
  by_cases h0 : ckAcc cs ps g l = 0
  · have ho := ckAcc_ok h0
    have HP := fun w1 (hb : Below w.heap.size w w1) => Lib.hid (paid_any A B c d cs ps g l w1 (hA.next hb).rd (hB.next hb).rd ho.clen ho.plen ho.call ho.pall)
    unfold accV at HP
    have e1 : paidR cs ps g l = paidL cs ps := by unfold paidR; rw [if_pos h0]
    have e2 : (paidL cs ps).length = cs.length := paidK_length _ _ _
    rw [e1, e2, h0]
    rw [h0] at HC
    clear h0 e1 e2
    go_enter Try.func49, Try.ntmps49
    go_wp2_with fail
    refine (HC _ (by go_grown)).out.mono ?_
    rintro e w1 ⟨rfl, hb1⟩
    have hbw : Below w.heap.size w w1 := Below.trans (by go_grown) (hb1.mono (by simp))
    obtain ⟨c0, c1, c2, c3⟩ := accBox w (.slice A cs.length c) (.slice B ps.length d) (.int .i64 g) (.int .i64 l) 76
    have d0 := (hb1.cell (p := ⟨w.heap.size, 0, none⟩) (by simp)).trans c0
    have d1 := (hb1.cell (p := ⟨w.heap.size, 1, none⟩) (by simp)).trans c1
    have d2 := (hb1.cell (p := ⟨w.heap.size, 2, none⟩) (by simp)).trans c2
    have d3 := (hb1.cell (p := ⟨w.heap.size, 3, none⟩) (by simp)).trans c3
    clear c0 c1 c2 c3
    go_wp2_with fail
    refine (HP _ hbw).out.mono ?_
    rintro e w2 ⟨v, rfl, hown, hb2⟩
    have HO := Lib.hid hown
    clear hown
    go_wp2_with fail
    go_ret2
    exact ⟨v, rfl, HO.out.base_ hbw.size, hbw.trans (hb2.mono hbw.size)⟩
  · have e1 : paidR cs ps g l = [] := by unfold paidR; rw [if_neg h0]
    rw [e1]
    have h0' : (ckAcc cs ps g l == 0) = false := by simpa using h0
    have h0'' : (ckAcc cs ps g l != 0) = true := by simpa using h0
    clear h0 e1
    go_enter Try.func49, Try.ntmps49
    go_wp2_with fail
    refine (HC _ (by go_grown)).out.mono ?_
    rintro e w1 ⟨rfl, hb1⟩
    have hbw : Below w.heap.size w w1 := Below.trans (by go_grown) (hb1.mono (by simp))
    go_wp2_with fail
    go_ret2
    exact ⟨_, rfl, World.ownsRow_nil _ _ _ _, hbw⟩
def lateB (cs ps : List (Int × Int)) (g day : Int) (i : Nat) : Bool :=
  decide ((cs.getD i (0, 0)).1 + g < day) && (decide (paidAt cs ps i = -1) || decide ((cs.getD i (0, 0)).1 + g < paidAt cs ps i))
def lateK (cs ps : List (Int × Int)) (g day : Int) (k : Nat) : List Int := ((List.range k).filter (lateB cs ps g day)).map fun (i : Nat) => (i : Int)
def lateC (cs ps : List (Int × Int)) (g l day : Int) (k : Nat) : Int := (((List.range k).filter (lateB cs ps g day)).map fun (i : Nat) => ((cs.getD i (0, 0)).2 * l + 99) / 100).sum
theorem lateK_succ (cs ps : List (Int × Int)) (g day : Int) (k : Nat) : lateK cs ps g day (k + 1) = lateK cs ps g day k ++ (if lateB cs ps g day k then [(k : Int)] else []) := by
  unfold lateK
  rw [List.range_succ, List.filter_append, List.map_append]
  congr 1
  by_cases h : lateB cs ps g day k = true <;> simp [h]
theorem lateC_succ (cs ps : List (Int × Int)) (g l day : Int) (k : Nat) : lateC cs ps g l day (k + 1) = lateC cs ps g l day k + (if lateB cs ps g day k then ((cs.getD k (0, 0)).2 * l + 99) / 100 else 0) := by
  unfold lateC
  rw [List.range_succ, List.filter_append, List.map_append, List.sum_append]
  congr 1
  by_cases h : lateB cs ps g day k = true <;> simp [h]
theorem lateK_len (cs ps : List (Int × Int)) (g day : Int) (k : Nat) : (lateK cs ps g day k).length ≤ k := by
  unfold lateK
  rw [List.length_map]
  exact Nat.le_trans (List.length_filter_le _ _) (by simp)
theorem lateC_bd {cs : List (Int × Int)} {l : Int} (hc : ∀ e ∈ cs, 0 ≤ e.1 ∧ e.1 ≤ 400 ∧ 1 ≤ e.2 ∧ e.2 ≤ 10000) (h1 : 0 ≤ l) (h2 : l ≤ 100) (ps : List (Int × Int)) (g day : Int) : ∀ k, k ≤ cs.length → 0 ≤ lateC cs ps g l day k ∧ lateC cs ps g l day k ≤ 10001 * k
  | 0, _ => by simp [lateC]
  | k + 1, h => by
    have ih := lateC_bd hc h1 h2 ps g day k (by omega)
    have hx := hc cs[k] (List.getElem_mem _)
    have hgd : cs.getD k (0, 0) = cs[k] := by simp [List.getD_eq_getElem?_getD, List.getElem?_eq_getElem (show k < cs.length by omega)]
    have hm1 : 0 ≤ cs[k].2 * l := Int.mul_nonneg (by omega) h1
    have hm2 : cs[k].2 * l ≤ 10000 * 100 := Int.mul_le_mul hx.2.2.2 h2 h1 (by omega)
    rw [lateC_succ, hgd]
    split <;> omega
def lateL (cs ps : List (Int × Int)) (g l day : Int) : List Int := if datedCode cs ps g l day = 0 then lateK cs ps g day cs.length else []
def lateCost (cs ps : List (Int × Int)) (g l day : Int) : Int := if datedCode cs ps g l day = 0 then lateC cs ps g l day cs.length else 0
theorem datedCode_ok {cs ps : List (Int × Int)} {g l day : Int} (h : datedCode cs ps g l day = 0) : AccOk cs ps g l ∧ 0 ≤ day ∧ day ≤ 400 := by
  unfold datedCode at h
  by_cases h0 : ckAcc cs ps g l = 0
  · rw [if_pos h0] at h
    by_cases h1 : inB day 0 400 = true
    · exact ⟨ckAcc_ok h0, by simpa [inB_iff] using h1⟩
    · rw [if_neg h1] at h; omega
  · rw [if_neg h0] at h; exact absurd h h0
set_option maxRecDepth 100000 in
set_option maxHeartbeats 4000000 in
theorem Late_any (A B : Option Addr) (c d : Nat) (cs ps : List (Int × Int)) (g l day : Int) (w : World) (hA : Ent w A c cs) (hB : Ent w B d ps) (hl : cs.length ≤ 1000) (hl2 : ps.length ≤ 1000) :
    Calls Try.prog 50 #[accV A cs.length c B ps.length d g l, .int .i64 day] w (RetApp 3 (lateL cs ps g l day) (lateCost cs ps g l day) (datedCode cs ps g l day) w) := by
  obtain ⟨i0, ihi, ihz0, ihz1, ihz2⟩ := info_parts infoIntP
  have HC := fun w1 (hb : Below w.heap.size w w1) => Lib.hid (dated_any A B c d cs ps g l day w1 (hA.next hb) (hB.next hb) hl hl2)
  unfold accV at HC ⊢
  by_cases h0 : datedCode cs ps g l day = 0
  · obtain ⟨ho, hd1, hd2⟩ := datedCode_ok h0
    have HP := fun w1 (hb : Below w.heap.size w w1) => Lib.hid (paid_any A B c d cs ps g l w1 (hA.next hb).rd (hB.next hb).rd ho.clen ho.plen ho.call ho.pall)
    unfold accV at HP
    have e1 : lateL cs ps g l day = lateK cs ps g day cs.length := by unfold lateL; rw [if_pos h0]
    have e2 : lateCost cs ps g l day = lateC cs ps g l day cs.length := by unfold lateCost; rw [if_pos h0]
    rw [e1, e2, h0]
    rw [h0] at HC
    clear h0 e1 e2
    obtain ⟨hc8, hp8, ⟨g1, g2⟩, ⟨l1, l2⟩, hca, hpa, _, _⟩ := ho
    go_enter Try.func50, Try.ntmps50
    go_wp2_with fail
    refine (HC _ (by go_grown)).out.mono ?_
    rintro e w1 ⟨rfl, hb1⟩
    have hbw : Below w.heap.size w w1 := Below.trans (by go_grown) (hb1.mono (by simp))
    obtain ⟨c0, c1, c2, c3⟩ := accBox w (.slice A cs.length c) (.slice B ps.length d) (.int .i64 g) (.int .i64 l) 76
    have d0 := (hb1.cell (p := ⟨w.heap.size, 0, none⟩) (by simp)).trans c0
    have d1 := (hb1.cell (p := ⟨w.heap.size, 1, none⟩) (by simp)).trans c1
    have d2 := (hb1.cell (p := ⟨w.heap.size, 2, none⟩) (by simp)).trans c2
    have d3 := (hb1.cell (p := ⟨w.heap.size, 3, none⟩) (by simp)).trans c3
    have hz1 : w.heap.size < w1.heap.size := by have := hb1.size; simp at this; omega
    clear c0 c1 c2 c3
    go_wp2_with fail
    refine (HP _ hbw).out.mono ?_
    rintro e W3 ⟨v, rfl, hownp, hb3⟩
    obtain ⟨Ap, cp, rfl, hcp, hrp⟩ := own_slice hownp
    have hbW3 := hbw.trans (hb3.mono hbw.size)
    have d0' := (hb3.cell (p := ⟨w.heap.size, 0, none⟩) hz1).trans d0
    have d2' := (hb3.cell (p := ⟨w.heap.size, 2, none⟩) hz1).trans d2
    have d3' := (hb3.cell (p := ⟨w.heap.size, 3, none⟩) hz1).trans d3
    have hz3 : w.heap.size < W3.heap.size := Nat.lt_of_lt_of_le hz1 hb3.size
    clear hownp d0 d1 d2 d3
    go_wp2_with fail
    go_loopw [8, 9, 10, 11, 12, 22] (fun v cst _ _ _ i wr => ∃ k : Nat, k ≤ cs.length ∧ i = .int .i64 k ∧ cst = .int .i64 (lateC cs ps g l day k) ∧ wr.ownsRow W3.heap.size 3 1 v (lateK cs ps g day k).length (ints (lateK cs ps g day k)) ∧ Below W3.heap.size W3 wr) (fun _ _ _ _ _ i _ => cs.length - (intOf i).toNat)
    case atStart => exact ⟨0, Nat.zero_le _, rfl, rfl, World.ownsRow_nil _ _ _ _, Below.refl _ _⟩
    case round =>
      obtain ⟨k, hk, rfl, rfl, hown, hbw⟩ := hrel
      have hbww := hbW3.trans (hbw.mono hbW3.size)
      by_cases hlt : k < cs.length
      · obtain ⟨b, off, rfl, hbb, e1, e2⟩ := (hA.rd.below hbww).pair hlt
        obtain ⟨bp, op, rfl, hbp, f1⟩ := (hrp.below hbw).int (t := paidL cs ps) (k := k) (by unfold paidL; rw [paidK_length]; exact hlt)
        have hf : (paidL cs ps)[k]'(by unfold paidL; rw [paidK_length]; exact hlt) = paidAt cs ps k := by simp [paidL, paidK]
        rw [hf] at f1
        have hbb' : b < wr.heap.size := Nat.lt_of_lt_of_le hbb hbww.size
        have hbp' : bp < wr.heap.size := Nat.lt_of_lt_of_le hbp hbw.size
        have d0r := (hbw.cell (p := ⟨w.heap.size, 0, none⟩) hz3).trans d0'
        have d2r := (hbw.cell (p := ⟨w.heap.size, 2, none⟩) hz3).trans d2'
        have d3r := (hbw.cell (p := ⟨w.heap.size, 3, none⟩) hz3).trans d3'
        have hzr : w.heap.size < wr.heap.size := Nat.lt_of_lt_of_le hz3 hbw.size
        obtain ⟨x1, x2, x3, x4⟩ := hca cs[k] (List.getElem_mem _)
        have hgd : cs.getD k (0, 0) = cs[k] := by simp [List.getD_eq_getElem?_getD, List.getElem?_eq_getElem hlt]
        have hLK := lateK_succ cs ps g day k
        have hLC := lateC_succ cs ps g l day k
        have hB : lateB cs ps g day k = (decide (cs[k].1 + g < day) && (decide (paidAt cs ps k = -1) || decide (cs[k].1 + g < paidAt cs ps k))) := by unfold lateB; rw [hgd]
        rw [hgd] at hLC
        obtain ⟨b1, b2⟩ := lateC_bd hca l1 l2 ps g day k (by omega)
        have hln := lateK_len cs ps g day k
        have hkl : (k : Int) < cs.length := by omega
        have hkp : (k : Int) < (cs.length : Nat) := by omega
        have hk8 : (k : Int) ≤ 8 := by omega
        have hm1 : 0 ≤ cs[k].2 * l := Int.mul_nonneg (by omega) l1
        have hm2 : cs[k].2 * l ≤ 10000 * 100 := Int.mul_le_mul x4 l2 l1 (by omega)
        have HO := Lib.hid hown
        clear hown hf hgd
        have q1 : IntKind.i64.wrap (cs[k].1 + g) = cs[k].1 + g := IntWalk.i64_in _ (by omega)
        by_cases t1 : cs[k].1 + g < day
        · by_cases t2 : paidAt cs ps k = -1
          · have t2' : (paidAt cs ps k == -1) = true := by rw [beq_iff_eq]; exact t2
            have hT : lateB cs ps g day k = true := by rw [hB, decide_eq_true t1, decide_eq_true t2]; rfl
            rw [hT] at hLK hLC
            simp only [↓reduceIte] at hLK hLC
            have HLK : Hid ((lateK cs ps g day (k + 1)).length = (lateK cs ps g day k).length + 1 ∧ ints (lateK cs ps g day (k + 1)) = ints (lateK cs ps g day k) ++ [.int .i64 k]) := by
              rw [hLK]
              exact ⟨by simp, by simp [ints]⟩
            have HLC := Lib.hid hLC
            clear hLK hLC hB hT t2
            go_wp2_with fail
            go_quiet (fail)
            clear q1
            go_wp2_with (at_builtin; refine wpList_append_own_at _ rfl _ _ 45 rfl W3.heap.size 3 i0 _ 1 8 Try.underlying45 ihi ihz0 ihz1 ihz2 rfl (by decide) _ _ _ rfl ((own_keep HO.out (below_drewN (Below.refl _ _) nq)).alloc _) ⟨wr.heap.size, 0, none⟩ 1 1 [.int .i64 k] rfl rfl (news_new _ _ _ (by simp)) (by simp [Value.oneCell']) (by simp only [maxLen]; omega) (by omega) (by have h1 := hbw.size; simp; omega) ?_; intro v1 w2 hown1 hgrow1 _ hat1)
            have hbw2 : Below W3.heap.size W3 w2 := ((below_drewN hbw nq).alloc (by have h1 := hbw.size; simp; omega) _).grown hgrow1 (by have h1 := hbw.size; simp; omega) (fun q hq => (HO.out.lt q hq).1)
            have hbww2 := hbW3.trans (hbw2.mono hbW3.size)
            obtain ⟨e1', e2'⟩ := (hA.rd.below hbww2).pair' hlt
            have d0s := (hbw2.cell (p := ⟨w.heap.size, 0, none⟩) hz3).trans d0'
            have d3s := (hbw2.cell (p := ⟨w.heap.size, 3, none⟩) hz3).trans d3'
            have HO1 := Lib.hid hown1
            clear hown1 e1 e2 d0r d2r d3r f1
            have r1 : IntKind.i64.wrap (cs[k].2 * l) = cs[k].2 * l := IntWalk.i64_in _ (by omega)
            have r2 : IntKind.i64.wrap (cs[k].2 * l + 99) = cs[k].2 * l + 99 := IntWalk.i64_in _ (by omega)
            go_still_tail 12, (by kernel_rfl)
            clear r1 r2
            obtain ⟨w3, hw3⟩ : ∃ x, x = w2.drew := ⟨_, rfl⟩
            change wpList _ _ _ _ _ w2.drew
            rw [← hw3]
            have d0t : w3.cell? ⟨w.heap.size, 0, none⟩ = some (.slice (some ⟨b, off, none⟩) cs.length c) := by rw [hw3]; exact d0s
            have d3t : w3.cell? ⟨w.heap.size, 3, none⟩ = some (.int .i64 l) := by rw [hw3]; exact d3s
            have e2t : w3.cell? ⟨b, off + k * 2 + 1, none⟩ = some (.int .i64 cs[k].2) := by rw [hw3]; exact e2'
            have HO2 : Hid (w3.ownsRow W3.heap.size 3 1 v1 ((lateK cs ps g day k).length + 1) (ints (lateK cs ps g day k) ++ [.int .i64 k])) := by rw [hw3]; exact HO1.out
            have hbw3 : Below W3.heap.size W3 w3 := by rw [hw3]; exact below_drewN hbw2 1
            clear hw3 d0s d3s e1' e2' HO1 hbw2
            go_wp2_with fail
            refine (sum2_any (by simp) _ _ (by omega) (by omega) (by omega) (by omega)).mono ?_
            rintro e w4 ⟨rfl, rfl⟩
            go_wp2_with fail
            go_roundw
            case rel => exact ⟨k + 1, by omega, by go_num, by rw [HLC.out], by rw [HLK.out.1, HLK.out.2]; exact HO2.out.alloc _, hbw3.alloc hbw3.size _⟩
            case measure => simp [intOf]; omega
          · have t2' : (paidAt cs ps k == -1) = false := by rw [beq_eq_false_iff_ne]; exact t2
            by_cases t3 : cs[k].1 + g < paidAt cs ps k
            · have hT : lateB cs ps g day k = true := by rw [hB, decide_eq_true t1, decide_eq_false t2, decide_eq_true t3]; rfl
              rw [hT] at hLK hLC
              simp only [↓reduceIte] at hLK hLC
              have HLK : Hid ((lateK cs ps g day (k + 1)).length = (lateK cs ps g day k).length + 1 ∧ ints (lateK cs ps g day (k + 1)) = ints (lateK cs ps g day k) ++ [.int .i64 k]) := by
                rw [hLK]
                exact ⟨by simp, by simp [ints]⟩
              have HLC := Lib.hid hLC
              clear hLK hLC hB hT t2
              go_wp2_with fail
              go_quiet (fail)
              clear q1
              go_wp2_with (at_builtin; refine wpList_append_own_at _ rfl _ _ 45 rfl W3.heap.size 3 i0 _ 1 8 Try.underlying45 ihi ihz0 ihz1 ihz2 rfl (by decide) _ _ _ rfl ((own_keep HO.out (below_drewN (Below.refl _ _) nq)).alloc _) ⟨wr.heap.size, 0, none⟩ 1 1 [.int .i64 k] rfl rfl (news_new _ _ _ (by simp)) (by simp [Value.oneCell']) (by simp only [maxLen]; omega) (by omega) (by have h1 := hbw.size; simp; omega) ?_; intro v1 w2 hown1 hgrow1 _ hat1)
              have hbw2 : Below W3.heap.size W3 w2 := ((below_drewN hbw nq).alloc (by have h1 := hbw.size; simp; omega) _).grown hgrow1 (by have h1 := hbw.size; simp; omega) (fun q hq => (HO.out.lt q hq).1)
              have hbww2 := hbW3.trans (hbw2.mono hbW3.size)
              obtain ⟨e1', e2'⟩ := (hA.rd.below hbww2).pair' hlt
              have d0s := (hbw2.cell (p := ⟨w.heap.size, 0, none⟩) hz3).trans d0'
              have d3s := (hbw2.cell (p := ⟨w.heap.size, 3, none⟩) hz3).trans d3'
              have HO1 := Lib.hid hown1
              clear hown1 e1 e2 d0r d2r d3r f1
              have r1 : IntKind.i64.wrap (cs[k].2 * l) = cs[k].2 * l := IntWalk.i64_in _ (by omega)
              have r2 : IntKind.i64.wrap (cs[k].2 * l + 99) = cs[k].2 * l + 99 := IntWalk.i64_in _ (by omega)
              go_still_tail 12, (by kernel_rfl)
              clear r1 r2
              obtain ⟨w3, hw3⟩ : ∃ x, x = w2.drew := ⟨_, rfl⟩
              change wpList _ _ _ _ _ w2.drew
              rw [← hw3]
              have d0t : w3.cell? ⟨w.heap.size, 0, none⟩ = some (.slice (some ⟨b, off, none⟩) cs.length c) := by rw [hw3]; exact d0s
              have d3t : w3.cell? ⟨w.heap.size, 3, none⟩ = some (.int .i64 l) := by rw [hw3]; exact d3s
              have e2t : w3.cell? ⟨b, off + k * 2 + 1, none⟩ = some (.int .i64 cs[k].2) := by rw [hw3]; exact e2'
              have HO2 : Hid (w3.ownsRow W3.heap.size 3 1 v1 ((lateK cs ps g day k).length + 1) (ints (lateK cs ps g day k) ++ [.int .i64 k])) := by rw [hw3]; exact HO1.out
              have hbw3 : Below W3.heap.size W3 w3 := by rw [hw3]; exact below_drewN hbw2 1
              clear hw3 d0s d3s e1' e2' HO1 hbw2
              go_wp2_with fail
              refine (sum2_any (by simp) _ _ (by omega) (by omega) (by omega) (by omega)).mono ?_
              rintro e w4 ⟨rfl, rfl⟩
              go_wp2_with fail
              go_roundw
              case rel => exact ⟨k + 1, by omega, by go_num, by rw [HLC.out], by rw [HLK.out.1, HLK.out.2]; exact HO2.out.alloc _, hbw3.alloc hbw3.size _⟩
              case measure => simp [intOf]; omega
            · have hT : lateB cs ps g day k = false := by rw [hB, decide_eq_true t1, decide_eq_false t2, decide_eq_false t3]; rfl
              rw [hT] at hLK hLC
              simp only [Bool.false_eq_true, if_false, List.append_nil, Int.add_zero] at hLK hLC
              have HLK := Lib.hid hLK
              have HLC := Lib.hid hLC
              clear hLK hLC hB hT t2
              go_wp2_with fail
              go_quiet (fail)
              clear q1
              go_wp2_with fail
              go_roundw
              case rel => exact ⟨k + 1, by omega, by go_num, by rw [HLC.out], by rw [HLK.out]; exact HO.out, below_drewN hbw _⟩
              case measure => simp [intOf]; omega
        · have hT : lateB cs ps g day k = false := by rw [hB, decide_eq_false t1]; rfl
          rw [hT] at hLK hLC
          simp only [Bool.false_eq_true, if_false, List.append_nil, Int.add_zero] at hLK hLC
          have HLK := Lib.hid hLK
          have HLC := Lib.hid hLC
          clear hLK hLC hB hT
          go_wp2_with fail
          go_quiet (fail)
          clear q1
          go_wp2_with fail
          go_roundw
          case rel => exact ⟨k + 1, by omega, by go_num, by rw [HLC.out], by rw [HLK.out]; exact HO.out, below_drewN hbw _⟩
          case measure => simp [intOf]; omega
      · obtain rfl : k = cs.length := by omega
        have HO := Lib.hid hown
        clear hown hlt
        go_wp2_with fail
        go_ret3
        exact ⟨_, rfl, HO.out.base_ hbW3.size, hbww⟩
  · have e1 : lateL cs ps g l day = [] := by unfold lateL; rw [if_neg h0]
    have e2 : lateCost cs ps g l day = 0 := by unfold lateCost; rw [if_neg h0]
    rw [e1, e2]
    have h0' : (datedCode cs ps g l day == 0) = false := by simpa using h0
    have h0'' : (datedCode cs ps g l day != 0) = true := by simpa using h0
    clear h0 e1 e2
    go_enter Try.func50, Try.ntmps50
    go_wp2_with fail
    refine (HC _ (by go_grown)).out.mono ?_
    rintro e w1 ⟨rfl, hb1⟩
    have hbw : Below w.heap.size w w1 := Below.trans (by go_grown) (hb1.mono (by simp))
    go_wp2_with fail
    go_ret3
    exact ⟨_, rfl, World.ownsRow_nil _ _ _ _, hbw⟩
end Go.Proofs.Ytfojjecnmfkcfaa
