/- On which days charges are paid. -/
import Derived.Test.YtfojjecnmfkcfaaAcct
import Derived.Test.YtfojjecnmfkcfaaStepped
import Derived.WalkMore
namespace Go.Proofs.Ytfojjecnmfkcfaa
open Go.RowKit
set_option linter.unusedVariables false
def payDay (ps : List (Int × Int)) (all d : Int) : List (Int × Int) → Int
  | [] => -1
  | p :: r => if all ≤ uptoF ps p.1 then max d p.1 else payDay ps all d r
def allOf (cs : List (Int × Int)) (k : Nat) : Int := ((cs.map (·.2)).take k).sum
def paidAt (cs ps : List (Int × Int)) (k : Nat) : Int := payDay ps (allOf cs (k + 1)) (cs.getD k (0, 0)).1 ps
def paidK (cs ps : List (Int × Int)) (k : Nat) : List Int := (List.range k).map (paidAt cs ps)
def paidL (cs ps : List (Int × Int)) : List Int := paidK cs ps cs.length
theorem paidK_succ (cs ps : List (Int × Int)) (k : Nat) : ints (paidK cs ps (k + 1)) = ints (paidK cs ps k) ++ [.int .i64 (paidAt cs ps k)] := by
  unfold paidK ints; rw [List.range_succ]; simp
theorem paidK_length (cs ps : List (Int × Int)) (k : Nat) : (paidK cs ps k).length = k := by simp [paidK]
theorem allOf_succ (cs : List (Int × Int)) (k : Nat) (h : k < cs.length) : allOf cs (k + 1) = allOf cs k + cs[k].2 := by
  unfold allOf
  rw [take_sum _ _ (by simpa using h)]
  simp
theorem allOf_bd {cs : List (Int × Int)} (hp : ∀ e ∈ cs, 0 ≤ e.2 ∧ e.2 ≤ 10000) : ∀ k, k ≤ cs.length → 0 ≤ allOf cs k ∧ allOf cs k ≤ 10000 * k
  | 0, _ => by simp [allOf]
  | k + 1, h => by
    have ih := allOf_bd hp k (by omega)
    have := hp cs[k] (List.getElem_mem _)
    rw [allOf_succ cs k (by omega)]
    omega
theorem payDay_drop (ps : List (Int × Int)) (all d : Int) (k : Nat) (h : k < ps.length) : payDay ps all d (ps.drop k) = if all ≤ uptoF ps ps[k].1 then max d ps[k].1 else payDay ps all d (ps.drop (k + 1)) := by
  rw [List.drop_eq_getElem_cons h]; rfl
theorem own_keep {w w' : World} {base : Nat} {e : TypeId} {size n : Nat} {v : Value} {xs : List Value} (h : w.ownsRow base e size v n xs) (hb : Below w.heap.size w w') : w'.ownsRow base e size v n xs :=
  h.kept ⟨hb.os, hb.tape, hb.output, hb.size, fun k hk (_ : some k ≠ none) => hb.block k hk⟩ (by cases hv : v.ownBlock <;> simp)
theorem infoIntP : (Try.prog.info? 3).map (fun i => (i.zero, i.size, i.bytes)) = some (some (.int .i64 0), 1, 8) := by kernel_rfl
set_option maxRecDepth 100000 in
set_option maxHeartbeats 4000000 in
theorem paid_any (A B : Option Addr) (c d : Nat) (cs ps : List (Int × Int)) (g l : Int) (w : World) (hA : Rd w w.heap.size A (pairs cs)) (hB : Rd w w.heap.size B (pairs ps)) (hl : cs.length ≤ 8) (hl2 : ps.length ≤ 8)
    (hc : ∀ e ∈ cs, 0 ≤ e.1 ∧ e.1 ≤ 400 ∧ 1 ≤ e.2 ∧ e.2 ≤ 10000) (hp : ∀ e ∈ ps, 0 ≤ e.1 ∧ e.1 ≤ 400 ∧ 1 ≤ e.2 ∧ e.2 ≤ 10000) :
    Calls Try.prog 110 #[accV A cs.length c B ps.length d g l] w (RetOwn 3 1 cs.length (ints (paidL cs ps)) w) := by
  obtain ⟨i0, ihi, ihz0, ihz1, ihz2⟩ := info_parts infoIntP
  have hU : ∀ W day, Below w.heap.size w W → Hid (Calls Try.prog 145 #[.slice B ps.length d, .int .i64 day] W fun e w' => e = .returned (.int .i64 (uptoF ps day)) ∧ Below W.heap.size W w') := fun W day hW =>
    upto_any B d ps day W (hB.next hW) (by omega) (fun e he => by have := hp e he; omega)
  have hA0 := allOf_bd (cs := cs) (fun e he => by have := hc e he; omega)
  unfold accV
  have hb0 := accBox w (.slice A cs.length c) (.slice B ps.length d) (.int .i64 g) (.int .i64 l) 76
  obtain ⟨c0, c1, c2, c3⟩ := hb0
  have HA0 := Lib.hid hA0
  clear hA0
  go_enter Try.func110, Try.ntmps110
  go_wp2_with fail
  obtain ⟨W1, hW1⟩ : ∃ W1, W1 = w.alloc (.cells #[.slice A cs.length c, .slice B ps.length d, .int .i64 g, .int .i64 l] 76) := ⟨_, rfl⟩
  rw [← hW1] at c0 c1 ⊢
  have k3 : Below w.heap.size w W1 := by rw [hW1]; go_grown
  have k4 : w.heap.size < W1.heap.size := by rw [hW1]; simp
  clear hW1 c2 c3
  go_wp2_with fail
  go_loopw [3, 4, 6, 7, 9, 13, 25] (fun v al _ _ _ i _ wr => ∃ k : Nat, k ≤ cs.length ∧ i = .int .i64 k ∧ al = .int .i64 (allOf cs k) ∧ wr.ownsRow W1.heap.size 3 1 v k (ints (paidK cs ps k)) ∧ Below W1.heap.size W1 wr) (fun _ _ _ _ _ i _ _ => cs.length - (intOf i).toNat)
  case atStart => exact ⟨0, Nat.zero_le _, rfl, rfl, World.ownsRow_nil _ _ _ _, Below.refl _ _⟩
  case round =>
    obtain ⟨k, hk, rfl, rfl, hown, hbw⟩ := hrel
    have hbww := k3.trans (hbw.mono k3.size)
    by_cases hlt : k < cs.length
    · obtain ⟨b, off, rfl, hbb, e1, e2⟩ := (hA.below hbww).pair hlt
      have hbs := hbw.size
      have hbb' : b < wr.heap.size := Nat.lt_of_lt_of_le hbb hbww.size
      have c1r := (hbw.cell (p := ⟨w.heap.size, 1, none⟩) k4).trans c1
      have hwr : w.heap.size < wr.heap.size := Nat.lt_of_lt_of_le k4 hbs
      have hst := allOf_succ cs k hlt
      obtain ⟨a1, a2⟩ := HA0.out k (by omega)
      obtain ⟨x1, x2, x3, x4⟩ := hc cs[k] (List.getElem_mem _)
      have hkk : (k : Int) ≤ 8 := by omega
      have HO := Lib.hid hown
      clear hown
      go_wp2_with fail
      go_step3
      go_wp2_with fail
      refine (sum2_any (by simp) _ _ (by omega) (by omega) (by omega) (by omega)).mono ?_
      rintro e w1 ⟨rfl, rfl⟩
      rw [← hst]
      have hpk : paidAt cs ps k = payDay ps (allOf cs (k + 1)) cs[k].1 ps := by unfold paidAt; simp [List.getD_eq_getElem?_getD, List.getElem?_eq_getElem hlt]
      have HPK := Lib.hid hpk
      clear hst hpk
      go_wp2_with fail
      go_step3
      go_wp2_with fail
      obtain ⟨wo, hwo⟩ : ∃ x, x = wr := ⟨_, rfl⟩
      subst hwo
      go_loopw [7, 9, 25] (fun dv _ i wr2 => ∃ m : Nat, m ≤ ps.length ∧ i = .int .i64 m ∧ dv = .int .i64 (-1) ∧ Hid (payDay ps (allOf cs (k + 1)) cs[k].1 ps = payDay ps (allOf cs (k + 1)) cs[k].1 (ps.drop m)) ∧ wr2.cell? ⟨wo.heap.size, 0, none⟩ = some (.int .i64 cs[k].1) ∧ wo.heap.size < wr2.heap.size ∧ Below wo.heap.size wo wr2) (fun _ _ i _ => ps.length - (intOf i).toNat)
      case atStart => exact ⟨0, Nat.zero_le _, rfl, rfl, rfl, by simp, by simp; omega, ((Below.refl _ _).alloc (by simp) _).alloc (by simp) _⟩
      case round =>
        obtain ⟨m, hm, rfl, rfl, HP, hbx, hbz, hb2⟩ := hrel
        have hbwi := hbww.trans (hb2.mono hbww.size)
        by_cases hlm : m < ps.length
        · obtain ⟨b2, off2, rfl, hbb2, f1, f2⟩ := (hB.below hbwi).pair hlm
          have hbb2' : b2 < wr.heap.size := Nat.lt_of_lt_of_le hbb2 hbwi.size
          have c1i := (hb2.cell (p := ⟨w.heap.size, 1, none⟩) hwr).trans c1r
          have hwi : w.heap.size < wr.heap.size := Nat.lt_of_lt_of_le hwr hb2.size
          have hdr := payDay_drop ps (allOf cs (k + 1)) cs[k].1 m hlm
          go_wp2_with fail
          refine ((hU _ _ (hbwi.alloc hbwi.size _)).out).mono ?_
          rintro e w1 ⟨rfl, hbu⟩
          have hbu1 : Below wo.heap.size wo w1 := (hb2.alloc hb2.size _).trans (hbu.mono (by have := hb2.size; simp; omega))
          have hbx1 := (hbu.cell (p := ⟨wo.heap.size, 0, none⟩) (by simp; omega)).trans ((World.cell?_alloc_lt wr _ ⟨wo.heap.size, 0, none⟩ hbz).trans hbx)
          have hpx1 := (hbu.cell (p := ⟨wr.heap.size, 0, none⟩) (by simp)).trans (news_new wr [.int .i64 ps[m].1, .int .i64 ps[m].2] 80 rfl 0 _ rfl)
          have hz1 := hbu.size
          simp at hz1
          by_cases hge : allOf cs (k + 1) ≤ uptoF ps ps[m].1
          · rw [if_pos hge] at hdr
            have HV := Lib.hid (HPK.out.trans (HP.out.trans hdr))
            clear hdr
            have HV2 : Hid (paidAt cs ps k = if cs[k].1 < ps[m].1 then ps[m].1 else cs[k].1) := HV.out.trans (by split <;> omega)
            go_wp2_with (at_builtin; refine wpList_append_own_at _ rfl _ _ 45 rfl W1.heap.size 3 i0 _ 1 8 Try.underlying45 ihi ihz0 ihz1 ihz2 rfl (by decide) _ _ _ rfl ((own_keep HO.out hbu1).alloc _) ⟨w1.heap.size, 0, none⟩ 1 1 [.int .i64 (if cs[k].1 < ps[m].1 then ps[m].1 else cs[k].1)] rfl rfl (news_new _ _ _ rfl) (by simp [Value.oneCell']) (by simp only [maxLen]; omega) (by omega) (by have h1 := hbw.size; have h2 := (hbu1).size; simp; omega) ?_; intro v1 w2 hown1 hgrow1 _ hat1)
            all_goals
              go_roundw
              case rel =>
                refine ⟨k + 1, by omega, by go_num, rfl, ?_, ?_⟩
                · rw [paidK_succ, HV2.out]; exact hown1
                · exact ((hbw.trans (hbu1.mono hbw.size)).alloc (Nat.le_trans hbw.size (hbu1).size) _).grown hgrow1 (by have h1 := hbw.size; have h2 := (hbu1).size; simp; omega) (fun q hq => (HO.out.lt q hq).1)
              case measure => simp [intOf]; omega
          · rw [if_neg hge] at hdr
            have HV : Hid (payDay ps (allOf cs (k + 1)) cs[k].1 ps = _) := HP.out.trans hdr
            clear hdr
            go_wp2_with fail
            go_roundw
            case rel => exact ⟨m + 1, by omega, by go_num, rfl, HV, hbx1, by omega, hbu1⟩
            case measure => simp [intOf]; omega
        · obtain rfl : m = ps.length := by omega
          have HV : Hid (paidAt cs ps k = -1) := HPK.out.trans (HP.out.trans (by rw [List.drop_length]; rfl))
          clear hlm
          go_wp2_with (at_builtin; refine wpList_append_own_at _ rfl _ _ 45 rfl W1.heap.size 3 i0 _ 1 8 Try.underlying45 ihi ihz0 ihz1 ihz2 rfl (by decide) _ _ _ rfl ((own_keep HO.out hb2).alloc _) ⟨wr.heap.size, 0, none⟩ 1 1 [.int .i64 (-1)] rfl rfl (news_new _ _ _ rfl) (by simp [Value.oneCell']) (by simp only [maxLen]; omega) (by omega) (by have h1 := hbw.size; have h2 := (hb2).size; simp; omega) ?_; intro v1 w2 hown1 hgrow1 _ hat1)
          refine (by assumption : ∀ (a : Act) (w : World), Code.wp Try.prog _ _ a w → (_ : Act → World → Prop) a w) _ _ ?_
          go_wp2_with fail
          go_roundw
          case rel =>
            refine ⟨k + 1, by omega, by go_num, rfl, ?_, ?_⟩
            · rw [paidK_succ, HV.out]; exact hown1
            · exact ((hbw.trans (hb2.mono hbw.size)).alloc (Nat.le_trans hbw.size (hb2).size) _).grown hgrow1 (by have h1 := hbw.size; have h2 := (hb2).size; simp; omega) (fun q hq => (HO.out.lt q hq).1)
          case measure => simp [intOf]; omega
    · obtain rfl : k = cs.length := by omega
      have HO := Lib.hid hown
      clear hown hlt
      go_wp2_with fail
      go_ret
      exact ⟨_, rfl, HO.out.base_ k3.size, hbww⟩
end Go.Proofs.Ytfojjecnmfkcfaa
