/- On which days charges are paid. The rests of charges on a day: a map by charges. Paid, and Late. What is due on a day. -/
import Derived.Test.YtfojjecnmfkcfaaGreatP8
import Derived.Test.YtfojjecnmfkcfaaGreatP3
import Derived.WalkMore
import Derived.Maps.OwnOps
import Derived.Maps.Views
import Derived.WalkArith
import Derived.Test.YtfojjecnmfkcfaaGreatP6
import Derived.StillTailTactics
import Derived.Deep.QuietTactic
namespace Go.Proofs.YtfojjecnmfkcfaaGreat
open Go.RowKit
set_option linter.unusedVariables false
def payDay (ps : List (Int × Int)) (all d : Int) : List (Int × Int) → Int
  | [] => -1
  | p :: r => if all ≤ uptoF ps p.1 then max d p.1 else payDay ps all d r
def allOf (cs : List (Int × Int)) (k : Nat) : Int := ((cs.map (·.2)).take k).sum
def paidAt (cs ps : List (Int × Int)) (k : Nat) : Int := payDay ps (allOf cs (k + 1)) (cs.getD k (0, 0)).1 ps
def paidK (cs ps : List (Int × Int)) (k : Nat) : List Int := (List.range k).map (paidAt cs ps)
def paidL (cs ps : List (Int × Int)) : List Int := paidK cs ps cs.length
theorem paidK_succ (cs ps : List (Int × Int)) (k : Nat) : ints (paidK cs ps (k + 1)) = ints (paidK cs ps k) ++ [.int .i64 (paidAt cs ps k)] := by
  unfold paidK ints; rw [List.range_succ]; simp
theorem paidK_length (cs ps : List (Int × Int)) (k : Nat) : (paidK cs ps k).length = k := by simp [paidK]
theorem allOf_succ (cs : List (Int × Int)) (k : Nat) (h : k < cs.length) : allOf cs (k + 1) = allOf cs k + cs[k].2 := by
  unfold allOf
  rw [take_sum _ _ (by simpa using h)]
  simp
theorem allOf_bd {cs : List (Int × Int)} (hp : ∀ e ∈ cs, 0 ≤ e.2 ∧ e.2 ≤ 10000) : ∀ k, k ≤ cs.length → 0 ≤ allOf cs k ∧ allOf cs k ≤ 10000 * k
  | 0, _ => by simp [allOf]
  | k + 1, h => by
    have ih := allOf_bd hp k (by omega)
    have := hp cs[k] (List.getElem_mem _)
    rw [allOf_succ cs k (by omega)]
    omega
theorem payDay_drop (ps : List (Int × Int)) (all d : Int) (k : Nat) (h : k < ps.length) : payDay ps all d (ps.drop k) = if all ≤ uptoF ps ps[k].1 then max d ps[k].1 else payDay ps all d (ps.drop (k + 1)) := by
  rw [List.drop_eq_getElem_cons h]; rfl
theorem own_keep {w w' : World} {base : Nat} {e : TypeId} {size n : Nat} {v : Value} {xs : List Value} (h : w.ownsRow base e size v n xs) (hb : Below w.heap.size w w') : w'.ownsRow base e size v n xs :=
  h.kept ⟨hb.os, hb.tape, hb.output, hb.size, fun k hk (_ : some k ≠ none) => hb.block k hk⟩ (by cases hv : v.ownBlock <;> simp)
theorem infoIntP : (Tryz.prog.info? 3).map (fun i => (i.zero, i.size, i.bytes)) = some (some (.int .i64 0), 1, 8) := by kernel_rfl
set_option maxRecDepth 100000 in
set_option maxHeartbeats 4000000 in
theorem paid_any (A B : Option Addr) (c d : Nat) (cs ps : List (Int × Int)) (g l : Int) (w : World) (hA : Rd w w.heap.size A (pairs cs)) (hB : Rd w w.heap.size B (pairs ps)) (hl : cs.length ≤ 8) (hl2 : ps.length ≤ 8)
    (hc : ∀ e ∈ cs, 0 ≤ e.1 ∧ e.1 ≤ 400 ∧ 1 ≤ e.2 ∧ e.2 ≤ 10000) (hp : ∀ e ∈ ps, 0 ≤ e.1 ∧ e.1 ≤ 400 ∧ 1 ≤ e.2 ∧ e.2 ≤ 10000) :
    Calls Tryz.prog 94 #[accV A cs.length c B ps.length d g l] w (RetOwn 3 1 cs.length (ints (paidL cs ps)) w) := by
  obtain ⟨i0, ihi, ihz0, ihz1, ihz2⟩ := info_parts infoIntP
  have hU : ∀ W day, Below w.heap.size w W → Hid (Calls Tryz.prog 122 #[.slice B ps.length d, .int .i64 day] W fun e w' => e = .returned (.int .i64 (uptoF ps day)) ∧ Below W.heap.size W w') := fun W day hW =>
    upto_any B d ps day W (hB.next hW) (by omega) (fun e he => by have := hp e he; omega)
  have hA0 := allOf_bd (cs := cs) (fun e he => by have := hc e he; omega)
  unfold accV
  have hb0 := accBox w (.slice A cs.length c) (.slice B ps.length d) (.int .i64 g) (.int .i64 l) 31
  obtain ⟨c0, c1, c2, c3⟩ := hb0
  have HA0 := Lib.hid hA0
  clear hA0
  go_enter Tryz.func94, Tryz.ntmps94
  go_wp2_with fail
  obtain ⟨W1, hW1⟩ : ∃ W1, W1 = w.alloc (.cells #[.slice A cs.length c, .slice B ps.length d, .int .i64 g, .int .i64 l] 31) := ⟨_, rfl⟩
  rw [← hW1] at c0 c1 ⊢
  have k3 : Below w.heap.size w W1 := by rw [hW1]; go_grown
  have k4 : w.heap.size < W1.heap.size := by rw [hW1]; simp
  clear hW1 c2 c3
  go_wp2_with fail
  go_loopw [3, 4, 6, 7, 9, 13, 25] (fun v al _ _ _ i _ wr => ∃ k : Nat, k ≤ cs.length ∧ i = .int .i64 k ∧ al = .int .i64 (allOf cs k) ∧ wr.ownsRow W1.heap.size 3 1 v k (ints (paidK cs ps k)) ∧ Below W1.heap.size W1 wr) (fun _ _ _ _ _ i _ _ => cs.length - (intOf i).toNat)
  case atStart => exact ⟨0, Nat.zero_le _, rfl, rfl, World.ownsRow_nil _ _ _ _, Below.refl _ _⟩
  case round =>
    obtain ⟨k, hk, rfl, rfl, hown, hbw⟩ := hrel
    have hbww := k3.trans (hbw.mono k3.size)
    by_cases hlt : k < cs.length
    · obtain ⟨b, off, rfl, hbb, e1, e2⟩ := (hA.below hbww).pair hlt
      have hbs := hbw.size
      have hbb' : b < wr.heap.size := Nat.lt_of_lt_of_le hbb hbww.size
      have c1r := (hbw.cell (p := ⟨w.heap.size, 1, none⟩) k4).trans c1
      have hwr : w.heap.size < wr.heap.size := Nat.lt_of_lt_of_le k4 hbs
      have hst := allOf_succ cs k hlt
      obtain ⟨a1, a2⟩ := HA0.out k (by omega)
      obtain ⟨x1, x2, x3, x4⟩ := hc cs[k] (List.getElem_mem _)
      have hkk : (k : Int) ≤ 8 := by omega
      have HO := Lib.hid hown
      clear hown
      go_wp2_with fail
      go_step3
      go_wp2_with fail
      refine (sum2_any (by simp) _ _ (by omega) (by omega) (by omega) (by omega)).mono ?_
      rintro e w1 ⟨rfl, rfl⟩
      rw [← hst]
      have hpk : paidAt cs ps k = payDay ps (allOf cs (k + 1)) cs[k].1 ps := by unfold paidAt; simp [List.getD_eq_getElem?_getD, List.getElem?_eq_getElem hlt]
      have HPK := Lib.hid hpk
      clear hst hpk
      go_wp2_with fail
      go_step3
      go_wp2_with fail
      obtain ⟨wo, hwo⟩ : ∃ x, x = wr := ⟨_, rfl⟩
      subst hwo
      go_loopw [7, 9, 25] (fun dv _ i wr2 => ∃ m : Nat, m ≤ ps.length ∧ i = .int .i64 m ∧ dv = .int .i64 (-1) ∧ Hid (payDay ps (allOf cs (k + 1)) cs[k].1 ps = payDay ps (allOf cs (k + 1)) cs[k].1 (ps.drop m)) ∧ wr2.cell? ⟨wo.heap.size, 0, none⟩ = some (.int .i64 cs[k].1) ∧ wo.heap.size < wr2.heap.size ∧ Below wo.heap.size wo wr2) (fun _ _ i _ => ps.length - (intOf i).toNat)
      case atStart => exact ⟨0, Nat.zero_le _, rfl, rfl, rfl, by simp, by simp; omega, ((Below.refl _ _).alloc (by simp) _).alloc (by simp) _⟩
      case round =>
        obtain ⟨m, hm, rfl, rfl, HP, hbx, hbz, hb2⟩ := hrel
        have hbwi := hbww.trans (hb2.mono hbww.size)
        by_cases hlm : m < ps.length
        · obtain ⟨b2, off2, rfl, hbb2, f1, f2⟩ := (hB.below hbwi).pair hlm
          have hbb2' : b2 < wr.heap.size := Nat.lt_of_lt_of_le hbb2 hbwi.size
          have c1i := (hb2.cell (p := ⟨w.heap.size, 1, none⟩) hwr).trans c1r
          have hwi : w.heap.size < wr.heap.size := Nat.lt_of_lt_of_le hwr hb2.size
          have hdr := payDay_drop ps (allOf cs (k + 1)) cs[k].1 m hlm
          go_wp2_with fail
          refine ((hU _ _ (hbwi.alloc hbwi.size _)).out).mono ?_
          rintro e w1 ⟨rfl, hbu⟩
          have hbu1 : Below wo.heap.size wo w1 := (hb2.alloc hb2.size _).trans (hbu.mono (by have := hb2.size; simp; omega))
          have hbx1 := (hbu.cell (p := ⟨wo.heap.size, 0, none⟩) (by simp; omega)).trans ((World.cell?_alloc_lt wr _ ⟨wo.heap.size, 0, none⟩ hbz).trans hbx)
          have hpx1 := (hbu.cell (p := ⟨wr.heap.size, 0, none⟩) (by simp)).trans (news_new wr [.int .i64 ps[m].1, .int .i64 ps[m].2] 39 rfl 0 _ rfl)
          have hz1 := hbu.size
          simp at hz1
          by_cases hge : allOf cs (k + 1) ≤ uptoF ps ps[m].1
          · rw [if_pos hge] at hdr
            have HV := Lib.hid (HPK.out.trans (HP.out.trans hdr))
            clear hdr
            have HV2 : Hid (paidAt cs ps k = if cs[k].1 < ps[m].1 then ps[m].1 else cs[k].1) := HV.out.trans (by split <;> omega)
            go_wp2_with (at_builtin; refine wpList_append_own_at _ rfl _ _ 22 rfl W1.heap.size 3 i0 _ 1 8 Tryz.underlying22 ihi ihz0 ihz1 ihz2 rfl (by decide) _ _ _ rfl ((own_keep HO.out hbu1).alloc _) ⟨w1.heap.size, 0, none⟩ 1 1 [.int .i64 (if cs[k].1 < ps[m].1 then ps[m].1 else cs[k].1)] rfl rfl (news_new _ _ _ rfl) (by simp [Value.oneCell']) (by simp only [maxLen]; omega) (by omega) (by have h1 := hbw.size; have h2 := (hbu1).size; simp; omega) ?_; intro v1 w2 hown1 hgrow1 _ hat1)
            all_goals
              go_roundw
              case rel =>
                refine ⟨k + 1, by omega, by go_num, rfl, ?_, ?_⟩
                · rw [paidK_succ, HV2.out]; exact hown1
                · exact ((hbw.trans (hbu1.mono hbw.size)).alloc (Nat.le_trans hbw.size (hbu1).size) _).grown hgrow1 (by have h1 := hbw.size; have h2 := (hbu1).size; simp; omega) (fun q hq => (HO.out.lt q hq).1)
              case measure => simp [intOf]; omega
          · rw [if_neg hge] at hdr
            have HV : Hid (payDay ps (allOf cs (k + 1)) cs[k].1 ps = _) := HP.out.trans hdr
            clear hdr
            go_wp2_with fail
            go_roundw
            case rel => exact ⟨m + 1, by omega, by go_num, rfl, HV, hbx1, by omega, hbu1⟩
            case measure => simp [intOf]; omega
        · obtain rfl : m = ps.length := by omega
          have HV : Hid (paidAt cs ps k = -1) := HPK.out.trans (HP.out.trans (by rw [List.drop_length]; rfl))
          clear hlm
          go_wp2_with (at_builtin; refine wpList_append_own_at _ rfl _ _ 22 rfl W1.heap.size 3 i0 _ 1 8 Tryz.underlying22 ihi ihz0 ihz1 ihz2 rfl (by decide) _ _ _ rfl ((own_keep HO.out hb2).alloc _) ⟨wr.heap.size, 0, none⟩ 1 1 [.int .i64 (-1)] rfl rfl (news_new _ _ _ rfl) (by simp [Value.oneCell']) (by simp only [maxLen]; omega) (by omega) (by have h1 := hbw.size; have h2 := (hb2).size; simp; omega) ?_; intro v1 w2 hown1 hgrow1 _ hat1)
          refine (by assumption : ∀ (a : Act) (w : World), Code.wp Tryz.prog _ _ a w → (_ : Act → World → Prop) a w) _ _ ?_
          go_wp2_with fail
          go_roundw
          case rel =>
            refine ⟨k + 1, by omega, by go_num, rfl, ?_, ?_⟩
            · rw [paidK_succ, HV.out]; exact hown1
            · exact ((hbw.trans (hb2.mono hbw.size)).alloc (Nat.le_trans hbw.size (hb2).size) _).grown hgrow1 (by have h1 := hbw.size; have h2 := (hb2).size; simp; omega) (fun q hq => (HO.out.lt q hq).1)
          case measure => simp [intOf]; omega
    · obtain rfl : k = cs.length := by omega
      have HO := Lib.hid hown
      clear hown hlt
      go_wp2_with fail
      go_ret
      exact ⟨_, rfl, HO.out.base_ k3.size, hbww⟩
end Go.Proofs.YtfojjecnmfkcfaaGreat
namespace Go.Proofs.YtfojjecnmfkcfaaGreat
open Go.RowKit Go.Maps
set_option linter.unusedVariables false
/-- What is left of payments behind the first k charges. -/
def leftK (cs : List (Int × Int)) (day p : Int) : Nat → Int
  | 0 => p
  | k + 1 => if (cs.getD k (0, 0)).1 ≤ day then leftK cs day p k - (if (cs.getD k (0, 0)).2 < leftK cs day p k then (cs.getD k (0, 0)).2 else leftK cs day p k) else leftK cs day p k
/-- The rest of charge i. -/
def restOf (cs : List (Int × Int)) (day p : Int) (i : Nat) : Int :=
  if i < cs.length ∧ (cs.getD i (0, 0)).1 ≤ day then (cs.getD i (0, 0)).2 - (if (cs.getD i (0, 0)).2 < leftK cs day p i then (cs.getD i (0, 0)).2 else leftK cs day p i) else 0
def restD (cs : List (Int × Int)) (day p : Int) : Nat → DataW Nat
  | 0 => .map []
  | k + 1 => if (cs.getD k (0, 0)).1 ≤ day then (restD cs day p k).put (.int .i64 k) (.lit (.int .i64 ((cs.getD k (0, 0)).2 - (if (cs.getD k (0, 0)).2 < leftK cs day p k then (cs.getD k (0, 0)).2 else leftK cs day p k)))) else restD cs day p k
theorem leftK_bd {cs : List (Int × Int)} {day p : Int} (h0 : 0 ≤ p) (hc : ∀ e ∈ cs, 0 ≤ e.1 ∧ e.1 ≤ 400 ∧ 1 ≤ e.2 ∧ e.2 ≤ 10000) : ∀ k, 0 ≤ leftK cs day p k ∧ leftK cs day p k ≤ p
  | 0 => ⟨h0, Int.le_refl _⟩
  | k + 1 => by
    have ih := leftK_bd (day := day) h0 hc k
    have hg : 0 ≤ (cs.getD k (0, 0)).2 := by
      by_cases hk : k < cs.length
      · have := hc cs[k] (List.getElem_mem _)
        rw [List.getD_eq_getElem?_getD, List.getElem?_eq_getElem hk]
        simp; omega
      · rw [List.getD_eq_getElem?_getD, List.getElem?_eq_none (by omega)]; simp
    simp only [leftK]
    by_cases h1 : (cs.getD k (0, 0)).1 ≤ day
    · rw [if_pos h1]
      by_cases h2 : (cs.getD k (0, 0)).2 < leftK cs day p k
      · rw [if_pos h2]; omega
      · rw [if_neg h2]; omega
    · rw [if_neg h1]; exact ih
theorem restD_isMap (cs : List (Int × Int)) (day p : Int) : ∀ k, IsMap (restD cs day p k)
  | 0 => isMap_empty
  | k + 1 => by
    have ih := restD_isMap cs day p k
    simp only [restD]
    by_cases h1 : (cs.getD k (0, 0)).1 ≤ day
    · rw [if_pos h1]
      obtain ⟨es, he⟩ := ih
      rw [he]
      exact ⟨_, rfl⟩
    · rw [if_neg h1]; exact ih
theorem restD_at (cs : List (Int × Int)) (day p : Int) (i : Nat) : ∀ k, k ≤ cs.length → (restD cs day p k).atKey (.int .i64 i) (.lit (.int .i64 0)) = .lit (.int .i64 (if i < k then restOf cs day p i else 0))
  | 0, _ => by simp [restD]; rfl
  | k + 1, hk => by
    have ih := restD_at cs day p i k (by omega)
    have key : WideAt.IsKeyLit (.int .i64 (i : Int)) := trivial
    simp only [restD]
    by_cases hd : (cs.getD k (0, 0)).1 ≤ day
    · rw [if_pos hd]
      by_cases hik : i = k
      · subst hik
        have hr : restOf cs day p i = (cs.getD i (0, 0)).2 - (if (cs.getD i (0, 0)).2 < leftK cs day p i then (cs.getD i (0, 0)).2 else leftK cs day p i) := by unfold restOf; rw [if_pos ⟨hk, hd⟩]
        rw [atKey_put_same (restD_isMap cs day p i) key, if_pos (Nat.lt_succ_self i), hr]
      · rw [atKey_put_other (by intro e; injection e; omega), ih]
        by_cases h1 : i < k
        · rw [if_pos h1, if_pos (by omega)]
        · rw [if_neg h1, if_neg (by omega)]
    · rw [if_neg hd, ih]
      by_cases hik : i = k
      · subst hik
        rw [if_neg (by omega), if_pos (by omega)]
        unfold restOf
        rw [if_neg (by rintro ⟨_, h⟩; exact hd h)]
      · by_cases h1 : i < k
        · rw [if_pos h1, if_pos (by omega)]
        · rw [if_neg h1, if_neg (by omega)]
theorem lawInt : Keyed Tryz.prog 3 := int_keyed Tryz.underlying3
theorem zeroInt (w : World) : (zeroValue 3).run Tryz.prog w = .ok (.int .i64 0) w := by kernel_rfl
/-- The map of rests, in a block of its own. -/
def RestMap (w : World) (b n : Nat) (D : DataW Nat) : Prop := w.ownsMap Tryz.prog 3 (plainElem Tryz.prog 3) b n D
def RestsTo (cs : List (Int × Int)) (day p : Int) (W : World) (e : Ending) (w' : World) : Prop :=
  ∃ b, e = .returned (.tuple #[.map (some b), .int .i64 (leftK cs day p cs.length)]) ∧ W.heap.size ≤ b ∧ RestMap w' b cs.length (restD cs day p cs.length) ∧ Below W.heap.size W w'
set_option maxRecDepth 100000 in
set_option maxHeartbeats 4000000 in
theorem rests_any (A B : Option Addr) (c d : Nat) (cs ps : List (Int × Int)) (g l day : Int) (w : World) (hA : Rd w w.heap.size A (pairs cs)) (hB : Rd w w.heap.size B (pairs ps)) (hl : cs.length ≤ 8) (hl2 : ps.length ≤ 8)
    (hc : ∀ e ∈ cs, 0 ≤ e.1 ∧ e.1 ≤ 400 ∧ 1 ≤ e.2 ∧ e.2 ≤ 10000) (hp : ∀ e ∈ ps, 0 ≤ e.1 ∧ e.1 ≤ 400 ∧ 1 ≤ e.2 ∧ e.2 ≤ 10000) :
    Calls Tryz.prog 97 #[accV A cs.length c B ps.length d g l, .int .i64 day] w (RestsTo cs day (uptoF ps day) w) := by
  have hmm := @run_makeMap Tryz.prog
  have hU : ∀ W, Below w.heap.size w W → Hid (Calls Tryz.prog 122 #[.slice B ps.length d, .int .i64 day] W fun e w' => e = .returned (.int .i64 (uptoF ps day)) ∧ Below W.heap.size W w') := fun W hW =>
    upto_any B d ps day W (hB.next hW) (by omega) (fun e he => by have := hp e he; omega)
  have hub := uptoF_bd (l := ps) (fun e he => by have := hp e he; omega) day
  have hlb := leftK_bd (cs := cs) (day := day) hub.1 hc
  have HLB := Lib.hid hlb
  clear hlb
  generalize uptoF ps day = u at *
  unfold accV
  obtain ⟨c0, c1, c2, c3⟩ := accBox w (.slice A cs.length c) (.slice B ps.length d) (.int .i64 g) (.int .i64 l) 31
  go_enter Tryz.func97, Tryz.ntmps97
  go_wp2_with fail
  obtain ⟨W2, hW2⟩ : ∃ W2, W2 = (w.alloc (.cells #[.slice A cs.length c, .slice B ps.length d, .int .i64 g, .int .i64 l] 31)).alloc (.map #[] 0) := ⟨_, rfl⟩
  rw [← hW2]
  have hm0 : RestMap W2 (w.heap.size + 1) 0 (.map []) := by
    rw [hW2]
    have := World.ownsMap_made (H := Nat) (w.alloc (.cells #[.slice A cs.length c, .slice B ps.length d, .int .i64 g, .int .i64 l] 31)) Tryz.prog 3 (plainElem Tryz.prog 3)
    have e : (w.alloc (.cells #[.slice A cs.length c, .slice B ps.length d, .int .i64 g, .int .i64 l] 31)).heap.size = w.heap.size + 1 := by simp
    rw [e] at this
    exact this
  have d0 : W2.cell? ⟨w.heap.size, 0, none⟩ = some (.slice A cs.length c) := by rw [hW2]; exact (World.cell?_alloc_lt _ _ ⟨w.heap.size, 0, none⟩ (by simp)).trans c0
  have k3 : Below w.heap.size w W2 := by rw [hW2]; go_grown
  have k4 : w.heap.size + 1 < W2.heap.size := by rw [hW2]; simp
  clear hW2 c0 c1 c2 c3
  refine ((hU _ k3).out).mono ?_
  rintro e w1 ⟨rfl, hbu⟩
  have hbw1 : Below w.heap.size w w1 := k3.trans (hbu.mono k3.size)
  have d0' := (hbu.cell (p := ⟨w.heap.size, 0, none⟩) (by show w.heap.size < W2.heap.size; omega)).trans d0
  have hm1 : RestMap w1 (w.heap.size + 1) 0 (.map []) := World.ownsMap.kept hm0 (row := none) ⟨hbu.os, hbu.tape, hbu.output, hbu.size, fun k hk _ => hbu.block k hk⟩ (by simp)
  go_wp2_with fail
  go_loopw [7, 8, 9, 10, 19] (fun pv _ _ _ i wr => ∃ k : Nat, k ≤ cs.length ∧ i = .int .i64 k ∧ pv = .int .i64 (leftK cs day u k) ∧ RestMap wr (w.heap.size + 1) k (restD cs day u k) ∧ Below w.heap.size w wr) (fun _ _ _ _ i _ => cs.length - (intOf i).toNat)
  case atStart => exact ⟨0, Nat.zero_le _, rfl, rfl, hm1, hbw1⟩
  case round =>
    obtain ⟨k, hk, rfl, rfl, hown, hbw⟩ := hrel
    by_cases hlt : k < cs.length
    · obtain ⟨b, off, rfl, hbb, e1, e2⟩ := (hA.below hbw).pair hlt
      have hbb' : b < wr.heap.size := Nat.lt_of_lt_of_le hbb hbw.size
      have hgd : cs.getD k (0, 0) = cs[k] := by simp [List.getD_eq_getElem?_getD, List.getElem?_eq_getElem hlt]
      have hS : leftK cs day u (k + 1) = if cs[k].1 ≤ day then leftK cs day u k - (if cs[k].2 < leftK cs day u k then cs[k].2 else leftK cs day u k) else leftK cs day u k := by simp only [leftK, hgd]
      have hD : restD cs day u (k + 1) = if cs[k].1 ≤ day then (restD cs day u k).put (.int .i64 k) (.lit (.int .i64 (cs[k].2 - (if cs[k].2 < leftK cs day u k then cs[k].2 else leftK cs day u k)))) else restD cs day u k := by simp only [restD, hgd]
      obtain ⟨x1, x2, x3, x4⟩ := hc cs[k] (List.getElem_mem _)
      obtain ⟨l1, l2⟩ := HLB.out k
      have hps : (ps.length : Int) ≤ 8 := by omega
      have hkey : keyOf Tryz.prog 3 (.int .i64 k) = some (.int .i64 k) := keyOf_int_mk Tryz.underlying3 (WalkArith.wf_i64 (by omega))
      have HO := Lib.hid hown
      clear hown hgd
      by_cases hday : cs[k].1 ≤ day
      · rw [if_pos hday] at hS hD
        by_cases hmn : cs[k].2 < leftK cs day u k
        · rw [if_pos hmn] at hS hD
          rw [Int.sub_self] at hD
          have HS := Lib.hid hS
          have HD := Lib.hid hD
          clear hS hD
          have hO2 : World.ownsMap (wr.alloc (.cells #[.int .i64 cs[k].1, .int .i64 cs[k].2] 39)) Tryz.prog 3 (plainElem Tryz.prog 3) (w.heap.size + 1) k (restD cs day u k) := World.ownsMap.alloc HO.out _
          have hval : plainElem (H := Nat) Tryz.prog 3 (.int .i64 (0)) = some (.lit (.int .i64 (0)), []) := plainElem_int Tryz.underlying3 (WalkArith.wf_i64 (by omega))
          go_wp2_with (at_mapUpdate; refine wpList_mapUpdate_own _ rfl _ _ _ 157 rfl 3 3 lawInt Tryz.underlying157 _ (w.heap.size + 1) k _ rfl hO2 (by unfold maxLen; omega) _ _ _ rfl rfl hkey _ [] hval ?_; intro w1 hown1 hgrow1)
          go_roundw
          case rel => exact ⟨k + 1, by omega, by go_num, by rw [HS.out], by rw [HD.out]; exact hown1, (hbw.alloc hbw.size _).grown hgrow1 (by have := hbw.size; simp; omega) (fun j hj => by cases hj; omega)⟩
          case measure => simp [intOf]; omega
        · rw [if_neg hmn] at hS hD
          rw [Int.sub_self] at hS
          have HS := Lib.hid hS
          have HD := Lib.hid hD
          clear hS hD
          have hO2 : World.ownsMap (wr.alloc (.cells #[.int .i64 cs[k].1, .int .i64 cs[k].2] 39)) Tryz.prog 3 (plainElem Tryz.prog 3) (w.heap.size + 1) k (restD cs day u k) := World.ownsMap.alloc HO.out _
          have hval : plainElem (H := Nat) Tryz.prog 3 (.int .i64 (cs[k].2 - leftK cs day u k)) = some (.lit (.int .i64 (cs[k].2 - leftK cs day u k)), []) := plainElem_int Tryz.underlying3 (WalkArith.wf_i64 (by omega))
          go_wp2_with (at_mapUpdate; refine wpList_mapUpdate_own _ rfl _ _ _ 157 rfl 3 3 lawInt Tryz.underlying157 _ (w.heap.size + 1) k _ rfl hO2 (by unfold maxLen; omega) _ _ _ rfl rfl hkey _ [] hval ?_; intro w1 hown1 hgrow1)
          go_roundw
          case rel => exact ⟨k + 1, by omega, by go_num, by rw [HS.out], by rw [HD.out]; exact hown1, (hbw.alloc hbw.size _).grown hgrow1 (by have := hbw.size; simp; omega) (fun j hj => by cases hj; omega)⟩
          case measure => simp [intOf]; omega
      · rw [if_neg hday] at hS hD
        have HS := Lib.hid hS
        have HD := Lib.hid hD
        clear hS hD
        go_wp2_with fail
        go_roundw
        case rel => exact ⟨k + 1, by omega, by go_num, by rw [HS.out], by rw [HD.out]; exact World.ownsMap.mono (World.ownsMap.alloc HO.out _) (by omega), hbw.alloc hbw.size _⟩
        case measure => simp [intOf]; omega
    · obtain rfl : k = cs.length := by omega
      have HO := Lib.hid hown
      clear hown hlt
      go_wp2_with fail
      go_ret2
      exact ⟨_, rfl, by omega, HO.out, hbw⟩
end Go.Proofs.YtfojjecnmfkcfaaGreat
namespace Go.Proofs.YtfojjecnmfkcfaaGreat
open Go.RowKit
set_option linter.unusedVariables false
def paidR (cs ps : List (Int × Int)) (g l : Int) : List Int := if ckAcc cs ps g l = 0 then paidL cs ps else []
set_option maxHeartbeats 1000000 in
theorem Paid_any (A B : Option Addr) (c d : Nat) (cs ps : List (Int × Int)) (g l : Int) (w : World) (hA : Ent w A c cs) (hB : Ent w B d ps) (hl : cs.length ≤ 1000) (hl2 : ps.length ≤ 1000) :
    Calls Tryz.prog 36 #[accV A cs.length c B ps.length d g l] w (RetOwnE 3 1 (paidR cs ps g l).length (ints (paidR cs ps g l)) (ckAcc cs ps g l) w) := by
  have HC := fun w1 (hb : Below w.heap.size w w1) => Lib.hid (CheckAccount_any A B c d cs ps g l w1 (hA.next hb) (hB.next hb) hl hl2)
  unfold accV at HC ⊢
  by_cases h0 : ckAcc cs ps g l = 0
  · have ho := ckAcc_ok h0
    have HP := fun w1 (hb : Below w.heap.size w w1) => Lib.hid (paid_any A B c d cs ps g l w1 (hA.next hb).rd (hB.next hb).rd ho.clen ho.plen ho.call ho.pall)
    unfold accV at HP
    have e1 : paidR cs ps g l = paidL cs ps := by unfold paidR; rw [if_pos h0]
    have e2 : (paidL cs ps).length = cs.length := paidK_length _ _ _
    rw [e1, e2, h0]
    rw [h0] at HC
    clear h0 e1 e2
    go_enter Tryz.func36, Tryz.ntmps36
    go_wp2_with fail
    refine (HC _ (by go_grown)).out.mono ?_
    rintro e w1 ⟨rfl, hb1⟩
    have hbw : Below w.heap.size w w1 := Below.trans (by go_grown) (hb1.mono (by simp))
    obtain ⟨c0, c1, c2, c3⟩ := accBox w (.slice A cs.length c) (.slice B ps.length d) (.int .i64 g) (.int .i64 l) 31
    have d0 := (hb1.cell (p := ⟨w.heap.size, 0, none⟩) (by simp)).trans c0
    have d1 := (hb1.cell (p := ⟨w.heap.size, 1, none⟩) (by simp)).trans c1
    have d2 := (hb1.cell (p := ⟨w.heap.size, 2, none⟩) (by simp)).trans c2
    have d3 := (hb1.cell (p := ⟨w.heap.size, 3, none⟩) (by simp)).trans c3
    clear c0 c1 c2 c3
    go_wp2_with fail
    refine (HP _ hbw).out.mono ?_
    rintro e w2 ⟨v, rfl, hown, hb2⟩
    have HO := Lib.hid hown
    clear hown
    go_wp2_with fail
    go_ret2
    exact ⟨v, rfl, HO.out.base_ hbw.size, hbw.trans (hb2.mono hbw.size)⟩
  · have e1 : paidR cs ps g l = [] := by unfold paidR; rw [if_neg h0]
    rw [e1]
    have h0' : (ckAcc cs ps g l == 0) = false := by simpa using h0
    have h0'' : (ckAcc cs ps g l != 0) = true := by simpa using h0
    clear h0 e1
    go_enter Tryz.func36, Tryz.ntmps36
    go_wp2_with fail
    refine (HC _ (by go_grown)).out.mono ?_
    rintro e w1 ⟨rfl, hb1⟩
    have hbw : Below w.heap.size w w1 := Below.trans (by go_grown) (hb1.mono (by simp))
    go_wp2_with fail
    go_ret2
    exact ⟨_, rfl, World.ownsRow_nil _ _ _ _, hbw⟩
def lateB (cs ps : List (Int × Int)) (g day : Int) (i : Nat) : Bool :=
  decide ((cs.getD i (0, 0)).1 + g < day) && (decide (paidAt cs ps i = -1) || decide ((cs.getD i (0, 0)).1 + g < paidAt cs ps i))
def lateK (cs ps : List (Int × Int)) (g day : Int) (k : Nat) : List Int := ((List.range k).filter (lateB cs ps g day)).map fun (i : Nat) => (i : Int)
def lateC (cs ps : List (Int × Int)) (g l day : Int) (k : Nat) : Int := (((List.range k).filter (lateB cs ps g day)).map fun (i : Nat) => ((cs.getD i (0, 0)).2 * l + 99) / 100).sum
theorem lateK_succ (cs ps : List (Int × Int)) (g day : Int) (k : Nat) : lateK cs ps g day (k + 1) = lateK cs ps g day k ++ (if lateB cs ps g day k then [(k : Int)] else []) := by
  unfold lateK
  rw [List.range_succ, List.filter_append, List.map_append]
  congr 1
  by_cases h : lateB cs ps g day k = true <;> simp [h]
theorem lateC_succ (cs ps : List (Int × Int)) (g l day : Int) (k : Nat) : lateC cs ps g l day (k + 1) = lateC cs ps g l day k + (if lateB cs ps g day k then ((cs.getD k (0, 0)).2 * l + 99) / 100 else 0) := by
  unfold lateC
  rw [List.range_succ, List.filter_append, List.map_append, List.sum_append]
  congr 1
  by_cases h : lateB cs ps g day k = true <;> simp [h]
theorem lateK_len (cs ps : List (Int × Int)) (g day : Int) (k : Nat) : (lateK cs ps g day k).length ≤ k := by
  unfold lateK
  rw [List.length_map]
  exact Nat.le_trans (List.length_filter_le _ _) (by simp)
theorem lateC_bd {cs : List (Int × Int)} {l : Int} (hc : ∀ e ∈ cs, 0 ≤ e.1 ∧ e.1 ≤ 400 ∧ 1 ≤ e.2 ∧ e.2 ≤ 10000) (h1 : 0 ≤ l) (h2 : l ≤ 100) (ps : List (Int × Int)) (g day : Int) : ∀ k, k ≤ cs.length → 0 ≤ lateC cs ps g l day k ∧ lateC cs ps g l day k ≤ 10001 * k
  | 0, _ => by simp [lateC]
  | k + 1, h => by
    have ih := lateC_bd hc h1 h2 ps g day k (by omega)
    have hx := hc cs[k] (List.getElem_mem _)
    have hgd : cs.getD k (0, 0) = cs[k] := by simp [List.getD_eq_getElem?_getD, List.getElem?_eq_getElem (show k < cs.length by omega)]
    have hm1 : 0 ≤ cs[k].2 * l := Int.mul_nonneg (by omega) h1
    have hm2 : cs[k].2 * l ≤ 10000 * 100 := Int.mul_le_mul hx.2.2.2 h2 h1 (by omega)
    rw [lateC_succ, hgd]
    split <;> omega
def lateL (cs ps : List (Int × Int)) (g l day : Int) : List Int := if datedCode cs ps g l day = 0 then lateK cs ps g day cs.length else []
def lateCost (cs ps : List (Int × Int)) (g l day : Int) : Int := if datedCode cs ps g l day = 0 then lateC cs ps g l day cs.length else 0
theorem datedCode_ok {cs ps : List (Int × Int)} {g l day : Int} (h : datedCode cs ps g l day = 0) : AccOk cs ps g l ∧ 0 ≤ day ∧ day ≤ 400 := by
  unfold datedCode at h
  by_cases h0 : ckAcc cs ps g l = 0
  · rw [if_pos h0] at h
    by_cases h1 : inB day 0 400 = true
    · exact ⟨ckAcc_ok h0, by simpa [inB_iff] using h1⟩
    · rw [if_neg h1] at h; omega
  · rw [if_neg h0] at h; exact absurd h h0
set_option maxRecDepth 100000 in
set_option maxHeartbeats 4000000 in
theorem Late_any (A B : Option Addr) (c d : Nat) (cs ps : List (Int × Int)) (g l day : Int) (w : World) (hA : Ent w A c cs) (hB : Ent w B d ps) (hl : cs.length ≤ 1000) (hl2 : ps.length ≤ 1000) :
    Calls Tryz.prog 42 #[accV A cs.length c B ps.length d g l, .int .i64 day] w (RetApp 3 (lateL cs ps g l day) (lateCost cs ps g l day) (datedCode cs ps g l day) w) := by
  obtain ⟨i0, ihi, ihz0, ihz1, ihz2⟩ := info_parts infoIntP
  have HC := fun w1 (hb : Below w.heap.size w w1) => Lib.hid (dated_any A B c d cs ps g l day w1 (hA.next hb) (hB.next hb) hl hl2)
  unfold accV at HC ⊢
  by_cases h0 : datedCode cs ps g l day = 0
  · obtain ⟨ho, hd1, hd2⟩ := datedCode_ok h0
    have HP := fun w1 (hb : Below w.heap.size w w1) => Lib.hid (paid_any A B c d cs ps g l w1 (hA.next hb).rd (hB.next hb).rd ho.clen ho.plen ho.call ho.pall)
    unfold accV at HP
    have e1 : lateL cs ps g l day = lateK cs ps g day cs.length := by unfold lateL; rw [if_pos h0]
    have e2 : lateCost cs ps g l day = lateC cs ps g l day cs.length := by unfold lateCost; rw [if_pos h0]
    rw [e1, e2, h0]
    rw [h0] at HC
    clear h0 e1 e2
    obtain ⟨hc8, hp8, ⟨g1, g2⟩, ⟨l1, l2⟩, hca, hpa, _, _⟩ := ho
    go_enter Tryz.func42, Tryz.ntmps42
    go_wp2_with fail
    refine (HC _ (by go_grown)).out.mono ?_
    rintro e w1 ⟨rfl, hb1⟩
    have hbw : Below w.heap.size w w1 := Below.trans (by go_grown) (hb1.mono (by simp))
    obtain ⟨c0, c1, c2, c3⟩ := accBox w (.slice A cs.length c) (.slice B ps.length d) (.int .i64 g) (.int .i64 l) 31
    have d0 := (hb1.cell (p := ⟨w.heap.size, 0, none⟩) (by simp)).trans c0
    have d1 := (hb1.cell (p := ⟨w.heap.size, 1, none⟩) (by simp)).trans c1
    have d2 := (hb1.cell (p := ⟨w.heap.size, 2, none⟩) (by simp)).trans c2
    have d3 := (hb1.cell (p := ⟨w.heap.size, 3, none⟩) (by simp)).trans c3
    have hz1 : w.heap.size < w1.heap.size := by have := hb1.size; simp at this; omega
    clear c0 c1 c2 c3
    go_wp2_with fail
    refine (HP _ hbw).out.mono ?_
    rintro e W3 ⟨v, rfl, hownp, hb3⟩
    obtain ⟨Ap, cp, rfl, hcp, hrp⟩ := own_slice hownp
    have hbW3 := hbw.trans (hb3.mono hbw.size)
    have d0' := (hb3.cell (p := ⟨w.heap.size, 0, none⟩) hz1).trans d0
    have d2' := (hb3.cell (p := ⟨w.heap.size, 2, none⟩) hz1).trans d2
    have d3' := (hb3.cell (p := ⟨w.heap.size, 3, none⟩) hz1).trans d3
    have hz3 : w.heap.size < W3.heap.size := Nat.lt_of_lt_of_le hz1 hb3.size
    clear hownp d0 d1 d2 d3
    go_wp2_with fail
    go_loopw [8, 9, 10, 11, 12, 22] (fun v cst _ _ _ i wr => ∃ k : Nat, k ≤ cs.length ∧ i = .int .i64 k ∧ cst = .int .i64 (lateC cs ps g l day k) ∧ wr.ownsRow W3.heap.size 3 1 v (lateK cs ps g day k).length (ints (lateK cs ps g day k)) ∧ Below W3.heap.size W3 wr) (fun _ _ _ _ _ i _ => cs.length - (intOf i).toNat)
    case atStart => exact ⟨0, Nat.zero_le _, rfl, rfl, World.ownsRow_nil _ _ _ _, Below.refl _ _⟩
    case round =>
      obtain ⟨k, hk, rfl, rfl, hown, hbw⟩ := hrel
      have hbww := hbW3.trans (hbw.mono hbW3.size)
      by_cases hlt : k < cs.length
      · obtain ⟨b, off, rfl, hbb, e1, e2⟩ := (hA.rd.below hbww).pair hlt
        obtain ⟨bp, op, rfl, hbp, f1⟩ := (hrp.below hbw).int (t := paidL cs ps) (k := k) (by unfold paidL; rw [paidK_length]; exact hlt)
        have hf : (paidL cs ps)[k]'(by unfold paidL; rw [paidK_length]; exact hlt) = paidAt cs ps k := by simp [paidL, paidK]
        rw [hf] at f1
        have hbb' : b < wr.heap.size := Nat.lt_of_lt_of_le hbb hbww.size
        have hbp' : bp < wr.heap.size := Nat.lt_of_lt_of_le hbp hbw.size
        have d0r := (hbw.cell (p := ⟨w.heap.size, 0, none⟩) hz3).trans d0'
        have d2r := (hbw.cell (p := ⟨w.heap.size, 2, none⟩) hz3).trans d2'
        have d3r := (hbw.cell (p := ⟨w.heap.size, 3, none⟩) hz3).trans d3'
        have hzr : w.heap.size < wr.heap.size := Nat.lt_of_lt_of_le hz3 hbw.size
        obtain ⟨x1, x2, x3, x4⟩ := hca cs[k] (List.getElem_mem _)
        have hgd : cs.getD k (0, 0) = cs[k] := by simp [List.getD_eq_getElem?_getD, List.getElem?_eq_getElem hlt]
        have hLK := lateK_succ cs ps g day k
        have hLC := lateC_succ cs ps g l day k
        have hB : lateB cs ps g day k = (decide (cs[k].1 + g < day) && (decide (paidAt cs ps k = -1) || decide (cs[k].1 + g < paidAt cs ps k))) := by unfold lateB; rw [hgd]
        rw [hgd] at hLC
        obtain ⟨b1, b2⟩ := lateC_bd hca l1 l2 ps g day k (by omega)
        have hln := lateK_len cs ps g day k
        have hkl : (k : Int) < cs.length := by omega
        have hkp : (k : Int) < (cs.length : Nat) := by omega
        have hk8 : (k : Int) ≤ 8 := by omega
        have hm1 : 0 ≤ cs[k].2 * l := Int.mul_nonneg (by omega) l1
        have hm2 : cs[k].2 * l ≤ 10000 * 100 := Int.mul_le_mul x4 l2 l1 (by omega)
        have HO := Lib.hid hown
        clear hown hf hgd
        have q1 : IntKind.i64.wrap (cs[k].1 + g) = cs[k].1 + g := IntWalk.i64_in _ (by omega)
        by_cases t1 : cs[k].1 + g < day
        · by_cases t2 : paidAt cs ps k = -1
          · have t2' : (paidAt cs ps k == -1) = true := by rw [beq_iff_eq]; exact t2
            have hT : lateB cs ps g day k = true := by rw [hB, decide_eq_true t1, decide_eq_true t2]; rfl
            rw [hT] at hLK hLC
            simp only [↓reduceIte] at hLK hLC
            have HLK : Hid ((lateK cs ps g day (k + 1)).length = (lateK cs ps g day k).length + 1 ∧ ints (lateK cs ps g day (k + 1)) = ints (lateK cs ps g day k) ++ [.int .i64 k]) := by
              rw [hLK]
              exact ⟨by simp, by simp [ints]⟩
            have HLC := Lib.hid hLC
            clear hLK hLC hB hT t2
            go_wp2_with fail
            go_quiet (fail)
            clear q1
            go_wp2_with (at_builtin; refine wpList_append_own_at _ rfl _ _ 22 rfl W3.heap.size 3 i0 _ 1 8 Tryz.underlying22 ihi ihz0 ihz1 ihz2 rfl (by decide) _ _ _ rfl ((own_keep HO.out (below_drewN (Below.refl _ _) nq)).alloc _) ⟨wr.heap.size, 0, none⟩ 1 1 [.int .i64 k] rfl rfl (news_new _ _ _ (by simp)) (by simp [Value.oneCell']) (by simp only [maxLen]; omega) (by omega) (by have h1 := hbw.size; simp; omega) ?_; intro v1 w2 hown1 hgrow1 _ hat1)
            have hbw2 : Below W3.heap.size W3 w2 := ((below_drewN hbw nq).alloc (by have h1 := hbw.size; simp; omega) _).grown hgrow1 (by have h1 := hbw.size; simp; omega) (fun q hq => (HO.out.lt q hq).1)
            have hbww2 := hbW3.trans (hbw2.mono hbW3.size)
            obtain ⟨e1', e2'⟩ := (hA.rd.below hbww2).pair' hlt
            have d0s := (hbw2.cell (p := ⟨w.heap.size, 0, none⟩) hz3).trans d0'
            have d3s := (hbw2.cell (p := ⟨w.heap.size, 3, none⟩) hz3).trans d3'
            have HO1 := Lib.hid hown1
            clear hown1 e1 e2 d0r d2r d3r f1
            have r1 : IntKind.i64.wrap (cs[k].2 * l) = cs[k].2 * l := IntWalk.i64_in _ (by omega)
            have r2 : IntKind.i64.wrap (cs[k].2 * l + 99) = cs[k].2 * l + 99 := IntWalk.i64_in _ (by omega)
            go_still_tail 12, (by kernel_rfl)
            clear r1 r2
            obtain ⟨w3, hw3⟩ : ∃ x, x = w2.drew := ⟨_, rfl⟩
            change wpList _ _ _ _ _ w2.drew
            rw [← hw3]
            have d0t : w3.cell? ⟨w.heap.size, 0, none⟩ = some (.slice (some ⟨b, off, none⟩) cs.length c) := by rw [hw3]; exact d0s
            have d3t : w3.cell? ⟨w.heap.size, 3, none⟩ = some (.int .i64 l) := by rw [hw3]; exact d3s
            have e2t : w3.cell? ⟨b, off + k * 2 + 1, none⟩ = some (.int .i64 cs[k].2) := by rw [hw3]; exact e2'
            have HO2 : Hid (w3.ownsRow W3.heap.size 3 1 v1 ((lateK cs ps g day k).length + 1) (ints (lateK cs ps g day k) ++ [.int .i64 k])) := by rw [hw3]; exact HO1.out
            have hbw3 : Below W3.heap.size W3 w3 := by rw [hw3]; exact below_drewN hbw2 1
            clear hw3 d0s d3s e1' e2' HO1 hbw2
            go_wp2_with fail
            refine (sum2_any (by simp) _ _ (by omega) (by omega) (by omega) (by omega)).mono ?_
            rintro e w4 ⟨rfl, rfl⟩
            go_wp2_with fail
            go_roundw
            case rel => exact ⟨k + 1, by omega, by go_num, by rw [HLC.out], by rw [HLK.out.1, HLK.out.2]; exact HO2.out.alloc _, hbw3.alloc hbw3.size _⟩
            case measure => simp [intOf]; omega
          · have t2' : (paidAt cs ps k == -1) = false := by rw [beq_eq_false_iff_ne]; exact t2
            by_cases t3 : cs[k].1 + g < paidAt cs ps k
            · have hT : lateB cs ps g day k = true := by rw [hB, decide_eq_true t1, decide_eq_false t2, decide_eq_true t3]; rfl
              rw [hT] at hLK hLC
              simp only [↓reduceIte] at hLK hLC
              have HLK : Hid ((lateK cs ps g day (k + 1)).length = (lateK cs ps g day k).length + 1 ∧ ints (lateK cs ps g day (k + 1)) = ints (lateK cs ps g day k) ++ [.int .i64 k]) := by
                rw [hLK]
                exact ⟨by simp, by simp [ints]⟩
              have HLC := Lib.hid hLC
              clear hLK hLC hB hT t2
              go_wp2_with fail
              go_quiet (fail)
              clear q1
              go_wp2_with (at_builtin; refine wpList_append_own_at _ rfl _ _ 22 rfl W3.heap.size 3 i0 _ 1 8 Tryz.underlying22 ihi ihz0 ihz1 ihz2 rfl (by decide) _ _ _ rfl ((own_keep HO.out (below_drewN (Below.refl _ _) nq)).alloc _) ⟨wr.heap.size, 0, none⟩ 1 1 [.int .i64 k] rfl rfl (news_new _ _ _ (by simp)) (by simp [Value.oneCell']) (by simp only [maxLen]; omega) (by omega) (by have h1 := hbw.size; simp; omega) ?_; intro v1 w2 hown1 hgrow1 _ hat1)
              have hbw2 : Below W3.heap.size W3 w2 := ((below_drewN hbw nq).alloc (by have h1 := hbw.size; simp; omega) _).grown hgrow1 (by have h1 := hbw.size; simp; omega) (fun q hq => (HO.out.lt q hq).1)
              have hbww2 := hbW3.trans (hbw2.mono hbW3.size)
              obtain ⟨e1', e2'⟩ := (hA.rd.below hbww2).pair' hlt
              have d0s := (hbw2.cell (p := ⟨w.heap.size, 0, none⟩) hz3).trans d0'
              have d3s := (hbw2.cell (p := ⟨w.heap.size, 3, none⟩) hz3).trans d3'
              have HO1 := Lib.hid hown1
              clear hown1 e1 e2 d0r d2r d3r f1
              have r1 : IntKind.i64.wrap (cs[k].2 * l) = cs[k].2 * l := IntWalk.i64_in _ (by omega)
              have r2 : IntKind.i64.wrap (cs[k].2 * l + 99) = cs[k].2 * l + 99 := IntWalk.i64_in _ (by omega)
              go_still_tail 12, (by kernel_rfl)
              clear r1 r2
              obtain ⟨w3, hw3⟩ : ∃ x, x = w2.drew := ⟨_, rfl⟩
              change wpList _ _ _ _ _ w2.drew
              rw [← hw3]
              have d0t : w3.cell? ⟨w.heap.size, 0, none⟩ = some (.slice (some ⟨b, off, none⟩) cs.length c) := by rw [hw3]; exact d0s
              have d3t : w3.cell? ⟨w.heap.size, 3, none⟩ = some (.int .i64 l) := by rw [hw3]; exact d3s
              have e2t : w3.cell? ⟨b, off + k * 2 + 1, none⟩ = some (.int .i64 cs[k].2) := by rw [hw3]; exact e2'
              have HO2 : Hid (w3.ownsRow W3.heap.size 3 1 v1 ((lateK cs ps g day k).length + 1) (ints (lateK cs ps g day k) ++ [.int .i64 k])) := by rw [hw3]; exact HO1.out
              have hbw3 : Below W3.heap.size W3 w3 := by rw [hw3]; exact below_drewN hbw2 1
              clear hw3 d0s d3s e1' e2' HO1 hbw2
              go_wp2_with fail
              refine (sum2_any (by simp) _ _ (by omega) (by omega) (by omega) (by omega)).mono ?_
              rintro e w4 ⟨rfl, rfl⟩
              go_wp2_with fail
              go_roundw
              case rel => exact ⟨k + 1, by omega, by go_num, by rw [HLC.out], by rw [HLK.out.1, HLK.out.2]; exact HO2.out.alloc _, hbw3.alloc hbw3.size _⟩
              case measure => simp [intOf]; omega
            · have hT : lateB cs ps g day k = false := by rw [hB, decide_eq_true t1, decide_eq_false t2, decide_eq_false t3]; rfl
              rw [hT] at hLK hLC
              simp only [Bool.false_eq_true, if_false, List.append_nil, Int.add_zero] at hLK hLC
              have HLK := Lib.hid hLK
              have HLC := Lib.hid hLC
              clear hLK hLC hB hT t2
              go_wp2_with fail
              go_quiet (fail)
              clear q1
              go_wp2_with fail
              go_roundw
              case rel => exact ⟨k + 1, by omega, by go_num, by rw [HLC.out], by rw [HLK.out]; exact HO.out, below_drewN hbw _⟩
              case measure => simp [intOf]; omega
        · have hT : lateB cs ps g day k = false := by rw [hB, decide_eq_false t1]; rfl
          rw [hT] at hLK hLC
          simp only [Bool.false_eq_true, if_false, List.append_nil, Int.add_zero] at hLK hLC
          have HLK := Lib.hid hLK
          have HLC := Lib.hid hLC
          clear hLK hLC hB hT
          go_wp2_with fail
          go_quiet (fail)
          clear q1
          go_wp2_with fail
          go_roundw
          case rel => exact ⟨k + 1, by omega, by go_num, by rw [HLC.out], by rw [HLK.out]; exact HO.out, below_drewN hbw _⟩
          case measure => simp [intOf]; omega
      · obtain rfl : k = cs.length := by omega
        have HO := Lib.hid hown
        clear hown hlt
        go_wp2_with fail
        go_ret3
        exact ⟨_, rfl, HO.out.base_ hbW3.size, hbww⟩
  · have e1 : lateL cs ps g l day = [] := by unfold lateL; rw [if_neg h0]
    have e2 : lateCost cs ps g l day = 0 := by unfold lateCost; rw [if_neg h0]
    rw [e1, e2]
    have h0' : (datedCode cs ps g l day == 0) = false := by simpa using h0
    have h0'' : (datedCode cs ps g l day != 0) = true := by simpa using h0
    clear h0 e1 e2
    go_enter Tryz.func42, Tryz.ntmps42
    go_wp2_with fail
    refine (HC _ (by go_grown)).out.mono ?_
    rintro e w1 ⟨rfl, hb1⟩
    have hbw : Below w.heap.size w w1 := Below.trans (by go_grown) (hb1.mono (by simp))
    go_wp2_with fail
    go_ret3
    exact ⟨_, rfl, World.ownsRow_nil _ _ _ _, hbw⟩
end Go.Proofs.YtfojjecnmfkcfaaGreat
namespace Go.Proofs.YtfojjecnmfkcfaaGreat
open Go.RowKit Go.Maps
set_option linter.unusedVariables false
theorem restOf_bd {cs : List (Int × Int)} {day p : Int} (h0 : 0 ≤ p) (hc : ∀ e ∈ cs, 0 ≤ e.1 ∧ e.1 ≤ 400 ∧ 1 ≤ e.2 ∧ e.2 ≤ 10000) (i : Nat) : 0 ≤ restOf cs day p i ∧ restOf cs day p i ≤ 10000 := by
  unfold restOf
  by_cases h : i < cs.length ∧ (cs.getD i (0, 0)).1 ≤ day
  · have hb := leftK_bd (day := day) h0 hc i
    have hx := hc cs[i] (List.getElem_mem h.1)
    have hgd : cs.getD i (0, 0) = cs[i]'h.1 := by simp [List.getD_eq_getElem?_getD, List.getElem?_eq_getElem h.1]
    rw [if_pos h, hgd]
    by_cases h2 : (cs[i]'h.1).2 < leftK cs day p i
    · rw [if_pos h2]; omega
    · rw [if_neg h2]; omega
  · rw [if_neg h]; omega
def restSum (cs : List (Int × Int)) (day p : Int) : Nat → Int
  | 0 => 0
  | k + 1 => restSum cs day p k + restOf cs day p k
def dueK (cs : List (Int × Int)) (g day p : Int) : Nat → Int
  | 0 => 0
  | k + 1 => if (cs.getD k (0, 0)).1 + g = day ∧ 0 < restOf cs day p k then restSum cs day p (k + 1) else dueK cs g day p k
theorem restSum_bd {cs : List (Int × Int)} {day p : Int} (h0 : 0 ≤ p) (hc : ∀ e ∈ cs, 0 ≤ e.1 ∧ e.1 ≤ 400 ∧ 1 ≤ e.2 ∧ e.2 ≤ 10000) : ∀ k, 0 ≤ restSum cs day p k ∧ restSum cs day p k ≤ 10000 * k
  | 0 => by simp [restSum]
  | k + 1 => by
    have ih := restSum_bd (day := day) h0 hc k
    have := restOf_bd (day := day) h0 hc k
    simp only [restSum]
    omega
def dueR (cs ps : List (Int × Int)) (g l day : Int) : Int := if datedCode cs ps g l day = 0 then dueK cs g day (uptoF ps day) cs.length else 0
set_option maxRecDepth 100000 in
set_option maxHeartbeats 4000000 in
theorem Due_any (A B : Option Addr) (c d : Nat) (cs ps : List (Int × Int)) (g l day : Int) (w : World) (hA : Ent w A c cs) (hB : Ent w B d ps) (hl : cs.length ≤ 1000) (hl2 : ps.length ≤ 1000) :
    Calls Tryz.prog 44 #[accV A cs.length c B ps.length d g l, .int .i64 day] w fun e w' => e = .returned (.tuple #[.int .i64 (dueR cs ps g l day), .int .i64 (datedCode cs ps g l day)]) ∧ Below w.heap.size w w' := by
  have HC := fun w1 (hb : Below w.heap.size w w1) => Lib.hid (dated_any A B c d cs ps g l day w1 (hA.next hb) (hB.next hb) hl hl2)
  unfold accV at HC ⊢
  by_cases h0 : datedCode cs ps g l day = 0
  · obtain ⟨ho, hd1, hd2⟩ := datedCode_ok h0
    have HP := fun w1 (hb : Below w.heap.size w w1) => Lib.hid (rests_any A B c d cs ps g l day w1 (hA.next hb).rd (hB.next hb).rd ho.clen ho.plen ho.call ho.pall)
    unfold accV at HP
    have e1 : dueR cs ps g l day = dueK cs g day (uptoF ps day) cs.length := by unfold dueR; rw [if_pos h0]
    rw [e1, h0]
    rw [h0] at HC
    clear h0 e1
    obtain ⟨hc8, hp8, ⟨g1, g2⟩, ⟨l1, l2⟩, hca, hpa, _, _⟩ := ho
    have hu0 := (uptoF_bd (l := ps) (fun e he => by have := hpa e he; omega) day).1
    have HRB := Lib.hid (restOf_bd (cs := cs) (day := day) hu0 hca)
    have HSB := Lib.hid (restSum_bd (cs := cs) (day := day) hu0 hca)
    clear hu0
    go_enter Tryz.func44, Tryz.ntmps44
    go_wp2_with fail
    refine (HC _ (by go_grown)).out.mono ?_
    rintro e w1 ⟨rfl, hb1⟩
    have hbw : Below w.heap.size w w1 := Below.trans (by go_grown) (hb1.mono (by simp))
    obtain ⟨c0, c1, c2, c3⟩ := accBox w (.slice A cs.length c) (.slice B ps.length d) (.int .i64 g) (.int .i64 l) 31
    have d0 := (hb1.cell (p := ⟨w.heap.size, 0, none⟩) (by simp)).trans c0
    have d1 := (hb1.cell (p := ⟨w.heap.size, 1, none⟩) (by simp)).trans c1
    have d2 := (hb1.cell (p := ⟨w.heap.size, 2, none⟩) (by simp)).trans c2
    have d3 := (hb1.cell (p := ⟨w.heap.size, 3, none⟩) (by simp)).trans c3
    have hz1 : w.heap.size < w1.heap.size := by have := hb1.size; simp at this; omega
    clear c0 c1 c2 c3
    go_wp2_with fail
    refine (HP _ hbw).out.mono ?_
    rintro e W3 ⟨b, rfl, hb, hm, hb3⟩
    have hbW3 := hbw.trans (hb3.mono hbw.size)
    have d0' := (hb3.cell (p := ⟨w.heap.size, 0, none⟩) hz1).trans d0
    have d2' := (hb3.cell (p := ⟨w.heap.size, 2, none⟩) hz1).trans d2
    have hz3 : w.heap.size < W3.heap.size := Nat.lt_of_lt_of_le hz1 hb3.size
    have HM : Hid (∀ W, Below W3.heap.size W3 W → W.ownsMap Tryz.prog 3 (plainElem (H := Nat) Tryz.prog 3) b cs.length (restD cs day (uptoF ps day) cs.length)) := fun W hW =>
      World.ownsMap.kept hm (row := none) ⟨hW.os, hW.tape, hW.output, hW.size, fun k hk _ => hW.block k hk⟩ (by simp)
    clear hm d0 d1 d2 d3
    go_wp2_with fail
    go_loopw [9, 10, 11, 12, 28] (fun ov av _ _ i wr => ∃ k : Nat, k ≤ cs.length ∧ i = .int .i64 k ∧ ov = .int .i64 (dueK cs g day (uptoF ps day) k) ∧ av = .int .i64 (restSum cs day (uptoF ps day) k) ∧ Below W3.heap.size W3 wr) (fun _ _ _ _ i _ => cs.length - (intOf i).toNat)
    case atStart => exact ⟨0, Nat.zero_le _, rfl, rfl, rfl, Below.refl _ _⟩
    case round =>
      obtain ⟨k, hk, rfl, rfl, rfl, hbw⟩ := hrel
      have hbww := hbW3.trans (hbw.mono hbW3.size)
      by_cases hlt : k < cs.length
      · obtain ⟨bc, off, rfl, hbb, e1, e2⟩ := (hA.rd.below hbww).pair hlt
        have hbb' : bc < wr.heap.size := Nat.lt_of_lt_of_le hbb hbww.size
        have d2r := (hbw.cell (p := ⟨w.heap.size, 2, none⟩) hz3).trans d2'
        have hzr : w.heap.size < wr.heap.size := Nat.lt_of_lt_of_le hz3 hbw.size
        obtain ⟨x1, x2, x3, x4⟩ := hca cs[k] (List.getElem_mem _)
        have hgd : cs.getD k (0, 0) = cs[k] := by simp [List.getD_eq_getElem?_getD, List.getElem?_eq_getElem hlt]
        obtain ⟨r1, r2⟩ := HRB.out k
        obtain ⟨s1, s2⟩ := HSB.out k
        have hk8 : (k : Int) ≤ 8 := by omega
        have hkey : keyOf Tryz.prog 3 (.int .i64 k) = some (.int .i64 k) := keyOf_int_mk Tryz.underlying3 (WalkArith.wf_i64 (by omega))
        have HAT : Hid (∀ cc : Int, (restD cs day (uptoF ps day) cs.length).atKey (.int .i64 k) (.lit (.int .i64 0)) = .lit (.int .i64 cc) → cc = restOf cs day (uptoF ps day) k) := by
          show ∀ cc : Int, _ → _
          intro cc h
          rw [restD_at cs day (uptoF ps day) k cs.length (Nat.le_refl _), if_pos hlt] at h
          injection h with h
          injection h with _ h
          exact h.symm
        have HL : Hid (∀ W, Below W3.heap.size W3 W → (Instr.lookup 157 (.map (some b)) (.int .i64 k) false).run Tryz.prog W = .ok (.int .i64 (restOf cs day (uptoF ps day) k)) W) := by
          show ∀ W, _ → _
          intro W hW
          obtain ⟨cc, h1, h2, _⟩ := (HM.out W hW).lookup_int lawInt Tryz.underlying157 Tryz.underlying3 (zeroInt W) hkey
          rw [h1, HAT.out cc h2]
        have hRS : restSum cs day (uptoF ps day) (k + 1) = restSum cs day (uptoF ps day) k + restOf cs day (uptoF ps day) k := rfl
        have hOK : dueK cs g day (uptoF ps day) (k + 1) = if cs[k].1 + g = day ∧ 0 < restOf cs day (uptoF ps day) k then restSum cs day (uptoF ps day) (k + 1) else dueK cs g day (uptoF ps day) k := by simp only [dueK, hgd]
        clear hgd
        by_cases t1 : cs[k].1 + g = day
        · have t1' : (cs[k].1 + g == day) = true := by rw [beq_iff_eq]; exact t1
          by_cases t2 : 0 < restOf cs day (uptoF ps day) k
          · rw [if_pos ⟨t1, t2⟩, hRS] at hOK
            have HOK := Lib.hid hOK
            have HRS := Lib.hid hRS
            clear hOK hRS t1
            go_wp2_with (first | (at_lookup; refine wpList_lookup_own_int _ rfl _ _ 157 rfl 3 3 .i64 lawInt Tryz.underlying157 Tryz.underlying3 (zeroInt _) b cs.length _ rfl (HM.out _ (hbw.alloc hbw.size _)) _ _ rfl hkey ?_; intro cc hat hwc; obtain rfl : cc = restOf cs day (uptoF ps day) k := HAT.out cc hat; clear hat hwc) | (at_lookup; refine wpList_lookup_own_int _ rfl _ _ 157 rfl 3 3 .i64 lawInt Tryz.underlying157 Tryz.underlying3 (zeroInt _) b cs.length _ rfl (HM.out _ ((hbw.alloc hbw.size _).alloc (by have := hbw.size; simp; omega) _)) _ _ rfl hkey ?_; intro cc hat hwc; obtain rfl : cc = restOf cs day (uptoF ps day) k := HAT.out cc hat; clear hat hwc))
            refine (sum2_any (by simp) _ _ (by omega) (by omega) (by omega) (by omega)).mono ?_
            rintro e w4 ⟨rfl, rfl⟩
            have hrun := HL.out ((wr.alloc (.cells #[.int .i64 cs[k].1, .int .i64 cs[k].2] 39)).alloc (.cells #[.int .i64 (restSum cs day (uptoF ps day) k), .int .i64 (restOf cs day (uptoF ps day) k)] 3)) ((hbw.alloc hbw.size _).alloc (by have := hbw.size; simp; omega) _)
            go_wp2_with fail
            go_roundw
            case rel => exact ⟨k + 1, by omega, by go_num, by rw [HOK.out], by rw [HRS.out], (hbw.alloc hbw.size _).alloc (by have := hbw.size; simp; omega) _⟩
            case measure => simp [intOf]; omega
          · rw [if_neg (fun h => t2 h.2)] at hOK
            have HOK := Lib.hid hOK
            have HRS := Lib.hid hRS
            clear hOK hRS t1
            go_wp2_with (first | (at_lookup; refine wpList_lookup_own_int _ rfl _ _ 157 rfl 3 3 .i64 lawInt Tryz.underlying157 Tryz.underlying3 (zeroInt _) b cs.length _ rfl (HM.out _ (hbw.alloc hbw.size _)) _ _ rfl hkey ?_; intro cc hat hwc; obtain rfl : cc = restOf cs day (uptoF ps day) k := HAT.out cc hat; clear hat hwc) | (at_lookup; refine wpList_lookup_own_int _ rfl _ _ 157 rfl 3 3 .i64 lawInt Tryz.underlying157 Tryz.underlying3 (zeroInt _) b cs.length _ rfl (HM.out _ ((hbw.alloc hbw.size _).alloc (by have := hbw.size; simp; omega) _)) _ _ rfl hkey ?_; intro cc hat hwc; obtain rfl : cc = restOf cs day (uptoF ps day) k := HAT.out cc hat; clear hat hwc))
            refine (sum2_any (by simp) _ _ (by omega) (by omega) (by omega) (by omega)).mono ?_
            rintro e w4 ⟨rfl, rfl⟩
            have hrun := HL.out ((wr.alloc (.cells #[.int .i64 cs[k].1, .int .i64 cs[k].2] 39)).alloc (.cells #[.int .i64 (restSum cs day (uptoF ps day) k), .int .i64 (restOf cs day (uptoF ps day) k)] 3)) ((hbw.alloc hbw.size _).alloc (by have := hbw.size; simp; omega) _)
            go_wp2_with fail
            go_roundw
            case rel => exact ⟨k + 1, by omega, by go_num, by rw [HOK.out], by rw [HRS.out], (hbw.alloc hbw.size _).alloc (by have := hbw.size; simp; omega) _⟩
            case measure => simp [intOf]; omega
        · have t1' : (cs[k].1 + g == day) = false := by rw [beq_eq_false_iff_ne]; exact t1
          rw [if_neg (fun h => t1 h.1)] at hOK
          have HOK := Lib.hid hOK
          have HRS := Lib.hid hRS
          clear hOK hRS t1
          go_wp2_with (first | (at_lookup; refine wpList_lookup_own_int _ rfl _ _ 157 rfl 3 3 .i64 lawInt Tryz.underlying157 Tryz.underlying3 (zeroInt _) b cs.length _ rfl (HM.out _ (hbw.alloc hbw.size _)) _ _ rfl hkey ?_; intro cc hat hwc; obtain rfl : cc = restOf cs day (uptoF ps day) k := HAT.out cc hat; clear hat hwc) | (at_lookup; refine wpList_lookup_own_int _ rfl _ _ 157 rfl 3 3 .i64 lawInt Tryz.underlying157 Tryz.underlying3 (zeroInt _) b cs.length _ rfl (HM.out _ ((hbw.alloc hbw.size _).alloc (by have := hbw.size; simp; omega) _)) _ _ rfl hkey ?_; intro cc hat hwc; obtain rfl : cc = restOf cs day (uptoF ps day) k := HAT.out cc hat; clear hat hwc))
          refine (sum2_any (by simp) _ _ (by omega) (by omega) (by omega) (by omega)).mono ?_
          rintro e w4 ⟨rfl, rfl⟩
          have hrun := HL.out ((wr.alloc (.cells #[.int .i64 cs[k].1, .int .i64 cs[k].2] 39)).alloc (.cells #[.int .i64 (restSum cs day (uptoF ps day) k), .int .i64 (restOf cs day (uptoF ps day) k)] 3)) ((hbw.alloc hbw.size _).alloc (by have := hbw.size; simp; omega) _)
          go_wp2_with fail
          go_roundw
          case rel => exact ⟨k + 1, by omega, by go_num, by rw [HOK.out], by rw [HRS.out], (hbw.alloc hbw.size _).alloc (by have := hbw.size; simp; omega) _⟩
          case measure => simp [intOf]; omega
      · obtain rfl : k = cs.length := by omega
        clear hlt
        go_wp2_with fail
        go_ret2
        exact ⟨rfl, hbww⟩
  · have e1 : dueR cs ps g l day = 0 := by unfold dueR; rw [if_neg h0]
    rw [e1]
    have h0' : (datedCode cs ps g l day == 0) = false := by simpa using h0
    have h0'' : (datedCode cs ps g l day != 0) = true := by simpa using h0
    clear h0 e1
    go_enter Tryz.func44, Tryz.ntmps44
    go_wp2_with fail
    refine (HC _ (by go_grown)).out.mono ?_
    rintro e w1 ⟨rfl, hb1⟩
    have hbw : Below w.heap.size w w1 := Below.trans (by go_grown) (hb1.mono (by simp))
    go_wp2_with fail
    go_ret2
    exact ⟨rfl, hbw⟩
end Go.Proofs.YtfojjecnmfkcfaaGreat
