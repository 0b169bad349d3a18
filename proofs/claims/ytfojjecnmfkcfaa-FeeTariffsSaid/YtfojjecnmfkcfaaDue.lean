/- What is due on a day. -/
import Derived.Test.YtfojjecnmfkcfaaRests
import Derived.Test.YtfojjecnmfkcfaaLate
namespace Go.Proofs.Ytfojjecnmfkcfaa
open Go.RowKit Go.Maps
set_option linter.unusedVariables false
theorem restOf_bd {cs : List (Int × Int)} {day p : Int} (h0 : 0 ≤ p) (hc : ∀ e ∈ cs, 0 ≤ e.1 ∧ e.1 ≤ 400 ∧ 1 ≤ e.2 ∧ e.2 ≤ 10000) (i : Nat) : 0 ≤ restOf cs day p i ∧ restOf cs day p i ≤ 10000 := by
  unfold restOf
  by_cases h : i < cs.length ∧ (cs.getD i (0, 0)).1 ≤ day
  · have hb := leftK_bd (day := day) h0 hc i
    have hx := hc cs[i] (List.getElem_mem h.1)
    have hgd : cs.getD i (0, 0) = cs[i]'h.1 := by simp [List.getD_eq_getElem?_getD, List.getElem?_eq_getElem h.1]
    rw [if_pos h, hgd]
    by_cases h2 : (cs[i]'h.1).2 < leftK cs day p i
    · rw [if_pos h2]; omega
    · rw [if_neg h2]; omega
  · rw [if_neg h]; omega
def restSum (cs : List (Int × Int)) (day p : Int) : Nat → Int
  | 0 => 0
  | k + 1 => restSum cs day p k + restOf cs day p k
def dueK (cs : List (Int × Int)) (g day p : Int) : Nat → Int
  | 0 => 0
  | k + 1 => if (cs.getD k (0, 0)).1 + g = day ∧ 0 < restOf cs day p k then restSum cs day p (k + 1) else dueK cs g day p k
theorem restSum_bd {cs : List (Int × Int)} {day p : Int} (h0 : 0 ≤ p) (hc : ∀ e ∈ cs, 0 ≤ e.1 ∧ e.1 ≤ 400 ∧ 1 ≤ e.2 ∧ e.2 ≤ 10000) : ∀ k, 0 ≤ restSum cs day p k ∧ restSum cs day p k ≤ 10000 * k
  | 0 => by simp [restSum]
  | k + 1 => by
    have ih := restSum_bd (day := day) h0 hc k
    have := restOf_bd (day := day) h0 hc k
    simp only [restSum]
    omega
def dueR (cs ps : List (Int × Int)) (g l day : Int) : Int := if datedCode cs ps g l day = 0 then dueK cs g day (uptoF ps day) cs.length else 0
set_option maxRecDepth 100000 in
set_option maxHeartbeats 4000000 in
theorem Due_any (A B : Option Addr) (c d : Nat) (cs ps : List (Int × Int)) (g l day : Int) (w : World) (hA : Ent w A c cs) (hB : Ent w B d ps) (hl : cs.length ≤ 1000) (hl2 : ps.length ≤ 1000) :
    Calls Try.prog 69 #[accV A cs.length c B ps.length d g l, .int .i64 day] w fun e w' => e = .returned (.tuple #[.int .i64 (dueR cs ps g l day), .int .i64 (datedCode cs ps g l day)]) ∧ Below w.heap.size w w' := by
  have HC := fun w1 (hb : Below w.heap.size w w1) => Lib.hid (dated_any A B c d cs ps g l day w1 (hA.next hb) (hB.next hb) hl hl2)
  unfold accV at HC ⊢
  by_cases h0 : datedCode cs ps g l day = 0
  · obtain ⟨ho, hd1, hd2⟩ := datedCode_ok h0
    have HP := fun w1 (hb : Below w.heap.size w w1) => Lib.hid (rests_any A B c d cs ps g l day w1 (hA.next hb).rd (hB.next hb).rd ho.clen ho.plen ho.call ho.pall)
    unfold accV at HP
    have e1 : dueR cs ps g l day = dueK cs g day (uptoF ps day) cs.length := by unfold dueR; rw [if_pos h0]
    rw [e1, h0]
    rw [h0] at HC
    clear h0 e1
    obtain ⟨hc8, hp8, ⟨g1, g2⟩, ⟨l1, l2⟩, hca, hpa, _, _⟩ := ho
    have hu0 := (uptoF_bd (l := ps) (fun e he => by have := hpa e he; omega) day).1
    have HRB := Lib.hid (restOf_bd (cs := cs) (day := day) hu0 hca)
    have HSB := Lib.hid (restSum_bd (cs := cs) (day := day) hu0 hca)
    clear hu0
    go_enter Try.func69, Try.ntmps69
    go_wp2_with fail
    refine (HC _ (by go_grown)).out.mono ?_
    rintro e w1 ⟨rfl, hb1⟩
    have hbw : Below w.heap.size w w1 := Below.trans (by go_grown) (hb1.mono (by simp))
    obtain ⟨c0, c1, c2, c3⟩ := accBox w (.slice A cs.length c) (.slice B ps.length d) (.int .i64 g) (.int .i64 l) 76
    have d0 := (hb1.cell (p := ⟨w.heap.size, 0, none⟩) (by simp)).trans c0
    have d1 := (hb1.cell (p := ⟨w.heap.size, 1, none⟩) (by simp)).trans c1
    have d2 := (hb1.cell (p := ⟨w.heap.size, 2, none⟩) (by simp)).trans c2
    have d3 := (hb1.cell (p := ⟨w.heap.size, 3, none⟩) (by simp)).trans c3
    have hz1 : w.heap.size < w1.heap.size := by have := hb1.size; simp at this; omega
    clear c0 c1 c2 c3
    go_wp2_with fail
    refine (HP _ hbw).out.mono ?_
    rintro e W3 ⟨b, rfl, hb, hm, hb3⟩
    have hbW3 := hbw.trans (hb3.mono hbw.size)
    have d0' := (hb3.cell (p := ⟨w.heap.size, 0, none⟩) hz1).trans d0
    have d2' := (hb3.cell (p := ⟨w.heap.size, 2, none⟩) hz1).trans d2
    have hz3 : w.heap.size < W3.heap.size := Nat.lt_of_lt_of_le hz1 hb3.size
    have HM : Hid (∀ W, Below W3.heap.size W3 W → W.ownsMap Try.prog 3 (plainElem (H := Nat) Try.prog 3) b cs.length (restD cs day (uptoF ps day) cs.length)) := fun W hW =>
      World.ownsMap.kept hm (row := none) ⟨hW.os, hW.tape, hW.output, hW.size, fun k hk _ => hW.block k hk⟩ (by simp)
    clear hm d0 d1 d2 d3
    go_wp2_with fail
    go_loopw [9, 10, 11, 12, 28] (fun ov av _ _ i wr => ∃ k : Nat, k ≤ cs.length ∧ i = .int .i64 k ∧ ov = .int .i64 (dueK cs g day (uptoF ps day) k) ∧ av = .int .i64 (restSum cs day (uptoF ps day) k) ∧ Below W3.heap.size W3 wr) (fun _ _ _ _ i _ => cs.length - (intOf i).toNat)
    case atStart => exact ⟨0, Nat.zero_le _, rfl, rfl, rfl, Below.refl _ _⟩
    case round =>
      obtain ⟨k, hk, rfl, rfl, rfl, hbw⟩ := hrel
      have hbww := hbW3.trans (hbw.mono hbW3.size)
      by_cases hlt : k < cs.length
      · obtain ⟨bc, off, rfl, hbb, e1, e2⟩ := (hA.rd.below hbww).pair hlt
        have hbb' : bc < wr.heap.size := Nat.lt_of_lt_of_le hbb hbww.size
        have d2r := (hbw.cell (p := ⟨w.heap.size, 2, none⟩) hz3).trans d2'
        have hzr : w.heap.size < wr.heap.size := Nat.lt_of_lt_of_le hz3 hbw.size
        obtain ⟨x1, x2, x3, x4⟩ := hca cs[k] (List.getElem_mem _)
        have hgd : cs.getD k (0, 0) = cs[k] := by simp [List.getD_eq_getElem?_getD, List.getElem?_eq_getElem hlt]
        obtain ⟨r1, r2⟩ := HRB.out k
        obtain ⟨s1, s2⟩ := HSB.out k
        have hk8 : (k : Int) ≤ 8 := by omega
        have hkey : keyOf Try.prog 3 (.int .i64 k) = some (.int .i64 k) := keyOf_int_mk Try.underlying3 (WalkArith.wf_i64 (by omega))
        have HAT : Hid (∀ cc : Int, (restD cs day (uptoF ps day) cs.length).atKey (.int .i64 k) (.lit (.int .i64 0)) = .lit (.int .i64 cc) → cc = restOf cs day (uptoF ps day) k) := by
          show ∀ cc : Int, _ → _
          intro cc h
          rw [restD_at cs day (uptoF ps day) k cs.length (Nat.le_refl _), if_pos hlt] at h
          injection h with h
          injection h with _ h
          exact h.symm
        have HL : Hid (∀ W, Below W3.heap.size W3 W → (Instr.lookup 186 (.map (some b)) (.int .i64 k) false).run Try.prog W = .ok (.int .i64 (restOf cs day (uptoF ps day) k)) W) := by
          show ∀ W, _ → _
          intro W hW
          obtain ⟨cc, h1, h2, _⟩ := (HM.out W hW).lookup_int lawInt Try.underlying186 Try.underlying3 (zeroInt W) hkey
          rw [h1, HAT.out cc h2]
        have hRS : restSum cs day (uptoF ps day) (k + 1) = restSum cs day (uptoF ps day) k + restOf cs day (uptoF ps day) k := rfl
        have hOK : dueK cs g day (uptoF ps day) (k + 1) = if cs[k].1 + g = day ∧ 0 < restOf cs day (uptoF ps day) k then restSum cs day (uptoF ps day) (k + 1) else dueK cs g day (uptoF ps day) k := by simp only [dueK, hgd]
        clear hgd
        by_cases t1 : cs[k].1 + g = day
        · have t1' : (cs[k].1 + g == day) = true := by rw [beq_iff_eq]; exact t1
          by_cases t2 : 0 < restOf cs day (uptoF ps day) k
          · rw [if_pos ⟨t1, t2⟩, hRS] at hOK
            have HOK := Lib.hid hOK
            have HRS := Lib.hid hRS
            clear hOK hRS t1
            go_wp2_with (first | (at_lookup; refine wpList_lookup_own_int _ rfl _ _ 186 rfl 3 3 .i64 lawInt Try.underlying186 Try.underlying3 (zeroInt _) b cs.length _ rfl (HM.out _ (hbw.alloc hbw.size _)) _ _ rfl hkey ?_; intro cc hat hwc; obtain rfl : cc = restOf cs day (uptoF ps day) k := HAT.out cc hat; clear hat hwc) | (at_lookup; refine wpList_lookup_own_int _ rfl _ _ 186 rfl 3 3 .i64 lawInt Try.underlying186 Try.underlying3 (zeroInt _) b cs.length _ rfl (HM.out _ ((hbw.alloc hbw.size _).alloc (by have := hbw.size; simp; omega) _)) _ _ rfl hkey ?_; intro cc hat hwc; obtain rfl : cc = restOf cs day (uptoF ps day) k := HAT.out cc hat; clear hat hwc))
            refine (sum2_any (by simp) _ _ (by omega) (by omega) (by omega) (by omega)).mono ?_
            rintro e w4 ⟨rfl, rfl⟩
            have hrun := HL.out ((wr.alloc (.cells #[.int .i64 cs[k].1, .int .i64 cs[k].2] 80)).alloc (.cells #[.int .i64 (restSum cs day (uptoF ps day) k), .int .i64 (restOf cs day (uptoF ps day) k)] 3)) ((hbw.alloc hbw.size _).alloc (by have := hbw.size; simp; omega) _)
            go_wp2_with fail
            go_roundw
            case rel => exact ⟨k + 1, by omega, by go_num, by rw [HOK.out], by rw [HRS.out], (hbw.alloc hbw.size _).alloc (by have := hbw.size; simp; omega) _⟩
            case measure => simp [intOf]; omega
          · rw [if_neg (fun h => t2 h.2)] at hOK
            have HOK := Lib.hid hOK
            have HRS := Lib.hid hRS
            clear hOK hRS t1
            go_wp2_with (first | (at_lookup; refine wpList_lookup_own_int _ rfl _ _ 186 rfl 3 3 .i64 lawInt Try.underlying186 Try.underlying3 (zeroInt _) b cs.length _ rfl (HM.out _ (hbw.alloc hbw.size _)) _ _ rfl hkey ?_; intro cc hat hwc; obtain rfl : cc = restOf cs day (uptoF ps day) k := HAT.out cc hat; clear hat hwc) | (at_lookup; refine wpList_lookup_own_int _ rfl _ _ 186 rfl 3 3 .i64 lawInt Try.underlying186 Try.underlying3 (zeroInt _) b cs.length _ rfl (HM.out _ ((hbw.alloc hbw.size _).alloc (by have := hbw.size; simp; omega) _)) _ _ rfl hkey ?_; intro cc hat hwc; obtain rfl : cc = restOf cs day (uptoF ps day) k := HAT.out cc hat; clear hat hwc))
            refine (sum2_any (by simp) _ _ (by omega) (by omega) (by omega) (by omega)).mono ?_
            rintro e w4 ⟨rfl, rfl⟩
            have hrun := HL.out ((wr.alloc (.cells #[.int .i64 cs[k].1, .int .i64 cs[k].2] 80)).alloc (.cells #[.int .i64 (restSum cs day (uptoF ps day) k), .int .i64 (restOf cs day (uptoF ps day) k)] 3)) ((hbw.alloc hbw.size _).alloc (by have := hbw.size; simp; omega) _)
            go_wp2_with fail
            go_roundw
            case rel => exact ⟨k + 1, by omega, by go_num, by rw [HOK.out], by rw [HRS.out], (hbw.alloc hbw.size _).alloc (by have := hbw.size; simp; omega) _⟩
            case measure => simp [intOf]; omega
        · have t1' : (cs[k].1 + g == day) = false := by rw [beq_eq_false_iff_ne]; exact t1
          rw [if_neg (fun h => t1 h.1)] at hOK
          have HOK := Lib.hid hOK
          have HRS := Lib.hid hRS
          clear hOK hRS t1
          go_wp2_with (first | (at_lookup; refine wpList_lookup_own_int _ rfl _ _ 186 rfl 3 3 .i64 lawInt Try.underlying186 Try.underlying3 (zeroInt _) b cs.length _ rfl (HM.out _ (hbw.alloc hbw.size _)) _ _ rfl hkey ?_; intro cc hat hwc; obtain rfl : cc = restOf cs day (uptoF ps day) k := HAT.out cc hat; clear hat hwc) | (at_lookup; refine wpList_lookup_own_int _ rfl _ _ 186 rfl 3 3 .i64 lawInt Try.underlying186 Try.underlying3 (zeroInt _) b cs.length _ rfl (HM.out _ ((hbw.alloc hbw.size _).alloc (by have := hbw.size; simp; omega) _)) _ _ rfl hkey ?_; intro cc hat hwc; obtain rfl : cc = restOf cs day (uptoF ps day) k := HAT.out cc hat; clear hat hwc))
          refine (sum2_any (by simp) _ _ (by omega) (by omega) (by omega) (by omega)).mono ?_
          rintro e w4 ⟨rfl, rfl⟩
          have hrun := HL.out ((wr.alloc (.cells #[.int .i64 cs[k].1, .int .i64 cs[k].2] 80)).alloc (.cells #[.int .i64 (restSum cs day (uptoF ps day) k), .int .i64 (restOf cs day (uptoF ps day) k)] 3)) ((hbw.alloc hbw.size _).alloc (by have := hbw.size; simp; omega) _)
          go_wp2_with fail
          go_roundw
          case rel => exact ⟨k + 1, by omega, by go_num, by rw [HOK.out], by rw [HRS.out], (hbw.alloc hbw.size _).alloc (by have := hbw.size; simp; omega) _⟩
          case measure => simp [intOf]; omega
      · obtain rfl : k = cs.length := by omega
        clear hlt
        go_wp2_with fail
        go_ret2
        exact ⟨rfl, hbww⟩
  · have e1 : dueR cs ps g l day = 0 := by unfold dueR; rw [if_neg h0]
    rw [e1]
    have h0' : (datedCode cs ps g l day == 0) = false := by simpa using h0
    have h0'' : (datedCode cs ps g l day != 0) = true := by simpa using h0
    clear h0 e1
    go_enter Try.func69, Try.ntmps69
    go_wp2_with fail
    refine (HC _ (by go_grown)).out.mono ?_
    rintro e w1 ⟨rfl, hb1⟩
    have hbw : Below w.heap.size w w1 := Below.trans (by go_grown) (hb1.mono (by simp))
    go_wp2_with fail
    go_ret2
    exact ⟨rfl, hbw⟩
end Go.Proofs.Ytfojjecnmfkcfaa
