/- The reference: the error of an account and a day, what rests, what is owed and kept. The reference: whether a charge is late, and what is due. The reference: what is due on a day. XInvG's rule for regions whose operations have edges that do not bind. The reference: what is late, and what that costs. The reference: when charges are paid. Two accounts with the same entries and numbers are alike. -/
import Derived.Test.YtfojjecnmfkcfaaGreatP26
import Derived.Test.YtfojjecnmfkcfaaGreatP14
import Derived.Test.YtfojjecnmfkcfaaGreatDueM
import Derived.Test.YtfojjecnmfkcfaaGreatP24
import Derived.Test.YtfojjecnmfkcfaaGreatP25
import Derived.Test.YtfojjecnmfkcfaaGreatP20
import Derived.Test.YtfojjecnmfkcfaaGreatP4
namespace Go.Proofs.YtfojjecnmfkcfaaGreat
open Go.RowKit
set_option linter.unusedVariables false
set_option maxHeartbeats 1000000 in
theorem rDated_any (A B : Option Addr) (c dc : Nat) (cs ps : List (Int × Int)) (g l day : Int) (w : World) (hA : Rd w w.heap.size A (pairs cs)) (hB : Rd w w.heap.size B (pairs ps)) (hl : cs.length ≤ 1000) (hl2 : ps.length ≤ 1000) :
    Calls Tryz.prog 98 #[.agg #[.slice A cs.length c, .slice B ps.length dc, .int .i64 g, .int .i64 l], .int .i64 day] w fun e w' => e = .returned (.int .i64 (datedCode cs ps g l day)) ∧ Below w.heap.size w w' := by
  have HC := fun w1 (hb : Below w.heap.size w w1) => Lib.hid (rCheckAcc_any A B c dc cs ps g l w1 (hA.next hb) (hB.next hb) hl hl2)
  by_cases h0 : ckAcc cs ps g l = 0
  · rw [h0] at HC
    cases hin : inB day 0 400
    all_goals
      have hd : datedCode cs ps g l day = if inB day 0 400 then 0 else 4 := by unfold datedCode; rw [if_pos h0]
      rw [hd, hin]
      have hin' := off_bool hin
      clear hd
      go_enter Tryz.func98, Tryz.ntmps98
      go_wp2_with fail
      refine (HC _ (by go_grown)).out.mono ?_
      rintro e w1 ⟨rfl, hb1⟩
      have hbw : Below w.heap.size w w1 := Below.trans (by go_grown) (hb1.mono (by simp))
      go_wp2_with (go_at_call 75; refine (off_any _ _ _ _).mono ?_; rintro e w' ⟨rfl, rfl⟩)
      go_ret
      exact ⟨rfl, hbw⟩
  · have hd : datedCode cs ps g l day = ckAcc cs ps g l := by unfold datedCode; rw [if_neg h0]
    rw [hd]
    have h0' : (ckAcc cs ps g l != 0) = true := by rw [bne_iff_ne]; exact h0
    clear h0 hd
    go_enter Tryz.func98, Tryz.ntmps98
    go_wp2_with fail
    refine (HC _ (by go_grown)).out.mono ?_
    rintro e w1 ⟨rfl, hb1⟩
    have hbw : Below w.heap.size w w1 := Below.trans (by go_grown) (hb1.mono (by simp))
    go_wp2_with fail
    go_ret
    exact ⟨rfl, hbw⟩
set_option maxRecDepth 100000 in
set_option maxHeartbeats 2000000 in
theorem rRests_any (A B : Option Addr) (c dc : Nat) (cs ps : List (Int × Int)) (g l day : Int) (w : World) (hA : Rd w w.heap.size A (pairs cs)) (hB : Rd w w.heap.size B (pairs ps)) (hl : cs.length ≤ 1000) (hl2 : ps.length ≤ 1000) :
    Calls Tryz.prog 39 #[.agg #[.slice A cs.length c, .slice B ps.length dc, .int .i64 g, .int .i64 l], .int .i64 day] w (RetRL (restR cs ps g l day) (datedCode cs ps g l day) w) := by
  have HC := fun w1 (hb : Below w.heap.size w w1) => Lib.hid (rDated_any A B c dc cs ps g l day w1 (hA.next hb) (hB.next hb) hl hl2)
  by_cases h0 : datedCode cs ps g l day = 0
  · obtain ⟨ho, hd1, hd2⟩ := datedCode_ok h0
    have HS := fun w1 (hb : Below w.heap.size w w1) => Lib.hid (rState_any A B c dc cs ps g l day w1 (hA.next hb) (hB.next hb) ho hd1 (by omega))
    have e1 : restR cs ps g l day = restK cs ps day cs.length := by unfold restR; rw [if_pos h0]
    rw [e1, h0]
    rw [h0] at HC
    clear h0 e1 ho
    go_enter Tryz.func39, Tryz.ntmps39
    go_wp2_with fail
    refine (HC _ (by go_grown)).out.mono ?_
    rintro e w1 ⟨rfl, hb1⟩
    have hbw : Below w.heap.size w w1 := Below.trans (by go_grown) (hb1.mono (by simp))
    have d0 := hb1.at_ (by simp) (news_new w [.slice A cs.length c, .slice B ps.length dc, .int .i64 g, .int .i64 l] 85 rfl 0 _ rfl)
    have d1 := hb1.at_ (by simp) (news_new w [.slice A cs.length c, .slice B ps.length dc, .int .i64 g, .int .i64 l] 85 rfl 1 _ rfl)
    have d2 := hb1.at_ (by simp) (news_new w [.slice A cs.length c, .slice B ps.length dc, .int .i64 g, .int .i64 l] 85 rfl 2 _ rfl)
    have d3 := hb1.at_ (by simp) (news_new w [.slice A cs.length c, .slice B ps.length dc, .int .i64 g, .int .i64 l] 85 rfl 3 _ rfl)
    have hz := hb1.size
    simp at hz d0 d1 d2 d3
    go_wp2_with fail
    refine (HS _ hbw).out.mono ?_
    rintro e w2 ⟨b, cb, rfl, hbb, hL, hb2⟩
    have hbw2 := hbw.trans (hb2.mono hbw.size)
    go_wp2_with fail
    go_ret2
    exact ⟨some ⟨b, 0, none⟩, cb, by rw [restK_length]; rfl, hL.rd, hbw2⟩
  · have e1 : restR cs ps g l day = [] := by unfold restR; rw [if_neg h0]
    rw [e1]
    have h0' : (datedCode cs ps g l day != 0) = true := by rw [bne_iff_ne]; exact h0
    clear h0 e1
    go_enter Tryz.func39, Tryz.ntmps39
    go_wp2_with fail
    refine (HC _ (by go_grown)).out.mono ?_
    rintro e w1 ⟨rfl, hb1⟩
    have hbw : Below w.heap.size w w1 := Below.trans (by go_grown) (hb1.mono (by simp))
    go_wp2_with fail
    go_ret2
    exact ⟨_, _, rfl, Rd.nil, hbw⟩
set_option maxRecDepth 100000 in
set_option maxHeartbeats 2000000 in
theorem rOwing_any (A B : Option Addr) (c dc : Nat) (cs ps : List (Int × Int)) (g l day : Int) (w : World) (hA : Rd w w.heap.size A (pairs cs)) (hB : Rd w w.heap.size B (pairs ps)) (hl : cs.length ≤ 1000) (hl2 : ps.length ≤ 1000) :
    Calls Tryz.prog 41 #[.agg #[.slice A cs.length c, .slice B ps.length dc, .int .i64 g, .int .i64 l], .int .i64 day] w fun e w' => e = .returned (.tuple #[.int .i64 (owingR cs ps g l day), .int .i64 (creditR cs ps g l day), .int .i64 (datedCode cs ps g l day)]) ∧ Below w.heap.size w w' := by
  have HC := fun w1 (hb : Below w.heap.size w w1) => Lib.hid (rDated_any A B c dc cs ps g l day w1 (hA.next hb) (hB.next hb) hl hl2)
  by_cases h0 : datedCode cs ps g l day = 0
  · obtain ⟨ho, hd1, hd2⟩ := datedCode_ok h0
    have HS := fun w1 (hb : Below w.heap.size w w1) => Lib.hid (rState_any A B c dc cs ps g l day w1 (hA.next hb) (hB.next hb) ho hd1 (by omega))
    have e1 : owingR cs ps g l day = restSum cs day (uptoF ps day) cs.length := by unfold owingR; rw [if_pos h0]
    have e2 : creditR cs ps g l day = leftK cs day (uptoF ps day) cs.length := by unfold creditR; rw [if_pos h0]
    rw [e1, e2, h0]
    rw [h0] at HC
    have hp0 := uptoF_nonneg (l := ps) (fun e he => by have := ho.pall e he; omega) day
    have HRB := Lib.hid (restOf_bd (day := day) hp0 ho.call)
    have HSB := Lib.hid (restSum_bd (day := day) hp0 ho.call)
    have hcl := ho.clen
    clear h0 e1 e2 ho hp0
    go_enter Tryz.func41, Tryz.ntmps41
    go_wp2_with fail
    refine (HC _ (by go_grown)).out.mono ?_
    rintro e w1 ⟨rfl, hb1⟩
    have hbw : Below w.heap.size w w1 := Below.trans (by go_grown) (hb1.mono (by simp))
    have d0 := hb1.at_ (by simp) (news_new w [.slice A cs.length c, .slice B ps.length dc, .int .i64 g, .int .i64 l] 85 rfl 0 _ rfl)
    have d1 := hb1.at_ (by simp) (news_new w [.slice A cs.length c, .slice B ps.length dc, .int .i64 g, .int .i64 l] 85 rfl 1 _ rfl)
    have d2 := hb1.at_ (by simp) (news_new w [.slice A cs.length c, .slice B ps.length dc, .int .i64 g, .int .i64 l] 85 rfl 2 _ rfl)
    have d3 := hb1.at_ (by simp) (news_new w [.slice A cs.length c, .slice B ps.length dc, .int .i64 g, .int .i64 l] 85 rfl 3 _ rfl)
    have hz := hb1.size
    simp at hz d0 d1 d2 d3
    go_wp2_with fail
    refine (HS _ hbw).out.mono ?_
    rintro e w2 ⟨b, cb, rfl, hbb, hL, hb2⟩
    have hbw2 := hbw.trans (hb2.mono hbw.size)
    have HL := Lib.hid hL
    clear hL hb1 hb2 d0 d1 d2 d3
    go_wp2_with fail
    go_loop [10, 11] (fun sv iv => ∃ k : Nat, iv = .int .i64 k ∧ k ≤ cs.length ∧ sv = .int .i64 (restSum cs day (uptoF ps day) k)) (fun _ iv => cs.length - (intOf iv).toNat)
    case atStart => exact ⟨0, rfl, Nat.zero_le _, rfl⟩
    case round =>
      obtain ⟨k, rfl, hk, rfl⟩ := hrel
      obtain ⟨s0, s1⟩ := HSB.out k
      by_cases hlt : k < cs.length
      · have ck := HL.out.at_ (j := k) (by rw [restK_length]; exact hlt)
        have e3 : (restK cs ps day cs.length)[k]'(by rw [restK_length]; exact hlt) = restOf cs day (uptoF ps day) k := by simp [restK]
        rw [e3] at ck
        have HE : Hid (restSum cs day (uptoF ps day) (k + 1) = restSum cs day (uptoF ps day) k + restOf cs day (uptoF ps day) k) := rfl
        obtain ⟨r0, r1⟩ := HRB.out k
        have cl := HL.out.lt
        have hkz : (k : Int) < cs.length := by omega
        have hk0 : (0 : Int) ≤ (k : Int) := by omega
        clear e3
        generalize restSum cs day (uptoF ps day) k = S at *
        generalize restOf cs day (uptoF ps day) k = R at *
        go_wp2_with fail
        go_round
        case rel => exact ⟨k + 1, by go_num, by omega, by rw [HE.out]⟩
        case measure => simp [intOf]; omega
      · obtain rfl : k = cs.length := by omega
        go_wp2_with fail
        go_ret3
        exact ⟨rfl, hbw2⟩
  · have e1 : owingR cs ps g l day = 0 := by unfold owingR; rw [if_neg h0]
    have e2 : creditR cs ps g l day = 0 := by unfold creditR; rw [if_neg h0]
    rw [e1, e2]
    have h0' : (datedCode cs ps g l day != 0) = true := by rw [bne_iff_ne]; exact h0
    clear h0 e1 e2
    go_enter Tryz.func41, Tryz.ntmps41
    go_wp2_with fail
    refine (HC _ (by go_grown)).out.mono ?_
    rintro e w1 ⟨rfl, hb1⟩
    have hbw : Below w.heap.size w w1 := Below.trans (by go_grown) (hb1.mono (by simp))
    go_wp2_with fail
    go_ret3
    exact ⟨rfl, hbw⟩
end Go.Proofs.YtfojjecnmfkcfaaGreat
namespace Go.Proofs.YtfojjecnmfkcfaaGreat
open Go.RowKit
set_option linter.unusedVariables false
theorem rest_pos {cs ps : List (Int × Int)} {g l d : Int} (ho : AccOk cs ps g l) {i : Nat} (hi : i < cs.length) (hd : cs[i].1 ≤ d) : 0 < restOf cs d (uptoF ps d) i ↔ uptoF ps d < allOf cs (i + 1) := by
  have hc2 : ∀ e ∈ cs, 0 ≤ e.2 := fun e he => by have := ho.call e he; omega
  have hp := uptoF_nonneg (l := ps) (fun e he => by have := ho.pall e he; omega) d
  have hx := ho.call cs[i] (List.getElem_mem _)
  have hs := allOf_succ cs i hi
  rw [restOf_eq (up_of ho.crise) hc2 hi d _ hp hd]
  split
  · omega
  · split <;> omega
theorem late_rest {cs ps : List (Int × Int)} {g l day : Int} (ho : AccOk cs ps g l) {i : Nat} (hi : i < cs.length) : lateB cs ps g day i = (decide (cs[i].1 + g < day) && decide (0 < restOf cs (cs[i].1 + g) (uptoF ps (cs[i].1 + g)) i)) := by
  have hg := ho.grace.1
  rw [Bool.eq_iff_iff, late_iff (fun e he => by have := ho.call e he; omega) hg (up_of ho.prise) (fun e he => by have := ho.pall e he; omega) hi, Bool.and_eq_true, decide_eq_true_iff, decide_eq_true_iff, rest_pos ho hi (by omega)]
theorem due_rest {cs ps : List (Int × Int)} {g l day : Int} (ho : AccOk cs ps g l) {i : Nat} (hi : i < cs.length) : (lateB cs ps g (day + 1) i && !lateB cs ps g day i) = decide (cs[i].1 + g = day ∧ 0 < restOf cs day (uptoF ps day) i) := by
  rw [late_rest ho hi, late_rest ho hi]
  by_cases h : cs[i].1 + g = day
  · subst h
    have h1 : cs[i].1 + g < cs[i].1 + g + 1 := by omega
    by_cases h2 : 0 < restOf cs (cs[i].1 + g) (uptoF ps (cs[i].1 + g)) i <;> simp [h2, h1]
  · have e : decide (cs[i].1 + g = day ∧ 0 < restOf cs day (uptoF ps day) i) = false := decide_eq_false (fun h2 => h h2.1)
    rw [e]
    by_cases h1 : cs[i].1 + g < day
    · have h3 : cs[i].1 + g < day + 1 := by omega
      by_cases h2 : 0 < restOf cs (cs[i].1 + g) (uptoF ps (cs[i].1 + g)) i <;> simp [h2, h1, h3]
    · have h3 : ¬ cs[i].1 + g < day + 1 := by omega
      simp [h1, h3]
set_option maxRecDepth 100000 in
set_option maxHeartbeats 2000000 in
theorem rLate1_any (A B : Option Addr) (c dc : Nat) (cs ps : List (Int × Int)) (g l day : Int) (i : Nat) (w : World) (hA : Rd w w.heap.size A (pairs cs)) (hB : Rd w w.heap.size B (pairs ps)) (ho : AccOk cs ps g l) (hi : i < cs.length) (hd0 : 0 ≤ day) (hd1 : day ≤ 401) :
    Calls Tryz.prog 99 #[.agg #[.slice A cs.length c, .slice B ps.length dc, .int .i64 g, .int .i64 l], .int .i64 (i : Int), .int .i64 day] w fun e w' => e = .returned (.bool (lateB cs ps g day i)) ∧ Below w.heap.size w w' := by
  obtain ⟨ba, oa, rfl, hba, e1, e2⟩ := hA.pair hi
  obtain ⟨q1, q2, _, _⟩ := ho.call cs[i] (List.getElem_mem _)
  obtain ⟨gr0, gr1⟩ := ho.grace
  have HLR := Lib.hid (late_rest (day := day) ho hi)
  have HS := fun w1 (hb : Below w.heap.size w w1) => Lib.hid (rState_any (some ⟨ba, oa, none⟩) B c dc cs ps g l (cs[i].1 + g) w1 (hA.next hb) (hB.next hb) ho (by omega) (by omega))
  have hiz : (i : Int) < cs.length := by omega
  have hi0 : (0 : Int) ≤ (i : Int) := by omega
  have hrl : i < (restK cs ps (cs[i].1 + g) cs.length).length := by rw [restK_length]; exact hi
  have hre : (restK cs ps (cs[i].1 + g) cs.length)[i]'hrl = restOf cs (cs[i].1 + g) (uptoF ps (cs[i].1 + g)) i := by simp [restK]
  have HRE := Lib.hid (fun (wx : World) (b : Nat) (h : Lst wx b (restK cs ps (cs[i].1 + g) cs.length)) => by have := h.at_ hrl; rwa [hre] at this)
  clear hrl hre ho
  generalize restOf cs (cs[i].1 + g) (uptoF ps (cs[i].1 + g)) i = R at *
  generalize cs[i].1 = u at *
  have wu : IntKind.i64.wrap (u + g) = u + g := IntWalk.i64_in _ (by omega)
  go_enter Tryz.func99, Tryz.ntmps99
  go_wp2_with fail
  generalize hW1 : World.alloc w _ = W1
  have bw : Below w.heap.size w W1 := by rw [← hW1]; exact below_new _ _
  have nw := news_new w [.slice (some ⟨ba, oa, none⟩) cs.length c, .slice B ps.length dc, .int .i64 g, .int .i64 l] 85 rfl
  have d0 : W1.cell? ⟨w.heap.size, 0, none⟩ = some (.slice (some ⟨ba, oa, none⟩) cs.length c) := by rw [← hW1]; exact nw 0 _ rfl
  have d1 : W1.cell? ⟨w.heap.size, 1, none⟩ = some (.slice B ps.length dc) := by rw [← hW1]; exact nw 1 _ rfl
  have d2 : W1.cell? ⟨w.heap.size, 2, none⟩ = some (.int .i64 g) := by rw [← hW1]; exact nw 2 _ rfl
  have d3 : W1.cell? ⟨w.heap.size, 3, none⟩ = some (.int .i64 l) := by rw [← hW1]; exact nw 3 _ rfl
  have kz : w.heap.size < W1.heap.size := by rw [← hW1]; simp
  have e1 := bw.at_ hba e1
  have hba' := Nat.lt_of_lt_of_le hba bw.size
  clear hW1 nw e2
  go_quiet (fail)
  by_cases hlt : u + g < day
  · have hle : ¬ day ≤ u + g := by omega
    have HLT := Lib.hid hlt
    generalize hW2 : World.drewN W1 _ = W2
    have hb2 : Below W1.heap.size W1 W2 := by rw [← hW2]; exact below_drewN (Below.refl _ _) _
    have d0 := hb2.at_ kz d0
    have d1 := hb2.at_ kz d1
    have d2 := hb2.at_ kz d2
    have d3 := hb2.at_ kz d3
    have kz2 := Nat.lt_of_lt_of_le kz hb2.size
    have bw2 := bw.trans (hb2.mono bw.size)
    clear hW2 hb2 e1 hlt
    go_wp2_with fail
    refine (HS _ bw2).out.mono ?_
    rintro e w3 ⟨b, cb, rfl, hbb, hL, hb3⟩
    have ck := HRE.out w3 b hL
    have cl := hL.lt
    have bw3 := bw2.trans (hb3.mono bw2.size)
    clear hL hb3 d0 d1 d2 d3
    go_wp2_with fail
    go_ret
    exact ⟨ret_bool (by rw [HLR.out, decide_eq_true HLT.out]; rfl), bw3⟩
  · have hle : day ≤ u + g := by omega
    have HLT := Lib.hid hlt
    have HD := Lib.hid (decide_eq_false hlt)
    clear hlt
    go_wp2_with fail
    go_ret
    exact ⟨ret_bool (by rw [HLR.out, HD.out]; rfl), below_drewN bw _⟩
end Go.Proofs.YtfojjecnmfkcfaaGreat
namespace Go.Proofs.YtfojjecnmfkcfaaGreat
open Go.RowKit
set_option linter.unusedVariables false
theorem dueK_succ {cs ps : List (Int × Int)} {g l day : Int} (ho : AccOk cs ps g l) {i : Nat} (hi : i < cs.length) : dueK cs g day (uptoF ps day) (i + 1) = if (lateB cs ps g (day + 1) i && !lateB cs ps g day i) then restSum cs day (uptoF ps day) (i + 1) else dueK cs g day (uptoF ps day) i := by
  rw [due_rest ho hi]
  simp only [dueK, getD_fst hi]
  by_cases h : cs[i].1 + g = day ∧ 0 < restOf cs day (uptoF ps day) i
  · rw [if_pos h, decide_eq_true h, if_pos rfl]
  · rw [if_neg h, decide_eq_false h]; rfl
set_option maxRecDepth 100000 in
set_option maxHeartbeats 4000000 in
theorem rDue_any (A B : Option Addr) (c dc : Nat) (cs ps : List (Int × Int)) (g l day : Int) (w : World) (hA : Rd w w.heap.size A (pairs cs)) (hB : Rd w w.heap.size B (pairs ps)) (hl : cs.length ≤ 1000) (hl2 : ps.length ≤ 1000) :
    Calls Tryz.prog 45 #[.agg #[.slice A cs.length c, .slice B ps.length dc, .int .i64 g, .int .i64 l], .int .i64 day] w fun e w' => e = .returned (.tuple #[.int .i64 (dueR cs ps g l day), .int .i64 (datedCode cs ps g l day)]) ∧ Below w.heap.size w w' := by
  have HC := fun w1 (hb : Below w.heap.size w w1) => Lib.hid (rDated_any A B c dc cs ps g l day w1 (hA.next hb) (hB.next hb) hl hl2)
  by_cases h0 : datedCode cs ps g l day = 0
  · obtain ⟨ho, hd1, hd2⟩ := datedCode_ok h0
    have HS := fun w1 (hb : Below w.heap.size w w1) => Lib.hid (rState_any A B c dc cs ps g l day w1 (hA.next hb) (hB.next hb) ho hd1 (by omega))
    have HJ1 := fun w1 (i : Nat) (hb : Below w.heap.size w w1) (hi : i < cs.length) => Lib.hid (rLate1_any A B c dc cs ps g l (day + 1) i w1 (hA.next hb) (hB.next hb) ho hi (by omega) (by omega))
    have HJ2 := fun w1 (i : Nat) (hb : Below w.heap.size w w1) (hi : i < cs.length) => Lib.hid (rLate1_any A B c dc cs ps g l day i w1 (hA.next hb) (hB.next hb) ho hi (by omega) (by omega))
    have HDK := fun (i : Nat) (hi : i < cs.length) => Lib.hid (dueK_succ (day := day) ho hi)
    have e1 : dueR cs ps g l day = dueK cs g day (uptoF ps day) cs.length := by unfold dueR; rw [if_pos h0]
    rw [e1, h0]
    rw [h0] at HC
    have hp0 := uptoF_nonneg (l := ps) (fun e he => by have := ho.pall e he; omega) day
    have HRB := Lib.hid (restOf_bd (day := day) hp0 ho.call)
    have HSB := Lib.hid (restSum_bd (day := day) hp0 ho.call)
    have hcl := ho.clen
    clear h0 e1 ho hp0
    go_enter Tryz.func45, Tryz.ntmps45
    go_wp2_with fail
    refine (HC _ (by go_grown)).out.mono ?_
    rintro e w1 ⟨rfl, hb1⟩
    have hbw : Below w.heap.size w w1 := Below.trans (by go_grown) (hb1.mono (by simp))
    have d0 := hb1.at_ (by simp) (news_new w [.slice A cs.length c, .slice B ps.length dc, .int .i64 g, .int .i64 l] 85 rfl 0 _ rfl)
    have d1 := hb1.at_ (by simp) (news_new w [.slice A cs.length c, .slice B ps.length dc, .int .i64 g, .int .i64 l] 85 rfl 1 _ rfl)
    have d2 := hb1.at_ (by simp) (news_new w [.slice A cs.length c, .slice B ps.length dc, .int .i64 g, .int .i64 l] 85 rfl 2 _ rfl)
    have d3 := hb1.at_ (by simp) (news_new w [.slice A cs.length c, .slice B ps.length dc, .int .i64 g, .int .i64 l] 85 rfl 3 _ rfl)
    have hz := hb1.size
    simp at hz d0 d1 d2 d3
    go_wp2_with fail
    refine (HS _ hbw).out.mono ?_
    rintro e w2 ⟨b, cb, rfl, hbb, hL, hb2⟩
    have hbw2 := hbw.trans (hb2.mono hbw.size)
    have hz2 := hb2.size
    have d0 := hb2.at_ (by omega) d0
    have d1 := hb2.at_ (by omega) d1
    have d2 := hb2.at_ (by omega) d2
    have d3 := hb2.at_ (by omega) d3
    have DD : Hid (w2.cell? ⟨w.heap.size, 0, none⟩ = some (.slice A cs.length c) ∧ w2.cell? ⟨w.heap.size, 1, none⟩ = some (.slice B ps.length dc) ∧ w2.cell? ⟨w.heap.size, 2, none⟩ = some (.int .i64 g) ∧ w2.cell? ⟨w.heap.size, 3, none⟩ = some (.int .i64 l)) := ⟨d0, d1, d2, d3⟩
    have HL := Lib.hid hL
    have hzw : w.heap.size < w2.heap.size := by omega
    clear hL hb1 hb2 d0 d1 d2 d3 hz hz2
    go_wp2_with fail
    go_loopw [9, 10, 11] (fun ov iv _ wr => ∃ k : Nat, iv = .int .i64 k ∧ k ≤ cs.length ∧ ov = .int .i64 (dueK cs g day (uptoF ps day) k) ∧ Below w2.heap.size w2 wr) (fun _ iv _ _ => cs.length - (intOf iv).toNat)
    case atStart => exact ⟨0, rfl, Nat.zero_le _, rfl, Below.refl _ _⟩
    case round =>
      obtain ⟨k, rfl, hk, rfl, hbr⟩ := hrel
      by_cases hlt : k < cs.length
      · obtain ⟨d0, d1, d2, d3⟩ := DD.out
        have d0 := hbr.at_ hzw d0
        have d1 := hbr.at_ hzw d1
        have d2 := hbr.at_ hzw d2
        have d3 := hbr.at_ hzw d3
        have hkz : (k : Int) < cs.length := by omega
        have hk0 : (0 : Int) ≤ (k : Int) := by omega
        have HK := HDK k hlt
        have J1 := HJ1 wr k (hbw2.trans (hbr.mono hbw2.size)) hlt
        have hzr : w.heap.size < wr.heap.size := Nat.lt_of_lt_of_le hzw hbr.size
        generalize hx : dueK cs g day (uptoF ps day) k = DK at *
        clear hx
        cases h1 : lateB cs ps g (day + 1) k
        · rw [h1] at J1 HK
          clear h1
          go_wp2_with fail
          refine J1.out.mono ?_
          rintro e wq ⟨rfl, hbq⟩
          have hbk := hbr.trans (hbq.mono hbr.size)
          clear hbq J1 d0 d1 d2 d3
          go_wp2_with fail
          go_round
          case rel => exact ⟨k + 1, by go_num, by omega, by rw [HK.out]; rfl, hbk⟩
          case measure => simp [intOf]; omega
        · rw [h1] at J1 HK
          clear h1
          have J2 := fun wq (hb : Below wr.heap.size wr wq) => HJ2 wq k ((hbw2.trans (hbr.mono hbw2.size)).trans (hb.mono (hbw2.trans (hbr.mono hbw2.size)).size)) hlt
          cases h2 : lateB cs ps g day k
          all_goals
            rw [h2] at J2 HK
            clear h2
            go_wp2_with fail
            refine J1.out.mono ?_
            rintro e wq ⟨rfl, hbq⟩
            have d0 := hbq.at_ hzr d0
            have d1 := hbq.at_ hzr d1
            have d2 := hbq.at_ hzr d2
            have d3 := hbq.at_ hzr d3
            have J := J2 wq hbq
            have hbk := hbr.trans (hbq.mono hbr.size)
            clear hbq J1 J2
            go_wp2_with fail
            refine J.out.mono ?_
            rintro e wx ⟨rfl, hbx⟩
            have hbn := hbk.trans (hbx.mono hbk.size)
            clear hbx hbk J d0 d1 d2 d3
          · go_wp2_with fail
            go_loop [9, 11] (fun sv iv => ∃ j : Nat, iv = .int .i64 j ∧ j ≤ k + 1 ∧ sv = .int .i64 (restSum cs day (uptoF ps day) j)) (fun _ iv => k + 1 - (intOf iv).toNat)
            case atStart => exact ⟨0, rfl, Nat.zero_le _, rfl⟩
            case round =>
              obtain ⟨j, rfl, hj, rfl⟩ := hrel
              obtain ⟨s0, s1⟩ := HSB.out j
              by_cases hjt : j < k + 1
              · have hjc : j < cs.length := by omega
                have ck := HL.out.at_ (j := j) (by rw [restK_length]; exact hjc)
                have e3 : (restK cs ps day cs.length)[j]'(by rw [restK_length]; exact hjc) = restOf cs day (uptoF ps day) j := by simp [restK]
                rw [e3] at ck
                have ck := hbn.at_ HL.out.lt ck
                have cl := Nat.lt_of_lt_of_le HL.out.lt hbn.size
                have HE : Hid (restSum cs day (uptoF ps day) (j + 1) = restSum cs day (uptoF ps day) j + restOf cs day (uptoF ps day) j) := rfl
                obtain ⟨r0, r1⟩ := HRB.out j
                have hkj : (j : Int) ≤ (k : Int) := by omega
                have hjz : (j : Int) < cs.length := by omega
                have hj0 : (0 : Int) ≤ (j : Int) := by omega
                clear e3
                generalize restSum cs day (uptoF ps day) j = S at *
                generalize restOf cs day (uptoF ps day) j = R at *
                go_wp2_with fail
                go_round
                case rel => exact ⟨j + 1, by go_num, by omega, by rw [HE.out]⟩
                case measure => simp [intOf]; omega
              · obtain rfl : j = k + 1 := by omega
                have hnk : ¬ ((k + 1 : Nat) : Int) ≤ (k : Int) := by omega
                go_wp2_with fail
                go_round
                case rel => exact ⟨k + 1, by go_num, by omega, by rw [HK.out]; rfl, hbn⟩
                case measure => simp [intOf]; omega
          · go_wp2_with fail
            go_round
            case rel => exact ⟨k + 1, by go_num, by omega, by rw [HK.out]; rfl, hbn⟩
            case measure => simp [intOf]; omega
      · obtain rfl : k = cs.length := by omega
        go_wp2_with fail
        go_ret2
        exact ⟨rfl, hbw2.trans (hbr.mono hbw2.size)⟩
  · have e1 : dueR cs ps g l day = 0 := by unfold dueR; rw [if_neg h0]
    rw [e1]
    have h0' : (datedCode cs ps g l day != 0) = true := by rw [bne_iff_ne]; exact h0
    clear h0 e1
    go_enter Tryz.func45, Tryz.ntmps45
    go_wp2_with fail
    refine (HC _ (by go_grown)).out.mono ?_
    rintro e w1 ⟨rfl, hb1⟩
    have hbw : Below w.heap.size w w1 := Below.trans (by go_grown) (hb1.mono (by simp))
    go_wp2_with fail
    go_ret2
    exact ⟨rfl, hbw⟩
end Go.Proofs.YtfojjecnmfkcfaaGreat
namespace Go.Proofs.YtfojjecnmfkcfaaGreat
open Go.RowKit
def headOkW (ops : Array Oper) (n size : Nat) : Bool :=
  (List.range n).all fun i => match ops[i]? with
    | none => false
    | some o => o.guard.isNone && o.after.all (fun e => !Region.binds .any e || decide (e.on < i)) && (match o.dst with | none => false | some d => decide (d < size) && (List.range i).all fun j => dstOf ops j != some d)
theorem head_atW {ops : Array Oper} {n size : Nat} (h : headOkW ops n size = true) {i : Nat} (hi : i < n) : ∃ o d, ops[i]? = some o ∧ o.guard = none ∧ (∀ e ∈ o.after, Region.binds .any e = true → e.on < i) ∧ o.dst = some d ∧ d < size ∧ ∀ j, j < i → dstOf ops j ≠ some d := by
  have h1 := List.all_eq_true.1 h i (List.mem_range.2 hi)
  cases ho : ops[i]? with
  | none => rw [ho] at h1; simp at h1
  | some o =>
    rw [ho] at h1
    simp only [Bool.and_eq_true] at h1
    obtain ⟨⟨g1, g2⟩, g3⟩ := h1
    cases hd : o.dst with
    | none => rw [hd] at g3; simp at g3
    | some d =>
      rw [hd] at g3
      simp only [Bool.and_eq_true, decide_eq_true_eq, List.all_eq_true, List.mem_range, bne_iff_ne] at g3
      refine ⟨o, d, rfl, by simpa using g1, fun e he hb => ?_, hd, g3.1, g3.2⟩
      have := Array.all_eq_true_iff_forall_mem.1 g2 e he
      simpa [hb] using this
theorem dst_injW {ops : Array Oper} {n size : Nat} (h : headOkW ops n size = true) {i j : Nat} (hi : i < n) (hj : j < n) {d : Tmp} (h1 : dstOf ops i = some d) (h2 : dstOf ops j = some d) : i = j := by
  have key : ∀ i j, i < n → j < n → i < j → dstOf ops i = some d → dstOf ops j = some d → False := by
    intro i j hi hj hij h1 h2
    obtain ⟨o, d', ho, _, _, hd, _, hx⟩ := head_atW h hj
    have : d' = d := by
      have h3 : dstOf ops j = some d' := by unfold dstOf; rw [ho]; exact hd
      rw [h3] at h2; injection h2
    subst this
    exact hx i hij h1
  rcases Nat.lt_trichotomy i j with h3 | h3 | h3
  · exact (key i j hi hj h3 h1 h2).elim
  · exact h3
  · exact (key j i hj hi h3 h2 h1).elim
theorem putAll_atW {ops : Array Oper} {n : Nat} {a0 : Act} (h : headOkW ops n a0.tmps.size = true) (vals : Nat → Value) : ∀ k, k ≤ n →
    (putAll ops vals a0 k).defers = a0.defers ∧ (putAll ops vals a0 k).tmps.size = a0.tmps.size ∧ (∀ i d, i < k → dstOf ops i = some d → (putAll ops vals a0 k).tmps[d]? = some (vals i)) ∧
    (∀ t, (∀ i, i < k → dstOf ops i ≠ some t) → (putAll ops vals a0 k).tmps[t]? = a0.tmps[t]?)
  | 0, _ => ⟨rfl, rfl, fun i d hi => by omega, fun _ _ => rfl⟩
  | k + 1, hk => by
    obtain ⟨i1, i2, i3, i4⟩ := putAll_atW h vals k (by omega)
    obtain ⟨o, d, ho, _, _, hd, hs, hx⟩ := head_atW h (show k < n by omega)
    have hdk : dstOf ops k = some d := by unfold dstOf; rw [ho]; exact hd
    have e : putAll ops vals a0 (k + 1) = (putAll ops vals a0 k).put (some d) (vals k) := by
      unfold putAll; rw [List.range_succ, List.foldl_append]; simp only [List.foldl_cons, List.foldl_nil]; rw [hdk]
    rw [e]
    refine ⟨i1, by simp [Act.put, i2], fun i d' hi hd' => ?_, fun t ht => ?_⟩
    · rw [put_at _ _ _ _ (by rw [i2]; exact hs)]
      by_cases e2 : d' = d
      · have : i = k := dst_injW h (by omega) (by omega) (e2 ▸ hd') hdk
        rw [if_pos e2, this]
      · rw [if_neg e2]
        refine i3 i d' ?_ hd'
        have : i ≠ k := by
          rintro rfl
          rw [hdk] at hd'; injection hd' with hd'; exact e2 hd'.symm
        omega
    · rw [put_at _ _ _ _ (by rw [i2]; exact hs), if_neg (by rintro rfl; exact ht k (by omega) hdk)]
      exact i4 t fun i hi => ht i (by omega)
theorem act_eqW {ops : Array Oper} {n : Nat} {a0 a : Act} (h : headOkW ops n a0.tmps.size = true) {listed : Array Bool} {vals : Nat → Value} (hA : ActAt ops n a0 a listed vals) (hl : ∀ i, i < n → listed.getD i false = true) : a = putAll ops vals a0 n := by
  obtain ⟨i1, i2, i3, i4⟩ := putAll_atW h vals n (Nat.le_refl _)
  have e1 : a.tmps = (putAll ops vals a0 n).tmps := by
    refine Array.ext_getElem? fun t => ?_
    by_cases hx : ∃ i, i < n ∧ dstOf ops i = some t
    · obtain ⟨i, hi, hd⟩ := hx
      rw [hA.done i t hi (hl i hi) hd, i3 i t hi hd]
    · have hx' : ∀ i, i < n → dstOf ops i ≠ some t := fun i hi hd => hx ⟨i, hi, hd⟩
      rw [hA.rest t fun i hi _ => hx' i hi, i4 t hx']
  have e2 : a.defers = (putAll ops vals a0 n).defers := by rw [hA.defers, i1]
  cases a; cases hp : putAll ops vals a0 n
  rw [hp] at e1 e2
  simp_all
theorem gen_stepsW {P : Program} {ops : Array Oper} {Q : Exit → Act → World → Prop} {n : Nat} {a0 : Act} (hh : headOkW ops n a0.tmps.size = true) (ht : tailOkW ops n = true) (hn : n ≤ ops.size)
    (G : (Nat → Bool) → (Nat → Value) → World → Prop)
    (step : ∀ i o, i < n → ops[i]? = some o → ∀ listed vals a w, listed.getD i false = false → (∀ e ∈ o.after, Region.binds .any e = true → listed.getD e.on false = true) → G (fun j => listed.getD j false) vals w → ActAt ops n a0 a listed vals →
      ∀ K : Act → World → Prop, (∀ v w', G (fun j => if j = i then true else listed.getD j false) (fun j => if j = i then v else vals j) w' → K (a.put o.dst v) w') → o.wp P a w K Q)
    (tail : ∀ vals w, G (fun j => (maskOf ops.size n).getD j false) vals w → wpAny P .any ops Q (ops.size - n) (maskOf ops.size n) (putAll ops vals a0 n) w) :
    ∀ (m : Nat) (listed : Array Bool) (vals : Nat → Value) (a : Act) (w : World), listed.size = ops.size → (∀ i, n ≤ i → listed.getD i false = false) → (∀ k o, k < n → listed.getD k false = true → ops[k]? = some o → ∀ e ∈ o.after, Region.binds .any e = true → listed.getD e.on false = true) → cnt listed n = m → G (fun j => listed.getD j false) vals w → ActAt ops n a0 a listed vals →
      wpAny P .any ops Q (m + (ops.size - n)) listed a w
  | 0, listed, vals, a, w, hs, hr, hcl, hc, hM, hA => by
    have hl := cnt_zero listed n hc
    have e : listed = maskOf ops.size n := by
      refine Array.ext_getElem? fun i => ?_
      by_cases h1 : i < ops.size
      · have h2 : i < listed.size := by omega
        have h3 : (maskOf ops.size n)[i]? = some (decide (i < n)) := by simp [maskOf, h1]
        rw [h3, Array.getElem?_eq_getElem h2]
        by_cases h4 : i < n
        · have := hl i h4
          rw [Array.getD_eq_getD_getElem?, Array.getElem?_eq_getElem h2] at this
          simpa [h4] using this
        · have := hr i (by omega)
          rw [Array.getD_eq_getD_getElem?, Array.getElem?_eq_getElem h2] at this
          simpa [h4] using this
      · rw [Array.getElem?_eq_none (by omega), Array.getElem?_eq_none (by simp [maskOf]; omega)]
    rw [act_eqW hh hA hl, Nat.zero_add]
    subst e
    exact tail vals w hM
  | m + 1, listed, vals, a, w, hs, hr, hcl, hc, hM, hA => by
    obtain ⟨x, hx, hx1, hx2⟩ := cnt_pos listed n (by omega)
    have hxd : listed.getD x true = false := by
      rw [Array.getD_eq_getD_getElem?] at hx1 ⊢
      rw [Array.getElem?_eq_getElem (by omega)] at hx1 ⊢
      exact hx1
    rw [Nat.add_right_comm]
    refine ⟨fun h0 => ?_, fun i hi' => ?_⟩
    · obtain ⟨o, d, ho, _, he, _⟩ := head_atW hh hx
      have : x ∈ Region.ready .any ops listed := mem_ready.2 ⟨by omega, hxd, o, ho, fun e hm hb => hx2 _ (he e hm hb)⟩
      rw [h0] at this; cases this
    · obtain ⟨hi1, hi2, o, ho, he⟩ := mem_ready.1 hi'
      have hi3 : listed.getD i false = false := by
        rw [Array.getD_eq_getD_getElem?] at hi2 ⊢
        rw [Array.getElem?_eq_getElem (by omega)] at hi2 ⊢
        exact hi2
      have hin : i < n := by
        rcases Nat.lt_or_ge i n with h | h
        · exact h
        · have h1 := List.all_eq_true.1 ht i (List.mem_range.2 hi1)
          simp only [Bool.or_eq_true, decide_eq_true_eq, List.all_eq_true, List.mem_range] at h1
          rcases h1 with h1 | h1 | h1
          · omega
          · exact (waitsTail_no ho hr he h1).elim
          · have := waits_listed hcl (n + 1) i x (fun o2 ho2 => by rw [ho] at ho2; injection ho2 with ho2; subst ho2; exact he) (h1 x hx)
            rw [hx1] at this; cases this
      obtain ⟨o', d, ho', hg, _, hd, hds, _⟩ := head_atW hh hin
      rw [ho] at ho'; injection ho' with ho'; subst ho'
      have hdi : dstOf ops i = some d := by unfold dstOf; rw [ho]; exact hd
      unfold wpOp
      rw [ho]
      show if Region.wanted o (yielded ops a.tmps) = true then _ else _
      rw [if_pos (by simp [Region.wanted, hg])]
      refine .inl (step i o hin ho listed vals a w hi3 he hM hA _ fun v w' hg' => ?_)
      refine gen_stepsW hh ht hn G step tail m _ (fun j => if j = i then v else vals j) _ _ (by simpa using hs) (fun j hj => ?_) (fun k o3 hk hl ho3 e3 he3 hb3 => ?_) ?_ ?_ ?_
      · rw [getD_set _ _ _ (by omega), if_neg (by omega)]; exact hr j hj
      · have key : listed.getD e3.on false = true := by
          rw [getD_set _ _ _ (by omega)] at hl
          by_cases e : k = i
          · subst e
            rw [ho] at ho3; injection ho3 with ho3; subst ho3
            exact he e3 he3 hb3
          · rw [if_neg e] at hl
            exact hcl k o3 hk hl ho3 e3 he3 hb3
        rw [getD_set _ _ _ (by omega)]
        by_cases e : e3.on = i
        · rw [if_pos e]
        · rw [if_neg e]; exact key
      · have := cnt_set listed i (by omega) hi3 n
        rw [if_pos hin] at this; omega
      · have e : (fun j => (listed.setIfInBounds i true).getD j false) = fun j => if j = i then true else listed.getD j false := funext fun j => by rw [getD_set _ _ _ (by omega)]
        rw [e]; exact hg'
      · have hsd : d < a.tmps.size := by rw [hA.size]; exact hds
        refine ⟨by rw [hd]; exact hA.defers, by rw [hd]; simpa [Act.put] using hA.size, fun j d' hj hl hd' => ?_, fun t htt => ?_⟩
        · rw [hd, put_at _ _ _ _ hsd]
          rw [getD_set _ _ _ (by omega)] at hl
          by_cases e : j = i
          · subst e
            rw [hdi] at hd'; injection hd' with hd'
            simp [hd']
          · rw [if_neg e] at hl
            rw [if_neg (by rintro rfl; exact e (dst_injW hh hj hin hd' hdi)), if_neg e]
            exact hA.done j d' hj hl hd'
        · have hti : t ≠ d := by
            rintro rfl
            exact htt i hin (by rw [getD_set _ _ _ (by omega), if_pos rfl]) hdi
          rw [hd, put_at _ _ _ _ hsd, if_neg hti]
          refine hA.rest t fun j hj hl => htt j hj ?_
          rw [getD_set _ _ _ (by omega)]
          by_cases e : j = i
          · rw [if_pos e]
          · rw [if_neg e]; exact hl
theorem wp_genW {P : Program} {id : Nat} {ops : Array Oper} {Q : Exit → Act → World → Prop} {a0 : Act} {W1 : World} (n : Nat) (hm : P.follows .mixedOrders = true) (hh : headOkW ops n a0.tmps.size = true) (ht : tailOkW ops n = true) (hn : n ≤ ops.size)
    (G : (Nat → Bool) → (Nat → Value) → World → Prop) (hG : ∀ vals, G (fun _ => false) vals W1.drew)
    (step : ∀ i o, i < n → ops[i]? = some o → ∀ listed vals a w, listed.getD i false = false → (∀ e ∈ o.after, Region.binds .any e = true → listed.getD e.on false = true) → G (fun j => listed.getD j false) vals w → ActAt ops n a0 a listed vals →
      ∀ K : Act → World → Prop, (∀ v w', G (fun j => if j = i then true else listed.getD j false) (fun j => if j = i then v else vals j) w' → K (a.put o.dst v) w') → o.wp P a w K Q)
    (tail : ∀ vals w, G (fun j => (maskOf ops.size n).getD j false) vals w → wpAny P .any ops Q (ops.size - n) (maskOf ops.size n) (putAll ops vals a0 n) w) : (Code.region id ops true).wp P Q a0 W1 := by
  refine wp_region_any hm ?_
  have hz : ∀ i, (Array.replicate ops.size false).getD i false = false := by
    intro i
    rw [Array.getD_eq_getD_getElem?]
    by_cases h : i < ops.size
    · simp [h]
    · simp [h]
  have hc : ∀ k, cnt (Array.replicate ops.size false) k = k := by
    intro k
    induction k with
    | zero => rfl
    | succ k ih => simp only [cnt, ih, hz]; simp
  have := gen_stepsW (Q := Q) (a0 := a0) hh ht hn G step tail n (Array.replicate ops.size false) (fun _ => undef) a0 W1.drew (by simp) (fun i _ => hz i) (fun k _ _ h => (by rw [hz] at h; cases h)) (hc n)
    (by have e : (fun j => (Array.replicate ops.size false).getD j false) = fun _ => false := funext hz
        rw [e]; exact hG _) ⟨rfl, rfl, fun i _ _ h => (by rw [hz] at h; cases h), fun _ _ => rfl⟩
  rw [show n + (ops.size - n) = ops.size by omega] at this
  exact this
end Go.Proofs.YtfojjecnmfkcfaaGreat
namespace Go.Proofs.YtfojjecnmfkcfaaGreat
open Go.RowKit
set_option linter.unusedVariables false
/-- A row of the call's own, appended to by operation m; the other operations only make memory. -/
structure SF (W : World) (base m e n : Nat) (facts : List (Value → World → Prop)) (v : Value) (k : Nat) (xs xs1 : List Value) (l : Nat → Bool) (vals : Nat → Value) (w : World) : Prop where
  gr : W.grownBy w v.ownBlock
  fact : ∀ i, i < n → i ≠ m → l i = true → FL facts i (vals i) w
  row0 : l m = false → w.ownsRow base 3 1 v k xs
  row1 : l m = true → w.ownsRow base 3 1 (vals m) (k + 1) xs1 ∧ ∃ g cap, vals m = .slice (some ⟨g, 0, none⟩) (k + 1) cap ∧ (v.ownBlock = some g ∨ W.heap.size ≤ g)
  early : l e = true → l 0 = true ∧ l m = true ∧ vals e = vals m
section
variable {W : World} {base m e n : Nat} {facts : List (Value → World → Prop)} {v : Value} {k : Nat} {xs xs1 : List Value} {l : Nat → Bool} {vals : Nat → Value} {w w' : World}
theorem SF.simple (h : SF W base m e n facts v k xs xs1 l vals w) (hs : ∀ p ∈ facts, StbO v.ownBlock p) {i : Nat} (hi : i ≠ m) (hi2 : i ≠ e) {x : Value} (hb : Below w.heap.size w w') (hf : FL facts i x w') :
    SF W base m e n facts v k xs xs1 (fun j => if j = i then true else l j) (fun j => if j = i then x else vals j) w' := by
  refine ⟨grownBy_trans h.gr (below_grown _ hb), fun j hj hjm hl => ?_, fun hl => ?_, fun hl => ?_, fun hl => ?_⟩
  · by_cases e2 : j = i
    · subst e2; simpa using hf
    · simp only [if_neg e2] at hl ⊢
      exact FL.keepO hs j _ _ _ (h.fact j hj hjm hl) (below_grown _ hb)
  · simp only [if_neg (Ne.symm hi)] at hl
    exact own_keep (h.row0 hl) hb
  · simp only [if_neg (Ne.symm hi)] at hl ⊢
    exact ⟨own_keep (h.row1 hl).1 hb, (h.row1 hl).2⟩
  · simp only [if_neg (Ne.symm hi), if_neg (Ne.symm hi2)] at hl ⊢
    obtain ⟨h1, h2, h3⟩ := h.early hl
    exact ⟨by split <;> simp_all, h2, h3⟩
theorem SF.app (h : SF W base m e n facts v k xs xs1 l vals w) (hs : ∀ p ∈ facts, StbO v.ownBlock p) (hme : m ≠ e) (hl0 : l m = false) {g cap : Nat} (hown : w'.ownsRow base 3 1 (.slice (some ⟨g, 0, none⟩) (k + 1) cap) (k + 1) xs1) (hg : w.grownBy w' v.ownBlock) (hat : v.ownBlock = some g ∨ g = w.heap.size) :
    SF W base m e n facts v k xs xs1 (fun j => if j = m then true else l j) (fun j => if j = m then (.slice (some ⟨g, 0, none⟩) (k + 1) cap) else vals j) w' := by
  refine ⟨grownBy_trans h.gr hg, fun j hj hjm hl => ?_, fun hl => by simp at hl, fun hl => ?_, fun hl => ?_⟩
  · simp only [if_neg hjm] at hl ⊢
    exact FL.keepO hs j _ _ _ (h.fact j hj hjm hl) hg
  · simp only [if_pos]
    refine ⟨hown, g, cap, rfl, ?_⟩
    rcases hat with hat | hat
    · exact .inl hat
    · exact .inr (by rw [hat]; exact h.gr.size)
  · simp only [if_neg (Ne.symm hme)] at hl
    rw [(h.early hl).2.1] at hl0; cases hl0
theorem SF.early_ (h : SF W base m e n facts v k xs xs1 l vals w) (hme : m ≠ e) (h0 : l 0 = true) (h1 : l m = true) (hf : FL facts e (vals m) w) :
    SF W base m e n facts v k xs xs1 (fun j => if j = e then true else l j) (fun j => if j = e then vals m else vals j) w := by
  refine ⟨h.gr, fun j hj hjm hl => ?_, fun hl => ?_, fun hl => ?_, fun hl => ?_⟩
  · by_cases e2 : j = e
    · subst e2; simpa using hf
    · simp only [if_neg e2] at hl ⊢
      exact h.fact j hj hjm hl
  · simp only [if_neg hme] at hl
    rw [h1] at hl; cases hl
  · simp only [if_neg hme] at hl ⊢
    exact h.row1 hl
  · exact ⟨by simp [h0], by simp [h1], by simp⟩
theorem SF.late_no (h : SF W base m e n facts v k xs xs1 l vals w) (h0 : l 0 = false) : l e = false := by
  cases he : l e
  · rfl
  · rw [(h.early he).1] at h0; cases h0
end
theorem ActAt.slotE {ops : Array Oper} {n : Nat} {a0 a : Act} {listed : Array Bool} {vals : Nat → Value} (hA : ActAt ops n a0 a listed vals) (t e : Nat) {v : Value} (h : ((List.range n).all fun i => i == e || dstOf ops i != some t) = true) (he : listed.getD e false = false) (hv : a0.tmps[t]? = some v) : a.tmps[t]? = some v ∧ a.tmps.getD t undef = v := by
  have e : a.tmps[t]? = some v := (hA.rest t fun i hi hl => by
    have := List.all_eq_true.1 h i (List.mem_range.2 hi)
    by_cases h2 : i = e
    · subst h2; rw [he] at hl; cases hl
    · simpa [h2] using this).trans hv
  exact ⟨e, by rw [Array.getD_eq_getD_getElem?, e]; rfl⟩
set_option maxRecDepth 100000 in
set_option maxHeartbeats 8000000 in
theorem rLate_any (A B : Option Addr) (c dc : Nat) (cs ps : List (Int × Int)) (g l day : Int) (w : World) (hA : Rd w w.heap.size A (pairs cs)) (hB : Rd w w.heap.size B (pairs ps)) (hl : cs.length ≤ 1000) (hl2 : ps.length ≤ 1000) :
    Calls Tryz.prog 43 #[.agg #[.slice A cs.length c, .slice B ps.length dc, .int .i64 g, .int .i64 l], .int .i64 day] w (RetRd (lateL cs ps g l day) (lateCost cs ps g l day) (datedCode cs ps g l day) w) := by
  obtain ⟨i0, ihi, ihz0, ihz1, ihz2⟩ := info_parts infoIntP
  have HC := fun w1 (hb : Below w.heap.size w w1) => Lib.hid (rDated_any A B c dc cs ps g l day w1 (hA.next hb) (hB.next hb) hl hl2)
  by_cases h0 : datedCode cs ps g l day = 0
  · obtain ⟨ho, hd1, hd2⟩ := datedCode_ok h0
    have HJ := fun w1 (i : Nat) (hb : Below w.heap.size w w1) (hi : i < cs.length) => Lib.hid (rLate1_any A B c dc cs ps g l day i w1 (hA.next hb) (hB.next hb) ho hi (by omega) (by omega))
    have e1 : lateL cs ps g l day = lateK cs ps g day cs.length := by unfold lateL; rw [if_pos h0]
    have e2 : lateCost cs ps g l day = lateC cs ps g l day cs.length := by unfold lateCost; rw [if_pos h0]
    rw [e1, e2, h0]
    rw [h0] at HC
    have hcl := ho.clen
    have hca := ho.call
    obtain ⟨l1, l2⟩ := ho.late
    have HCB := Lib.hid (lateC_bd hca l1 l2 ps g day)
    have HCA := Lib.hid hca
    clear h0 e1 e2 ho hca
    go_enter Tryz.func43, Tryz.ntmps43
    go_wp2_with fail
    refine (HC _ (by go_grown)).out.mono ?_
    rintro e w1 ⟨rfl, hb1⟩
    have hbw : Below w.heap.size w w1 := Below.trans (by go_grown) (hb1.mono (by simp))
    have d0 := hb1.at_ (by simp) (news_new w [.slice A cs.length c, .slice B ps.length dc, .int .i64 g, .int .i64 l] 85 rfl 0 _ rfl)
    have d1 := hb1.at_ (by simp) (news_new w [.slice A cs.length c, .slice B ps.length dc, .int .i64 g, .int .i64 l] 85 rfl 1 _ rfl)
    have d2 := hb1.at_ (by simp) (news_new w [.slice A cs.length c, .slice B ps.length dc, .int .i64 g, .int .i64 l] 85 rfl 2 _ rfl)
    have d3 := hb1.at_ (by simp) (news_new w [.slice A cs.length c, .slice B ps.length dc, .int .i64 g, .int .i64 l] 85 rfl 3 _ rfl)
    have hz := hb1.size
    simp at hz d0 d1 d2 d3
    have DD : Hid (w1.cell? ⟨w.heap.size, 0, none⟩ = some (.slice A cs.length c) ∧ w1.cell? ⟨w.heap.size, 1, none⟩ = some (.slice B ps.length dc) ∧ w1.cell? ⟨w.heap.size, 2, none⟩ = some (.int .i64 g) ∧ w1.cell? ⟨w.heap.size, 3, none⟩ = some (.int .i64 l)) := ⟨d0, d1, d2, d3⟩
    have hzw : w.heap.size < w1.heap.size := by omega
    clear hb1 d0 d1 d2 d3 hz
    go_wp2_with fail
    go_loopw [8, 9, 10] (fun v cv iv wr => ∃ (k : Nat) (v0 : Value), v0 = v ∧ k ≤ cs.length ∧ iv = .int .i64 k ∧ cv = .int .i64 (lateC cs ps g l day k) ∧ Hid (wr.ownsRow w1.heap.size 3 1 v0 (lateK cs ps g day k).length (ints (lateK cs ps g day k))) ∧ Hid (Below w1.heap.size w1 wr)) (fun _ _ iv _ => cs.length - (intOf iv).toNat)
    case atStart => exact ⟨0, _, rfl, Nat.zero_le _, rfl, rfl, World.ownsRow_nil _ _ _ _, Below.refl _ _⟩
    case round =>
      obtain ⟨k, v0, hv0, hk, rfl, rfl, HOW, HB⟩ := hrel
      subst hv0
      have hbwr : Below w.heap.size w wr := hbw.trans (HB.out.mono hbw.size)
      obtain ⟨d0, d1, d2, d3⟩ := DD.out
      have d0 := HB.out.at_ hzw d0
      have d1 := HB.out.at_ hzw d1
      have d2 := HB.out.at_ hzw d2
      have d3 := HB.out.at_ hzw d3
      have hzr : w.heap.size < wr.heap.size := Nat.lt_of_lt_of_le hzw HB.out.size
      have hcb := HCB.out k hk
      by_cases hlt : k < cs.length
      · have J := HJ wr k hbwr hlt
        have hkz : (k : Int) < cs.length := by omega
        have hk0 : (0 : Int) ≤ (k : Int) := by omega
        have hgd := getD_fst hlt
        have hLK := lateK_succ cs ps g day k
        have hLC := lateC_succ cs ps g l day k
        have hln := lateK_len cs ps g day k
        rw [hgd] at hLC
        cases h1 : lateB cs ps g day k
        · rw [h1] at J hLK hLC
          have HLK : Hid (lateK cs ps g day (k + 1) = lateK cs ps g day k) := by rw [hLK]; exact List.append_nil _
          have HLC : Hid (lateC cs ps g l day (k + 1) = lateC cs ps g l day k) := by rw [hLC]; exact Int.add_zero _
          clear h1 hLK hLC hgd
          generalize lateC cs ps g l day k = C at *
          go_wp2_with fail
          refine J.out.mono ?_
          rintro e wq ⟨rfl, hbq⟩
          have HOQ := Lib.hid (own_keep HOW.out hbq)
          have HBQ := Lib.hid (HB.out.trans (hbq.mono HB.out.size))
          clear hbq J d0 d1 d2 d3
          go_wp2_with fail
          go_roundw
          case rel => exact ⟨k + 1, _, rfl, by omega, by go_num, by rw [HLC.out], by rw [HLK.out]; exact HOQ, HBQ⟩
          case measure => simp [intOf]; omega
        · rw [h1] at J hLK hLC
          simp only [↓reduceIte] at hLK hLC
          have HLK : Hid ((lateK cs ps g day (k + 1)).length = (lateK cs ps g day k).length + 1 ∧ ints (lateK cs ps g day (k + 1)) = ints (lateK cs ps g day k) ++ [.int .i64 k]) := by
            rw [hLK]
            exact ⟨by simp, by simp [ints]⟩
          obtain ⟨ba, oa, rfl, hba, e1, e2⟩ := hA.pair hlt
          have hbl := (hA.pair hlt)
          obtain ⟨q1, q2, q3, q4⟩ := HCA.out cs[k] (List.getElem_mem _)
          obtain ⟨q, hq⟩ : ∃ q, cs[k].2 = q := ⟨_, rfl⟩
          rw [hq] at hLC q3 q4 e2
          have hm1 : 0 ≤ q * l := Int.mul_nonneg (by omega) l1
          have hm2 : q * l ≤ 10000 * 100 := Int.mul_le_mul q4 l2 l1 (by omega)
          obtain ⟨z, hz⟩ : ∃ z, q * l = z := ⟨_, rfl⟩
          have wz : IntKind.i64.wrap (q * l) = z := by rw [hz]; exact IntWalk.i64_in _ (by omega)
          rw [hz] at hLC hm1 hm2
          have hu := upF100_eq z hm1
          rw [← hu] at hLC
          have zz0 := hm1
          have zz1 : z ≤ 1000000000000 := by omega
          have hu2 : 0 ≤ upF100 z ∧ upF100 z ≤ 10001 := by omega
          have HC2 := Lib.hid hLC
          obtain ⟨m, hm⟩ : ∃ m, (lateK cs ps g day k).length = m := ⟨_, rfl⟩
          obtain ⟨xs, hxs⟩ : ∃ xs, ints (lateK cs ps g day k) = xs := ⟨_, rfl⟩
          rw [hm, hxs] at HOW HLK
          rw [hm] at hln
          clear h1 hLK hLC hgd hm hxs hu hq hbl hz
          generalize lateC cs ps g l day k = C at *
          have wC : IntKind.i64.wrap (C + upF100 z) = C + upF100 z := IntWalk.i64_in _ (by omega)
          go_wp2_with fail
          refine J.out.mono ?_
          rintro e Wd ⟨rfl, hbq⟩
          have d0 := hbq.at_ hzr d0
          have d3 := hbq.at_ hzr d3
          have e2 := (hbwr.trans (hbq.mono hbwr.size)).at_ hba e2
          have hzq : w.heap.size < Wd.heap.size := Nat.lt_of_lt_of_le hzr hbq.size
          have HFd := Lib.hid (own_keep HOW.out hbq)
          have HBd := Lib.hid (HB.out.trans (hbq.mono HB.out.size))
          clear hbq J d1 d2 HOW HB e1
          go_wp2_with fail
          go_upto_region 17 with fail
          have hbs := HBd.out.size
          have HCELL : Hid (∀ w5, Wd.grownBy w5 v0.ownBlock → w5.cell? ⟨w.heap.size, 0, none⟩ = some (.slice (some ⟨ba, oa, none⟩) cs.length c) ∧ w5.cell? ⟨w.heap.size, 3, none⟩ = some (.int .i64 l) ∧ w5.cell? ⟨ba, oa + k * 2 + 1, none⟩ = some (.int .i64 q) ∧ w.heap.size < w5.heap.size ∧ ba < w5.heap.size) := by
            show ∀ w5, _ → _
            intro w5 hg
            have hne : ∀ b, b < w1.heap.size → v0.ownBlock ≠ some b := fun b hb e => by have := (HFd.out.lt b e).1; omega
            have k1 := hg.block w.heap.size (by omega) (fun e => hne _ hzw e.symm)
            have k2 := hg.block ba (by omega) (fun e => hne _ (by omega) e.symm)
            have hs := hg.size
            exact ⟨(World.cell?_of_block (a := ⟨w.heap.size, 0, none⟩) k1).trans d0, (World.cell?_of_block (a := ⟨w.heap.size, 3, none⟩) k1).trans d3, (World.cell?_of_block (a := ⟨ba, oa + k * 2 + 1, none⟩) k2).trans e2, by omega, by omega⟩
          clear d0 d3 e2
          have hS : ∀ r ∈ [PEq v0, PEq (.int .i64 k), PRow Wd.heap.size [.int .i64 k], (fun _ _ => True), PEq (.int .i64 C), PEq (.pointer (some ⟨w.heap.size, 0, none⟩)), PEq (.slice (some ⟨ba, oa, none⟩) cs.length c), PEq (.int .i64 k), PEq (.pointer (some ⟨ba, oa + k * 2, none⟩)), PEq (.pointer (some ⟨ba, oa + k * 2 + 1, none⟩)), PEq (.int .i64 q), PEq (.pointer (some ⟨w.heap.size, 3, none⟩)), PEq (.int .i64 l), PEq (.int .i64 z), PEq (.int .i64 (upF100 z)), PEq (.int .i64 (C + upF100 z)), (fun _ _ => True)], StbO v0.ownBlock r := by
            have hg : ∀ b, v0.ownBlock = some b → b < Wd.heap.size := fun b h => (HFd.out.lt b h).2
            intro r hr
            simp only [List.mem_cons, List.not_mem_nil, or_false] at hr
            rcases hr with rfl | rfl | rfl | rfl | rfl | rfl | rfl | rfl | rfl | rfl | rfl | rfl | rfl | rfl | rfl | rfl | rfl
            all_goals first | exact stbO_eq _ _ | exact stbO_row hg _ | exact fun _ _ _ _ _ => trivial
          refine wp_genW 17 (by kernel_rfl) (by kernel_rfl) (by kernel_rfl) (by decide) (SF Wd w1.heap.size 3 16 17 [PEq v0, PEq (.int .i64 k), PRow Wd.heap.size [.int .i64 k], (fun _ _ => True), PEq (.int .i64 C), PEq (.pointer (some ⟨w.heap.size, 0, none⟩)), PEq (.slice (some ⟨ba, oa, none⟩) cs.length c), PEq (.int .i64 k), PEq (.pointer (some ⟨ba, oa + k * 2, none⟩)), PEq (.pointer (some ⟨ba, oa + k * 2 + 1, none⟩)), PEq (.int .i64 q), PEq (.pointer (some ⟨w.heap.size, 3, none⟩)), PEq (.int .i64 l), PEq (.int .i64 z), PEq (.int .i64 (upF100 z)), PEq (.int .i64 (C + upF100 z)), (fun _ _ => True)] v0 m xs (xs ++ [.int .i64 k])) (fun vals => ⟨grownBy_drew (grownBy_self _ _), fun i _ _ h => (by cases h), fun _ => HFd.out.drew, fun h => (by cases h), fun h => (by cases h)⟩) ?_ ?_
          · intro i o hi' ho listed vals a w5 hl hdep hM hAt K hK
            match i, hi' with
            | 0, _ =>
              injection ho with ho
              subst ho
              obtain ⟨e8, e8'⟩ := hAt.slotE 8 16 (by kernel_rfl) (hM.late_no hl) (by rfl)
              go_simp
              exact hK _ w5 (hM.simple hS (by decide) (by decide) (Below.refl _ _) rfl)
            | 1, _ =>
              injection ho with ho
              subst ho
              obtain ⟨e10, e10'⟩ := hAt.slot 10 (by kernel_rfl) (by rfl)
              go_simp
              exact hK _ w5 (hM.simple hS (by decide) (by decide) (Below.refl _ _) rfl)
            | 2, _ =>
              injection ho with ho
              subst ho
              have l1 := hdep ⟨1, .data⟩ (by simp) rfl
              obtain ⟨x1, x1'⟩ := hAt.dep 1 (d := 29) (by omega) l1 (by rfl) (hM.fact 1 (by omega) (by decide) l1)
              go_simp
              exact hK _ _ (hM.simple hS (by decide) (by decide) (below_new _ _) ⟨w5.heap.size, rfl, hM.gr.size, by simp, news_new w5 [.int .i64 k] _ rfl⟩)
            | 3, _ =>
              injection ho with ho
              subst ho
              have l0 := hdep ⟨0, .data⟩ (by simp) rfl
              have l2 := hdep ⟨2, .data⟩ (by simp) rfl
              obtain ⟨x0, x0'⟩ := hAt.dep 0 (d := 28) (by omega) l0 (by rfl) (hM.fact 0 (by omega) (by decide) l0)
              obtain ⟨k9, f2, g2, z2, h2⟩ := hM.fact 2 (by omega) (by decide) l2
              obtain ⟨x2, x2'⟩ := hAt.dep 2 (d := 30) (by omega) l2 (by rfl) f2
              refine wp_append_lies w5 _ _ _ rfl w1.heap.size 3 i0 _ 1 8 Tryz.underlying22 ihi ihz0 ihz1 ihz2 rfl (by decide) _ m _ x0' (hM.row0 hl) ⟨k9, 0, none⟩ 1 1 [.int .i64 k] x2' rfl h2 (by simp [Value.oneCell']) (by omega) (by simp only [maxLen]; omega) (by omega) (by have := hM.gr.size; omega) _ rfl ?_
              intro g cap w8 hown1 hgrow1 hat hlt8
              exact hK _ _ (hM.app hS (by decide) hl hown1 hgrow1 hat)
            | 4, _ =>
              injection ho with ho
              subst ho
              obtain ⟨e9, e9'⟩ := hAt.slot 9 (by kernel_rfl) (by rfl)
              go_simp
              exact hK _ w5 (hM.simple hS (by decide) (by decide) (Below.refl _ _) rfl)
            | 5, _ =>
              injection ho with ho
              subst ho
              obtain ⟨e2, e2'⟩ := hAt.slot 2 (by kernel_rfl) (by rfl)
              go_simp
              exact hK _ w5 (hM.simple hS (by decide) (by decide) (Below.refl _ _) rfl)
            | 6, _ =>
              injection ho with ho
              subst ho
              have l5 := hdep ⟨5, .data⟩ (by simp) rfl
              obtain ⟨x5, x5'⟩ := hAt.dep 5 (d := 33) (by omega) l5 (by rfl) (hM.fact 5 (by omega) (by decide) l5)
              obtain ⟨c0, c3, c1, zw, zb⟩ := HCELL.out w5 hM.gr
              go_simp
              exact hK _ w5 (hM.simple hS (by decide) (by decide) (Below.refl _ _) rfl)
            | 7, _ =>
              injection ho with ho
              subst ho
              obtain ⟨e10, e10'⟩ := hAt.slot 10 (by kernel_rfl) (by rfl)
              go_simp
              exact hK _ w5 (hM.simple hS (by decide) (by decide) (Below.refl _ _) rfl)
            | 8, _ =>
              injection ho with ho
              subst ho
              have l6 := hdep ⟨6, .data⟩ (by simp) rfl
              obtain ⟨x6, x6'⟩ := hAt.dep 6 (d := 34) (by omega) l6 (by rfl) (hM.fact 6 (by omega) (by decide) l6)
              have l7 := hdep ⟨7, .data⟩ (by simp) rfl
              obtain ⟨x7, x7'⟩ := hAt.dep 7 (d := 35) (by omega) l7 (by rfl) (hM.fact 7 (by omega) (by decide) l7)
              obtain ⟨c0, c3, c1, zw, zb⟩ := HCELL.out w5 hM.gr
              go_simp
              exact hK _ w5 (hM.simple hS (by decide) (by decide) (Below.refl _ _) rfl)
            | 9, _ =>
              injection ho with ho
              subst ho
              have l8 := hdep ⟨8, .data⟩ (by simp) rfl
              obtain ⟨x8, x8'⟩ := hAt.dep 8 (d := 36) (by omega) l8 (by rfl) (hM.fact 8 (by omega) (by decide) l8)
              go_simp
              exact hK _ w5 (hM.simple hS (by decide) (by decide) (Below.refl _ _) rfl)
            | 10, _ =>
              injection ho with ho
              subst ho
              have l9 := hdep ⟨9, .data⟩ (by simp) rfl
              obtain ⟨x9, x9'⟩ := hAt.dep 9 (d := 37) (by omega) l9 (by rfl) (hM.fact 9 (by omega) (by decide) l9)
              obtain ⟨c0, c3, c1, zw, zb⟩ := HCELL.out w5 hM.gr
              go_simp
              exact hK _ w5 (hM.simple hS (by decide) (by decide) (Below.refl _ _) rfl)
            | 11, _ =>
              injection ho with ho
              subst ho
              obtain ⟨e2, e2'⟩ := hAt.slot 2 (by kernel_rfl) (by rfl)
              go_simp
              exact hK _ w5 (hM.simple hS (by decide) (by decide) (Below.refl _ _) rfl)
            | 12, _ =>
              injection ho with ho
              subst ho
              have l11 := hdep ⟨11, .data⟩ (by simp) rfl
              obtain ⟨x11, x11'⟩ := hAt.dep 11 (d := 39) (by omega) l11 (by rfl) (hM.fact 11 (by omega) (by decide) l11)
              obtain ⟨c0, c3, c1, zw, zb⟩ := HCELL.out w5 hM.gr
              go_simp
              exact hK _ w5 (hM.simple hS (by decide) (by decide) (Below.refl _ _) rfl)
            | 13, _ =>
              injection ho with ho
              subst ho
              have l10 := hdep ⟨10, .data⟩ (by simp) rfl
              obtain ⟨x10, x10'⟩ := hAt.dep 10 (d := 38) (by omega) l10 (by rfl) (hM.fact 10 (by omega) (by decide) l10)
              have l12 := hdep ⟨12, .data⟩ (by simp) rfl
              obtain ⟨x12, x12'⟩ := hAt.dep 12 (d := 40) (by omega) l12 (by rfl) (hM.fact 12 (by omega) (by decide) l12)
              go_simp
              exact hK _ w5 (hM.simple hS (by decide) (by decide) (Below.refl _ _) rfl)
            | 14, _ =>
              injection ho with ho
              subst ho
              have l13 := hdep ⟨13, .data⟩ (by simp) rfl
              obtain ⟨x13, x13'⟩ := hAt.dep 13 (d := 41) (by omega) l13 (by rfl) (hM.fact 13 (by omega) (by decide) l13)
              go_simp
              refine (up_any z w5 zz0 zz1).mono ?_
              rintro e w6 ⟨rfl, rfl⟩
              exact hK _ w5 (hM.simple hS (by decide) (by decide) (Below.refl _ _) rfl)
            | 15, _ =>
              injection ho with ho
              subst ho
              have l4 := hdep ⟨4, .data⟩ (by simp) rfl
              obtain ⟨x4, x4'⟩ := hAt.dep 4 (d := 32) (by omega) l4 (by rfl) (hM.fact 4 (by omega) (by decide) l4)
              have l14 := hdep ⟨14, .data⟩ (by simp) rfl
              obtain ⟨x14, x14'⟩ := hAt.dep 14 (d := 42) (by omega) l14 (by rfl) (hM.fact 14 (by omega) (by decide) l14)
              go_simp
              exact hK _ w5 (hM.simple hS (by decide) (by decide) (Below.refl _ _) rfl)
            | 16, _ =>
              injection ho with ho
              subst ho
              have l0 := hdep ⟨0, .phase⟩ (by simp) rfl
              have l3 := hdep ⟨3, .data⟩ (by simp) rfl
              obtain ⟨_, g5, cap5, f3, hat5⟩ := hM.row1 l3
              obtain ⟨x3, x3'⟩ := hAt.dep 3 (d := 31) (by omega) l3 (by rfl) f3
              go_simp
              rw [← f3]
              exact hK _ _ (hM.early_ (by decide) l0 l3 trivial)
            | _ + 17, hi' => exact absurd hi' (by omega)
          · intro vals w5 hM
            have f15 : vals 15 = .int .i64 (C + upF100 z) := hM.fact 15 (by omega) (by decide) (by rfl)
            obtain ⟨hown5, g5, cap5, f3, hat5⟩ := hM.row1 (by rfl)
            rw [f3] at hown5
            have f16 : vals 16 = .slice (some ⟨g5, 0, none⟩) (m + 1) cap5 := (hM.early (by rfl)).2.2.trans f3
            have HF5 := Lib.hid hown5
            have HG5 := Lib.hid hM.gr
            clear hM hown5 hat5
            simp only [putAll, List.range, List.range.loop, List.foldl_cons, List.foldl_nil, f3, f15, f16]
            clear f3 f15 f16
            change wpAny _ _ _ _ _ _ (Act.put (Act.put (Act.put (Act.put (Act.put (Act.put (Act.put (Act.put (Act.put (Act.put (Act.put (Act.put (Act.put (Act.put (Act.put (Act.put (Act.put _ (some 28) _) (some 29) _) (some 30) _) (some 31) _) (some 32) _) (some 33) _) (some 34) _) (some 35) _) (some 36) _) (some 37) _) (some 38) _) (some 39) _) (some 40) _) (some 41) _) (some 42) _) (some 43) _) (some 8) _) _
            simp only [Act.put, List.setIfInBounds_toArray, List.set_cons_zero, List.set_cons_succ]
            have HB8 : Hid (Below w1.heap.size w1 w5) := HBd.out.grown HG5.out HBd.out.size (fun q hq => (HFd.out.lt q hq).1)
            refine tail_step 17 _ (by kernel_rfl) rfl rfl (fun K' hK => ?_)
            go_simp
            refine hK _ _ ?_
            clear hK K'
            refine wpAny_done (by kernel_rfl) ?_ _
            go_wp2_with fail
            go_roundw
            case rel => exact ⟨k + 1, _, rfl, by omega, by go_num, by rw [HC2.out], by show World.ownsRow _ _ _ _ _ _ _; rw [HLK.out.1, HLK.out.2]; exact HF5.out, HB8⟩
            case measure => simp [intOf]; omega
      · obtain rfl : k = cs.length := by omega
        clear hlt
        obtain ⟨A', c', rfl, hcap, hrA⟩ := own_slice HOW.out
        go_wp2_with fail
        go_ret3
        exact ⟨_, _, rfl, hrA, hbwr⟩
  · have e1 : lateL cs ps g l day = [] := by unfold lateL; rw [if_neg h0]
    have e2 : lateCost cs ps g l day = 0 := by unfold lateCost; rw [if_neg h0]
    rw [e1, e2]
    have h0' : (datedCode cs ps g l day != 0) = true := by rw [bne_iff_ne]; exact h0
    clear h0 e1 e2
    go_enter Tryz.func43, Tryz.ntmps43
    go_wp2_with fail
    refine (HC _ (by go_grown)).out.mono ?_
    rintro e w1 ⟨rfl, hb1⟩
    have hbw : Below w.heap.size w w1 := Below.trans (by go_grown) (hb1.mono (by simp))
    go_wp2_with fail
    go_ret3
    exact ⟨_, _, rfl, Rd.nil, hbw⟩
end Go.Proofs.YtfojjecnmfkcfaaGreat
namespace Go.Proofs.YtfojjecnmfkcfaaGreat
open Go.RowKit
set_option linter.unusedVariables false
/-- What stands for charge i when all days from x on were looked at. -/
def outD (cs ps : List (Int × Int)) (x : Int) (i : Nat) : Int := if x ≤ 400 ∧ paidAt cs ps i ≠ -1 then max x (paidAt cs ps i) else -1
theorem payDay_max {ps : List (Int × Int)} {all x M : Int} (hx : x ≤ M) : ∀ t : List (Int × Int), (∀ e ∈ t, e.1 ≤ M) → payDay ps all x t ≤ M ∨ payDay ps all x t = -1
  | [], _ => .inr rfl
  | a :: t, h => by
    have h1 := h a List.mem_cons_self
    simp only [payDay]
    split
    · exact .inl (by omega)
    · exact payDay_max hx t fun e he => h e (List.mem_cons_of_mem _ he)
theorem outD_at {cs ps : List (Int × Int)} {g l : Int} (ho : AccOk cs ps g l) {i : Nat} (hi : i < cs.length) {x : Int} (h0 : 0 ≤ x) (h4 : x ≤ 400) :
    outD cs ps x i = if cs[i].1 ≤ x ∧ restOf cs x (uptoF ps x) i = 0 then x else outD cs ps (x + 1) i := by
  have hp2 : ∀ e ∈ ps, 0 ≤ e.2 := fun e he => by have := ho.pall e he; omega
  have hc2 : ∀ e ∈ cs, 0 ≤ e.1 ∧ 1 ≤ e.2 := fun e he => by have := ho.call e he; omega
  have hx := ho.call cs[i] (List.getElem_mem _)
  have hmx : paidAt cs ps i ≤ 400 ∨ paidAt cs ps i = -1 := by
    rw [paidAt_eq hi]
    exact payDay_max hx.2.1 _ fun e he => (ho.pall e he).2.1
  have hge := paidAt_ge (cs := cs) (up_of ho.prise) hi
  have hr0 := restOf_bd (day := x) (uptoF_nonneg (l := ps) hp2 x) ho.call i
  by_cases hd : cs[i].1 ≤ x
  · have h1 := paidAt_le hc2 (up_of ho.prise) hp2 hi hd
    have h2 := rest_pos ho hi hd
    by_cases h3 : restOf cs x (uptoF ps x) i = 0
    · rw [if_pos ⟨hd, h3⟩]
      have h4' : paidAt cs ps i ≠ -1 ∧ paidAt cs ps i ≤ x := h1.2 (by omega)
      unfold outD
      rw [if_pos ⟨h4, h4'.1⟩]
      omega
    · rw [if_neg fun h => h3 h.2]
      have h5 : ¬ (paidAt cs ps i ≠ -1 ∧ paidAt cs ps i ≤ x) := fun h => by have := h1.1 h; omega
      unfold outD
      by_cases h6 : paidAt cs ps i = -1
      · rw [if_neg fun h => h.2 h6, if_neg fun h => h.2 h6]
      · have h7 : x < paidAt cs ps i := by
          by_cases h8 : x < paidAt cs ps i
          · exact h8
          · exact absurd ⟨h6, by omega⟩ h5
        rw [if_pos ⟨h4, h6⟩, if_pos ⟨by omega, h6⟩]
        omega
  · rw [if_neg fun h => hd h.1]
    unfold outD
    by_cases h6 : paidAt cs ps i = -1
    · rw [if_neg fun h => h.2 h6, if_neg fun h => h.2 h6]
    · have h7 := hge h6
      rw [if_pos ⟨h4, h6⟩, if_pos ⟨by omega, h6⟩]
      omega
theorem outD_first (cs ps : List (Int × Int)) (n : Nat) : List.replicate n (-1 : Int) = (List.range n).map (outD cs ps (400 + 1)) := by
  refine List.ext_getElem? fun i => ?_
  rw [List.getElem?_replicate, List.getElem?_map]
  by_cases h : i < n
  · rw [if_pos h, List.getElem?_range h]
    show _ = some (outD cs ps (400 + 1) i)
    unfold outD
    rw [if_neg fun h => by omega]
  · rw [if_neg h, List.getElem?_eq_none (by simp; omega)]; rfl
theorem outD_last {cs ps : List (Int × Int)} {g l : Int} (ho : AccOk cs ps g l) : (List.range cs.length).map (outD cs ps 0) = paidL cs ps := by
  unfold paidL paidK
  refine List.map_congr_left fun i hi => ?_
  have hi := List.mem_range.1 hi
  have hx := ho.call cs[i] (List.getElem_mem _)
  have hge := paidAt_ge (cs := cs) (up_of ho.prise) hi
  unfold outD
  by_cases h6 : paidAt cs ps i = -1
  · rw [if_neg fun h => h.2 h6, h6]
  · have := hge h6
    rw [if_pos ⟨by omega, h6⟩]
    omega
set_option maxRecDepth 100000 in
set_option maxHeartbeats 8000000 in
theorem rPaid_any (A B : Option Addr) (c dc : Nat) (cs ps : List (Int × Int)) (g l : Int) (w : World) (hA : Rd w w.heap.size A (pairs cs)) (hB : Rd w w.heap.size B (pairs ps)) (hl : cs.length ≤ 1000) (hl2 : ps.length ≤ 1000) :
    Calls Tryz.prog 37 #[.agg #[.slice A cs.length c, .slice B ps.length dc, .int .i64 g, .int .i64 l]] w (RetRL (paidR cs ps g l) (ckAcc cs ps g l) w) := by
  obtain ⟨i0, ihi, ihz0, ihz1, ihz2⟩ := info_parts infoIntP
  have HC := fun w1 (hb : Below w.heap.size w w1) => Lib.hid (rCheckAcc_any A B c dc cs ps g l w1 (hA.next hb) (hB.next hb) hl hl2)
  by_cases h0 : ckAcc cs ps g l = 0
  · have ho := ckAcc_ok h0
    have HS := fun w1 day (hb : Below w.heap.size w w1) (d0 : 0 ≤ day) (d1 : day ≤ 500) => Lib.hid (rState_any A B c dc cs ps g l day w1 (hA.next hb) (hB.next hb) ho d0 d1)
    have HOD := fun (i : Nat) (hi : i < cs.length) (x : Int) (h0 : 0 ≤ x) (h4 : x ≤ 400) => Lib.hid (outD_at ho hi h0 h4)
    have HLA := Lib.hid (outD_last ho)
    have HFI := Lib.hid (outD_first cs ps cs.length)
    have e1 : paidR cs ps g l = paidL cs ps := by unfold paidR; rw [if_pos h0]
    have HPLEN : Hid ((paidL cs ps).length = cs.length) := by show _ = _; unfold paidL; exact paidK_length _ _ _
    rw [e1, h0]
    rw [h0] at HC
    have hcl := ho.clen
    have HRB := fun d => Lib.hid (restOf_bd (day := d) (uptoF_nonneg (l := ps) (fun e he => by have := ho.pall e he; omega) d) ho.call)
    have HCA := Lib.hid ho.call
    clear h0 e1 ho
    go_enter Tryz.func37, Tryz.ntmps37
    go_wp2_with fail
    refine (HC _ (by go_grown)).out.mono ?_
    rintro e w1 ⟨rfl, hb1⟩
    have hbw : Below w.heap.size w w1 := Below.trans (by go_grown) (hb1.mono (by simp))
    have d0 := hb1.at_ (by simp) (news_new w [.slice A cs.length c, .slice B ps.length dc, .int .i64 g, .int .i64 l] 85 rfl 0 _ rfl)
    have d1 := hb1.at_ (by simp) (news_new w [.slice A cs.length c, .slice B ps.length dc, .int .i64 g, .int .i64 l] 85 rfl 1 _ rfl)
    have d2 := hb1.at_ (by simp) (news_new w [.slice A cs.length c, .slice B ps.length dc, .int .i64 g, .int .i64 l] 85 rfl 2 _ rfl)
    have d3 := hb1.at_ (by simp) (news_new w [.slice A cs.length c, .slice B ps.length dc, .int .i64 g, .int .i64 l] 85 rfl 3 _ rfl)
    have hz := hb1.size
    simp at hz d0 d1 d2 d3
    have DD : Hid (w1.cell? ⟨w.heap.size, 0, none⟩ = some (.slice A cs.length c) ∧ w1.cell? ⟨w.heap.size, 1, none⟩ = some (.slice B ps.length dc) ∧ w1.cell? ⟨w.heap.size, 2, none⟩ = some (.int .i64 g) ∧ w1.cell? ⟨w.heap.size, 3, none⟩ = some (.int .i64 l)) := ⟨d0, d1, d2, d3⟩
    have hzw : w.heap.size < w1.heap.size := by omega
    clear hb1 d0 d1 d2 d3 hz
    go_wp2_with fail
    go_loopw [5, 6] (fun v iv wr => ∃ (k : Nat) (v5 : Value), v5 = v ∧ k ≤ cs.length ∧ iv = .int .i64 k ∧ wr.ownsRow w1.heap.size 3 1 v5 k (ints (List.replicate k (-1))) ∧ Below w1.heap.size w1 wr) (fun _ iv _ => cs.length - (intOf iv).toNat)
    case atStart => exact ⟨0, _, rfl, Nat.zero_le _, rfl, World.ownsRow_nil _ _ _ _, Below.refl _ _⟩
    case round =>
      obtain ⟨k, v5, hv5, hk, rfl, hown, hbr⟩ := hrel
      subst hv5
      obtain ⟨d0, d1, d2, d3⟩ := DD.out
      have d0 := hbr.at_ hzw d0
      have d1 := hbr.at_ hzw d1
      have d2 := hbr.at_ hzw d2
      have d3 := hbr.at_ hzw d3
      have hzr : w.heap.size < wr.heap.size := Nat.lt_of_lt_of_le hzw hbr.size
      by_cases hlt : k < cs.length
      · have hkz : (k : Int) < cs.length := by omega
        have HSN : Hid (ints (List.replicate (k + 1) (-1)) = ints (List.replicate k (-1)) ++ [.int .i64 (-1)]) := by
          show _ = _
          rw [List.replicate_succ']; simp [ints]
        have HO := Lib.hid hown
        clear hown d1 d2 d3
        go_wp2_with (at_builtin; refine wpList_append_own_at _ rfl _ _ 22 rfl w1.heap.size 3 i0 _ 1 8 Tryz.underlying22 ihi ihz0 ihz1 ihz2 rfl (by decide) _ _ _ rfl (HO.out.alloc _) ⟨wr.heap.size, 0, none⟩ 1 1 [.int .i64 (-1)] rfl rfl (news_new _ _ _ rfl) (by simp [Value.oneCell']) (by simp only [maxLen]; omega) (by omega) (by have h1 := hbr.size; simp; omega) ?_; intro v1 wx hown1 hgrow1 _ hat1; rw [← HSN.out] at hown1; have HO1 := Lib.hid hown1; clear hown1)
        go_roundw
        case rel => exact ⟨k + 1, _, rfl, by omega, by go_num, HO1.out, (hbr.alloc hbr.size _).grown hgrow1 (by have := hbr.size; simp; omega) (fun q hq => (HO.out.lt q hq).1)⟩
        case measure => simp [intOf]; omega
      · obtain rfl : k = cs.length := by omega
        have hkz : ¬ (cs.length : Int) < cs.length := by omega
        obtain ⟨b, c5, Ab, rfl, hAb, hb5⟩ : ∃ b c5 Ab, v5 = .slice Ab cs.length c5 ∧ (1 ≤ cs.length → Ab = some ⟨b, 0, none⟩ ∧ Lst wr b (List.replicate cs.length (-1))) ∧ w1.heap.size ≤ b := by
          by_cases h1 : 1 ≤ cs.length
          · obtain ⟨b, c5, e, hb, _, hL⟩ := own_lst' hown (by simp) h1
            exact ⟨b, c5, _, e, fun _ => ⟨rfl, hL⟩, hb⟩
          · obtain ⟨A', c', e, _, _⟩ := own_slice hown
            exact ⟨w1.heap.size, c', A', e, fun h => absurd h h1, Nat.le_refl _⟩
        rw [HFI.out] at hAb
        obtain ⟨Wb, hWb⟩ : ∃ x, x = wr := ⟨_, rfl⟩
        subst hWb
        have HAB := Lib.hid hAb
        have HBOX : Hid (∀ wx, Wb.grownBy wx (some b) → wx.cell? ⟨w.heap.size, 0, none⟩ = some (.slice A cs.length c) ∧ wx.cell? ⟨w.heap.size, 1, none⟩ = some (.slice B ps.length dc) ∧ wx.cell? ⟨w.heap.size, 2, none⟩ = some (.int .i64 g) ∧ wx.cell? ⟨w.heap.size, 3, none⟩ = some (.int .i64 l) ∧ w.heap.size < wx.heap.size ∧ Below w.heap.size w wx) := by
          show ∀ wr, _ → _
          intro wx hg
          have hk := hg.block w.heap.size hzr (by intro e; injection e; omega)
          have hs := hg.size
          refine ⟨(World.cell?_of_block (a := ⟨w.heap.size, 0, none⟩) hk).trans d0, (World.cell?_of_block (a := ⟨w.heap.size, 1, none⟩) hk).trans d1, (World.cell?_of_block (a := ⟨w.heap.size, 2, none⟩) hk).trans d2, (World.cell?_of_block (a := ⟨w.heap.size, 3, none⟩) hk).trans d3, by omega, ?_⟩
          exact (hbw.trans (hbr.mono hbw.size)).grown hg (Nat.le_of_lt hzr) (fun q hq => by injection hq; omega)
        clear hown hAb d1 d2 d3 hlt hk
        go_wp2_with fail
        clear d0
        go_loopw [7, 8, 9, 10] (fun dv _ _ _ wx => ∃ d : Int, dv = .int .i64 d ∧ -1 ≤ d ∧ d ≤ 400 ∧ Hid (1 ≤ cs.length → Ab = some ⟨b, 0, none⟩ ∧ Lst wx b ((List.range cs.length).map (outD cs ps (d + 1)))) ∧ Hid (Wb.grownBy wx (some b))) (fun dv _ _ _ _ => (intOf dv + 1).toNat)
        case atStart => exact ⟨400, rfl, by omega, by omega, HAB, grownBy_self _ _⟩
        case round =>
          clear HAB
          obtain ⟨d, rfl, dd0, dd1, HAB, HG⟩ := hrel
          by_cases hd : 0 ≤ d
          · obtain ⟨d0, d1, d2, d3, hzx, hbx⟩ := HBOX.out _ HG.out
            have J := HS wr d hbx hd (by omega)
            go_wp2_with fail
            refine J.out.mono ?_
            rintro e w3 ⟨b3, c3, rfl, hbb, hL, hb3⟩
            have HL3 := Lib.hid hL
            have HG3 := Lib.hid (grownBy_trans HG.out (below_grown (some b) hb3))
            have HAB3 : Hid (1 ≤ cs.length → Ab = some ⟨b, 0, none⟩ ∧ Lst w3 b (mixL (outD cs ps d) (outD cs ps (d + 1)) cs.length 0)) := by
              show _ → _
              intro h
              refine ⟨(HAB.out h).1, ?_⟩
              rw [mixL_zero]
              exact (HAB.out h).2.below hb3
            have HB3 := Lib.hid (hbx.trans (hb3.mono hbx.size))
            have HNE : Hid (1 ≤ cs.length → b3 ≠ b) := by
              show _ → _
              intro h e
              have := (HAB.out h).2.lt
              omega
            clear hL hb3 HAB HG d0 d1 d2 d3 J hbx
            go_wp2_with fail
            go_loopw [10] (fun iv wx => ∃ k : Nat, iv = .int .i64 k ∧ k ≤ cs.length ∧ Hid (1 ≤ cs.length → Ab = some ⟨b, 0, none⟩ ∧ Lst wx b (mixL (outD cs ps d) (outD cs ps (d + 1)) cs.length k)) ∧ Hid (Lst wx b3 (restK cs ps d cs.length)) ∧ Hid (Wb.grownBy wx (some b))) (fun iv _ => cs.length - (intOf iv).toNat)
            case atStart => exact ⟨0, rfl, Nat.zero_le _, HAB3, HL3, HG3⟩
            case round =>
              clear HAB3 HL3 HG3
              obtain ⟨k, rfl, hk, HAB, HL, HG⟩ := hrel
              by_cases hlt : k < cs.length
              · obtain ⟨rfl, hLo⟩ := HAB.out (by omega)
                obtain ⟨d0, d1, d2, d3, hzx, hbx⟩ := HBOX.out _ HG.out
                obtain ⟨ba, oa, rfl, hba, e1, e2⟩ := (hA.below hbx).pair hlt
                have hba' : ba < wr.heap.size := Nat.lt_of_lt_of_le hba hbx.size
                have hkz : (k : Int) < cs.length := by omega
                have hk0 : (0 : Int) ≤ (k : Int) := by omega
                have ck := HL.out.at_ (j := k) (by rw [restK_length]; exact hlt)
                have e3 : (restK cs ps d cs.length)[k]'(by rw [restK_length]; exact hlt) = restOf cs d (uptoF ps d) k := by simp [restK]
                rw [e3] at ck
                have cl := HL.out.lt
                have HOK := HOD k hlt d hd dd1
                obtain ⟨r0, r1⟩ := (HRB d).out k
                obtain ⟨q1, q2, q3, q4⟩ := HCA.out cs[k] (List.getElem_mem _)
                have hkl : k < (mixL (outD cs ps d) (outD cs ps (d + 1)) cs.length k).length := by rw [mixL_len]; exact hlt
                obtain ⟨old, co⟩ : ∃ y, wr.cell? ⟨b, k, none⟩ = some y := ⟨_, hLo.at_ hkl⟩
                have cf := hLo.free k
                have clo := hLo.lt
                have HLo := Lib.hid hLo
                have hne := HNE.out (by omega)
                generalize restOf cs d (uptoF ps d) k = R at *
                clear e3 hLo d1 d2 d3 e2
                by_cases h1 : cs[k].1 ≤ d
                · by_cases h2 : R = 0
                  · have hb2 : (R == 0) = true := by rw [beq_iff_eq]; exact h2
                    have HOE : Hid (outD cs ps d k = d) := by show _ = _; rw [HOK.out, if_pos ⟨h1, h2⟩]
                    have HL2 : Hid (1 ≤ cs.length → (some ⟨b, 0, none⟩ : Option Addr) = some ⟨b, 0, none⟩ ∧ Lst (wr.setCell ⟨b, k, none⟩ (.int .i64 d)) b (mixL (outD cs ps d) (outD cs ps (d + 1)) cs.length (k + 1))) := by
                      show _ → _
                      intro _
                      refine ⟨rfl, ?_⟩
                      rw [← mixL_set _ _ hlt, HOE.out]
                      exact HLo.out.put hkl _
                    have HLr := Lib.hid (HL.out.grown (grownBy_setCell wr b k (.int .i64 d)) hne)
                    have HG2 := Lib.hid (grownBy_trans HG.out (grownBy_setCell wr b k (.int .i64 d)))
                    clear h2 HOK hkl HLo
                    go_wp2_with fail
                    go_roundw
                    case rel => exact ⟨k + 1, by go_num, by omega, (show _ → _ from fun h => ⟨trivial, (HL2.out h).2⟩), HLr, HG2⟩
                    case measure => simp [intOf]; omega
                  · have hb2 : (R == 0) = false := by rw [beq_eq_false_iff_ne]; exact h2
                    have HOE : Hid (outD cs ps d k = outD cs ps (d + 1) k) := by show _ = _; rw [HOK.out, if_neg fun h => h2 h.2]
                    have HL2 : Hid (1 ≤ cs.length → (some ⟨b, 0, none⟩ : Option Addr) = some ⟨b, 0, none⟩ ∧ Lst wr b (mixL (outD cs ps d) (outD cs ps (d + 1)) cs.length (k + 1))) := by
                      show _ → _
                      intro _
                      refine ⟨rfl, ?_⟩
                      rw [← mixL_same _ _ HOE.out]
                      exact HLo.out
                    clear h2 HOK hkl HLo
                    go_wp2_with fail
                    go_roundw
                    case rel => exact ⟨k + 1, by go_num, by omega, (show _ → _ from fun h => ⟨trivial, (HL2.out h).2⟩), HL, HG⟩
                    case measure => simp [intOf]; omega
                · have HOE : Hid (outD cs ps d k = outD cs ps (d + 1) k) := by show _ = _; rw [HOK.out, if_neg fun h => h1 h.1]
                  have HL2 : Hid (1 ≤ cs.length → (some ⟨b, 0, none⟩ : Option Addr) = some ⟨b, 0, none⟩ ∧ Lst wr b (mixL (outD cs ps d) (outD cs ps (d + 1)) cs.length (k + 1))) := by
                    show _ → _
                    intro _
                    refine ⟨rfl, ?_⟩
                    rw [← mixL_same _ _ HOE.out]
                    exact HLo.out
                  clear HOK hkl HLo
                  go_wp2_with fail
                  go_roundw
                  case rel => exact ⟨k + 1, by go_num, by omega, (show _ → _ from fun h => ⟨trivial, (HL2.out h).2⟩), HL, HG⟩
                  case measure => simp [intOf]; omega
              · obtain rfl : k = cs.length := by omega
                rw [mixL_all] at HAB
                go_wp2_with fail
                go_roundw
                case rel => exact ⟨d - 1, by go_num, by omega, by omega, by rw [show d - 1 + 1 = d by omega]; exact HAB, HG⟩
                case measure => simp [intOf]; omega
          · obtain rfl : d = -1 := by omega
            rw [show (-1 : Int) + 1 = 0 by rfl, HLA.out] at HAB
            obtain ⟨d0, d1, d2, d3, hzx, hbx⟩ := HBOX.out _ HG.out
            clear d0 d1 d2 d3
            go_wp2_with fail
            go_ret2
            refine ⟨Ab, c5, by rw [HPLEN.out]; rfl, ?_, hbx⟩
            by_cases h1 : 1 ≤ cs.length
            · rw [(HAB.out h1).1]
              exact (HAB.out h1).2.rd
            · intro h
              have := HPLEN.out
              rw [List.length_eq_zero_iff.1 (by omega : (paidL cs ps).length = 0)] at h
              exact absurd rfl h
  · have e1 : paidR cs ps g l = [] := by unfold paidR; rw [if_neg h0]
    rw [e1]
    have h0' : (ckAcc cs ps g l != 0) = true := by rw [bne_iff_ne]; exact h0
    clear h0 e1
    go_enter Tryz.func37, Tryz.ntmps37
    go_wp2_with fail
    refine (HC _ (by go_grown)).out.mono ?_
    rintro e w1 ⟨rfl, hb1⟩
    have hbw : Below w.heap.size w w1 := Below.trans (by go_grown) (hb1.mono (by simp))
    go_wp2_with fail
    go_ret2
    exact ⟨_, _, rfl, Rd.nil, hbw⟩
end Go.Proofs.YtfojjecnmfkcfaaGreat
namespace Go.Proofs.YtfojjecnmfkcfaaGreat
open Go.RowKit
set_option linter.unusedVariables false
set_option maxHeartbeats 1000000 in
theorem alikeAcc_any (A B A2 B2 : Option Addr) (c d c2 d2 : Nat) (cs ps : List (Int × Int)) (g l : Int) (w : World) (hA : Rd w w.heap.size A (pairs cs)) (hB : Rd w w.heap.size B (pairs ps)) (hA2 : Rd w w.heap.size A2 (pairs cs)) (hB2 : Rd w w.heap.size B2 (pairs ps)) (hl : cs.length ≤ 1000) (hl2 : ps.length ≤ 1000) :
    Calls Tryz.prog 46 #[.agg #[.slice A cs.length c, .slice B ps.length d, .int .i64 g, .int .i64 l], .agg #[.slice A2 cs.length c2, .slice B2 ps.length d2, .int .i64 g, .int .i64 l]] w fun e w' => e = .returned (.bool true) ∧ Below w.heap.size w w' := by
  have H1 := fun w1 (hb : Below w.heap.size w w1) => Lib.hid (alikeEntry_any A A2 c c2 cs cs w1 (hA.next hb) (hA2.next hb) (by omega))
  have H2 := fun w1 (hb : Below w.heap.size w w1) => Lib.hid (alikeEntry_any B B2 d d2 ps ps w1 (hB.next hb) (hB2.next hb) (by omega))
  simp only [decide_true] at H1 H2
  go_enter Tryz.func46, Tryz.ntmps46
  go_wp2_with fail
  generalize hWa : World.alloc w _ = Wa
  generalize hWb : World.alloc Wa _ = Wb
  have ea : Wa.heap.size = w.heap.size + 1 := by rw [← hWa]; simp
  have ba : Below w.heap.size w Wa := by rw [← hWa]; exact below_new _ _
  have bb : Below Wa.heap.size Wa Wb := by rw [← hWb]; exact below_new _ _
  have zb : Wa.heap.size < Wb.heap.size := by rw [← hWb]; simp
  have n1 := news_new w [.slice A cs.length c, .slice B ps.length d, .int .i64 g, .int .i64 l] 31 rfl
  have n2 := news_new Wa [.slice A2 cs.length c2, .slice B2 ps.length d2, .int .i64 g, .int .i64 l] 31 rfl
  have x1 : Wb.cell? ⟨w.heap.size, 1, none⟩ = some (.slice B ps.length d) := bb.at_ (by omega) (by rw [← hWa]; exact n1 1 _ rfl)
  have x2 : Wb.cell? ⟨w.heap.size, 2, none⟩ = some (.int .i64 g) := bb.at_ (by omega) (by rw [← hWa]; exact n1 2 _ rfl)
  have x3 : Wb.cell? ⟨w.heap.size, 3, none⟩ = some (.int .i64 l) := bb.at_ (by omega) (by rw [← hWa]; exact n1 3 _ rfl)
  have y1 : Wb.cell? ⟨w.heap.size + 1, 1, none⟩ = some (.slice B2 ps.length d2) := by rw [← ea, ← hWb]; exact n2 1 _ rfl
  have y2 : Wb.cell? ⟨w.heap.size + 1, 2, none⟩ = some (.int .i64 g) := by rw [← ea, ← hWb]; exact n2 2 _ rfl
  have y3 : Wb.cell? ⟨w.heap.size + 1, 3, none⟩ = some (.int .i64 l) := by rw [← ea, ← hWb]; exact n2 3 _ rfl
  have zz : w.heap.size + 1 < Wb.heap.size := by omega
  have bw := ba.trans (bb.mono ba.size)
  clear hWa hWb ea ba bb zb n1 n2
  refine (H1 _ bw).out.mono ?_
  rintro e w1 ⟨rfl, hb1⟩
  have x1 := hb1.at_ (by omega) x1
  have x2 := hb1.at_ (by omega) x2
  have x3 := hb1.at_ (by omega) x3
  have y1 := hb1.at_ zz y1
  have y2 := hb1.at_ zz y2
  have y3 := hb1.at_ zz y3
  have bw1 := bw.trans (hb1.mono bw.size)
  have zz := Nat.lt_of_lt_of_le zz hb1.size
  clear hb1 bw
  go_wp2_with fail
  refine (H2 _ bw1).out.mono ?_
  rintro e w2 ⟨rfl, hb2⟩
  have x2 := hb2.at_ (by omega) x2
  have x3 := hb2.at_ (by omega) x3
  have y2 := hb2.at_ zz y2
  have y3 := hb2.at_ zz y3
  have bw2 := bw1.trans (hb2.mono bw1.size)
  have zz := Nat.lt_of_lt_of_le zz hb2.size
  clear hb2 bw1 x1 y1
  go_wp2_with fail
  go_ret
  exact ⟨rfl, bw2⟩
end Go.Proofs.YtfojjecnmfkcfaaGreat
