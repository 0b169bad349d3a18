/- The reference: Appeal and Worth, at every bill of at most 1000 houses. The reference: Worth, at every bill of at most 1000 houses. -/
import Derived.Test.YtfojjecnmfkcfaaGreatP13
import Derived.Test.YtfojjecnmfkcfaaGreatP12
import Derived.Test.YtfojjecnmfkcfaaGreatP6
import Derived.Test.YtfojjecnmfkcfaaGreatP7
import Derived.WalkSpells
namespace Go.Proofs.YtfojjecnmfkcfaaGreat
open Go.RowKit
set_option linter.unusedVariables false
/-- The call returns a list, a number and an error. -/
def RetRd (xs : List Int) (d code : Int) (W : World) (e : Ending) (w' : World) : Prop :=
  ∃ A c, e = .returned (.tuple #[.slice A xs.length c, .int .i64 d, .int .i64 code]) ∧ Rd w' w'.heap.size A (ints xs) ∧ Below W.heap.size W w'
def RBidsYes (p : Int) (hs : List (Int × Int × Int)) (W : World) (e : Ending) (w' : World) : Prop :=
  ∃ b cap, e = .returned (.slice (some ⟨b, 0, none⟩) hs.length cap) ∧ Rd w' w'.heap.size (some ⟨b, 0, none⟩) (ints ((bidPs hs p).take hs.length)) ∧ Below W.heap.size W w'
def RBidsNo (W : World) (e : Ending) (w' : World) : Prop := e = .returned (.slice none 0 0) ∧ Below W.heap.size W w'
theorem rBids_yes (A : Option Addr) (c : Nat) (p : Int) (hs : List (Int × Int × Int)) (n : Nat) (hn : hs.length = n) (w : World) (hr : Rd w w.heap.size A (trips hs)) (ho : housesOk hs) (l1 : 1 ≤ hs.length) (p0 : 0 ≤ p) (p1 : p ≤ 500) (hk : bidOk hs p = true) :
    Calls Tryz.prog 83 #[.agg #[.int .i64 p, .slice A n c]] w (RBidsYes p hs w) := by
  subst hn
  refine (rBids_any A c p hs w hr ho l1 p0 p1).mono ?_
  rintro e w' (⟨_, b, cap, he, _, _, hL, hb⟩ | ⟨h, _⟩)
  · exact ⟨b, cap, he, hL.rd, hb⟩
  · rw [hk] at h; cases h
theorem rBids_no (A : Option Addr) (c : Nat) (p : Int) (hs : List (Int × Int × Int)) (w : World) (hr : Rd w w.heap.size A (trips hs)) (ho : housesOk hs) (l1 : 1 ≤ hs.length) (p0 : 0 ≤ p) (p1 : p ≤ 500) (hk : bidOk hs p = false) :
    Calls Tryz.prog 83 #[.agg #[.int .i64 p, .slice A hs.length c]] w (RBidsNo w) := by
  refine (rBids_any A c p hs w hr ho l1 p0 p1).mono ?_
  rintro e w' (⟨h, _⟩ | ⟨_, he, hb⟩)
  · rw [hk] at h; cases h
  · exact ⟨he, hb⟩
theorem bidOk_reval {hs : List (Int × Int × Int)} (ho : housesOk hs) {j : Nat} (hj : j < hs.length) {v : Int} (h1 : 0 ≤ v) (h2 : v ≤ 1000) {p : Int} (hk : bidOk hs p = true) : bidOk (revalue hs j v) p = true :=
  (bidOk_iff (housesOk_reval ho hj h1 h2) p).2 (by rw [leastSum_revalue _ _ _ hj, mostSum_revalue _ _ _ hj]; exact (bidOk_iff ho p).1 hk)
theorem take_len {hs : List (Int × Int × Int)} (ho : housesOk hs) (p : Int) : ((bidPs hs p).take hs.length).length = hs.length := by
  rw [List.length_take, bidPs_len ho]; have := ho.1; omega
theorem take_at {hs : List (Int × Int × Int)} (ho : housesOk hs) (p : Int) {j : Nat} (hj : j < hs.length) : ((bidPs hs p).take hs.length)[j]'(by rw [take_len ho]; exact hj) = (bidPs hs p).getD j 0 := by
  have h6 := bidPs_len ho p
  have := ho.1
  rw [List.getElem_take, List.getD_eq_getElem?_getD, List.getElem?_eq_getElem (show j < (bidPs hs p).length by omega)]; rfl
theorem pays_bd {hs : List (Int × Int × Int)} (ho : housesOk hs) (p : Int) (j : Nat) : 0 ≤ (bidPs hs p).getD j 0 ∧ (bidPs hs p).getD j 0 ≤ 500 :=
  (paysOk_pour ho _ _ (paysOk_leasts ho _)).2 j
def PRE1 : Nat := 0
set_option maxRecDepth 100000 in
set_option maxHeartbeats 4000000 in
theorem refAppeal_any (A : Option Addr) (c : Nat) (p : Int) (hs : List (Int × Int × Int)) (house value : Int) (w : World) (hr : Rd w w.heap.size A (trips hs)) (hl : hs.length ≤ 1000) :
    Calls Tryz.prog 56 #[.agg #[.int .i64 p, .slice A hs.length c], .int .i64 house, .int .i64 value] w (RetRd (appealL p hs house value) (appealD p hs house value) (appealCode p hs house value) w) := by
  have HCk := fun W hr => Lib.hid (refCheck_any A c p hs W hr hl)
  have hempty : ∀ code, code ≠ 0 → appealCode p hs house value = code → Hid (appealL p hs house value = [] ∧ appealD p hs house value = 0 ∧ appealCode p hs house value = code) := by
    intro code h1 h2
    have h3 : ¬ appealCode p hs house value = 0 := by rw [h2]; exact h1
    exact ⟨by unfold appealL; rw [if_neg h3], by unfold appealD; rw [if_neg h3], h2⟩
  have HE := Lib.hid hempty
  clear hempty
  have hnil := fun (w : World) (a : Option Addr) (n c : Nat) => Lib.run_eql_slice_nil (P := Tryz.prog) w 22 3 a n c 0 0 Tryz.underlying22
  by_cases h0 : ckBill p hs = 0
  · have ho := housesOk_of h0
    obtain ⟨p0, p1, l1, l2, _⟩ := ckBill_ok h0
    by_cases h1 : inB house 0 ((hs.length : Int) - 1) = true
    · have h1' : (!inB house 0 ((hs.length : Int) - 1)) = false := by rw [h1]; rfl
      by_cases h2 : inB value 0 1000 = true
      · have h2' : (!inB value 0 1000) = false := by rw [h2]; rfl
        by_cases h3 : bidOk hs p = true
        · have hcode : appealCode p hs house value = 0 := by unfold appealCode askCode; rw [if_pos h0, if_pos h1, h2, if_pos rfl, if_pos h3]
          obtain ⟨a2, a3⟩ := inB_iff.1 h1
          obtain ⟨v0, v1⟩ := inB_iff.1 h2
          obtain ⟨j, rfl⟩ := Int.eq_ofNat_of_zero_le a2
          have hj : j < hs.length := by omega
          have ho2 := housesOk_reval ho hj v0 v1
          have hk2 := bidOk_reval ho hj v0 v1 h3
          have HL : Hid (appealL p hs j value = (bidPs (revalue hs j value) p).take hs.length) := by show _ = _; unfold appealL; rw [if_pos hcode, Int.toNat_natCast]
          have HD : Hid (appealD p hs j value = (bidPs hs p).getD j 0 - (bidPs (revalue hs j value) p).getD j 0) := by show _ = _; unfold appealD; rw [if_pos hcode, Int.toNat_natCast]
          have Hc := Lib.hid hcode
          have Hl : Hid ((revalue hs j value).length = hs.length) := revalue_length hs j value
          have H0 := Lib.hid h0
          have H3 := Lib.hid h3
          have hjz : (j : Int) < hs.length := by omega
          have hjz0 : (0 : Int) ≤ (j : Int) := by omega
          have hnl : ((hs.length : Int) == 0) = false := by rw [beq_eq_false_iff_ne]; omega
          obtain ⟨n1, n2⟩ := pays_bd ho p j
          obtain ⟨n3, n4⟩ := pays_bd ho2 p j
          clear hcode h0 h1 h2 h3
          go_enter Tryz.func56, Tryz.ntmps56
          go_wp2_with fail
          obtain ⟨W1, hW1⟩ : ∃ W1, W1 = w.alloc (.cells #[.int .i64 p, .slice A hs.length c] 56) := ⟨_, rfl⟩
          rw [← hW1]
          have k0 : W1.cell? ⟨w.heap.size, 0, none⟩ = some (.int .i64 p) := by rw [hW1]; simp
          have k1 : W1.cell? ⟨w.heap.size, 1, none⟩ = some (.slice A hs.length c) := by rw [hW1]; simp
          have bw : Below w.heap.size w W1 := by rw [hW1]; go_grown
          have r0 : w.heap.size < W1.heap.size := by rw [hW1]; simp
          clear hW1
          refine (HCk W1 (hr.next bw)).out.mono ?_
          rintro e w2 ⟨rfl, hb2⟩
          rw [H0.out]
          have d0 := hb2.at_ r0 k0
          have d1 := hb2.at_ r0 k1
          have bw2 := bw.trans (hb2.mono bw.size)
          have r2 := Nat.lt_of_lt_of_le r0 hb2.size
          clear k0 k1 hb2
          go_wp2_with fail
          refine (off_any _ _ _ _).mono ?_
          rintro e w3 ⟨rfl, rfl⟩
          go_wp2_with fail
          refine (off_any _ _ _ _).mono ?_
          rintro e w3 ⟨rfl, rfl⟩
          go_wp2_with fail
          refine (rBids_yes A c p hs _ rfl w2 (hr.next bw2) ho (by omega) p0 p1 H3.out).mono ?_
          rintro e w3 ⟨b3, cap3, rfl, hL3, hb3⟩
          have d0' := hb3.at_ r2 d0
          have d1' := hb3.at_ r2 d1
          have bw3 := bw2.trans (hb3.mono bw2.size)
          have r3 := Nat.lt_of_lt_of_le r2 hb3.size
          clear d0 d1 hb3
          go_wp2_with fail
          refine (rWith_any A c p hs j value w3 (hr.next bw3) ho.1 hj).mono ?_
          rintro e w4 ⟨A4, c4, he, _, hR4, hb4⟩
          rw [Hl.out] at he
          subst he
          have hL4 := hL3.next hb4
          have bw4 := bw3.trans (hb4.mono bw3.size)
          clear hL3 hb4 d0' d1'
          go_wp2_with fail
          refine (rBids_yes A4 c4 p (revalue hs j value) hs.length Hl.out w4 hR4 ho2 (by rw [Hl.out]; omega) p0 p1 hk2).mono ?_
          rintro e w5 ⟨b5, cap5, he, hL5, hb5⟩
          rw [Hl.out] at he hL5
          subst he
          have x1 := (hL4.next hb5).int' (k := j) (by rw [take_len ho]; exact hj)
          have x2 := hL5.int' (k := j) (by have := take_len ho2 p; rw [Hl.out] at this; rw [this]; exact hj)
          have e2 := take_at ho2 p (show j < (revalue hs j value).length by rw [Hl.out]; exact hj)
          simp only [Hl.out] at e2
          rw [take_at ho p hj, Nat.zero_add] at x1
          rw [e2, Nat.zero_add] at x2
          have BW := Lib.hid (bw4.trans (hb5.mono bw4.size))
          have HL5 := Lib.hid hL5
          clear hL4 hb5 hL5 e2 hR4
          generalize (bidPs hs p).getD j 0 = y1 at *
          generalize (bidPs (revalue hs j value) p).getD j 0 = y2 at *
          go_wp2_with fail
          have q1 : IntKind.i64.wrap (y1 - y2) = y1 - y2 := IntWalk.i64_in _ (by omega)
          go_quiet (fail)
          clear q1
          go_wp2_with fail
          go_ret3
          refine ⟨some ⟨b5, 0, none⟩, cap5, ?_, ?_, below_drewN BW.out _⟩
          · have e3 : ((bidPs (revalue hs j value) p).take hs.length).length = hs.length := by have := take_len ho2 p; rw [Hl.out] at this; exact this
            rw [HL.out, HD.out, Hc.out, e3]; rfl
          · rw [HL.out]
            exact HL5.out
        · have h3' : bidOk hs p = false := by simpa using h3
          have hcode : appealCode p hs house value = 1 := by unfold appealCode askCode; rw [if_pos h0, if_pos h1, h2, if_pos rfl, if_neg h3]
          obtain ⟨e1, e2, e3⟩ := (HE.out _ (by decide) hcode).out
          rw [e1, e2, e3]
          clear e1 e2 e3 hcode
          have H3 := Lib.hid h3'
          have H0 := Lib.hid h0
          clear h0 h1 h2 h3 h3'
          go_enter Tryz.func56, Tryz.ntmps56
          go_wp2_with fail
          obtain ⟨W1, hW1⟩ : ∃ W1, W1 = w.alloc (.cells #[.int .i64 p, .slice A hs.length c] 56) := ⟨_, rfl⟩
          rw [← hW1]
          have k0 : W1.cell? ⟨w.heap.size, 0, none⟩ = some (.int .i64 p) := by rw [hW1]; simp
          have k1 : W1.cell? ⟨w.heap.size, 1, none⟩ = some (.slice A hs.length c) := by rw [hW1]; simp
          have bw : Below w.heap.size w W1 := by rw [hW1]; go_grown
          have r0 : w.heap.size < W1.heap.size := by rw [hW1]; simp
          clear hW1
          refine (HCk W1 (hr.next bw)).out.mono ?_
          rintro e w2 ⟨rfl, hb2⟩
          rw [H0.out]
          have d0 := hb2.at_ r0 k0
          have d1 := hb2.at_ r0 k1
          have bw2 := bw.trans (hb2.mono bw.size)
          have r2 := Nat.lt_of_lt_of_le r0 hb2.size
          clear k0 k1 hb2
          go_wp2_with fail
          refine (off_any _ _ _ _).mono ?_
          rintro e w3 ⟨rfl, rfl⟩
          go_wp2_with fail
          refine (off_any _ _ _ _).mono ?_
          rintro e w3 ⟨rfl, rfl⟩
          go_wp2_with fail
          refine (rBids_no A c p hs w2 (hr.next bw2) ho (by omega) p0 p1 H3.out).mono ?_
          rintro e w3 ⟨rfl, hb3⟩
          have bw3 := bw2.trans (hb3.mono bw2.size)
          go_wp2_with fail
          go_ret3
          exact ⟨none, 0, rfl, Rd.nil, bw3⟩
      · have h2' : (!inB value 0 1000) = true := by simpa using h2
        have hcode : appealCode p hs house value = 4 := by unfold appealCode askCode; rw [if_pos h0, if_pos h1, if_neg h2]
        obtain ⟨e1, e2, e3⟩ := (HE.out _ (by decide) hcode).out
        rw [e1, e2, e3]
        clear e1 e2 e3 hcode
        have H0 := Lib.hid h0
        clear h0 h1 h2
        go_enter Tryz.func56, Tryz.ntmps56
        go_wp2_with fail
        obtain ⟨W1, hW1⟩ : ∃ W1, W1 = w.alloc (.cells #[.int .i64 p, .slice A hs.length c] 56) := ⟨_, rfl⟩
        rw [← hW1]
        have k0 : W1.cell? ⟨w.heap.size, 0, none⟩ = some (.int .i64 p) := by rw [hW1]; simp
        have k1 : W1.cell? ⟨w.heap.size, 1, none⟩ = some (.slice A hs.length c) := by rw [hW1]; simp
        have bw : Below w.heap.size w W1 := by rw [hW1]; go_grown
        have r0 : w.heap.size < W1.heap.size := by rw [hW1]; simp
        clear hW1
        refine (HCk W1 (hr.next bw)).out.mono ?_
        rintro e w2 ⟨rfl, hb2⟩
        rw [H0.out]
        have d0 := hb2.at_ r0 k0
        have d1 := hb2.at_ r0 k1
        have bw2 := bw.trans (hb2.mono bw.size)
        have r2 := Nat.lt_of_lt_of_le r0 hb2.size
        clear k0 k1 hb2
        go_wp2_with fail
        refine (off_any _ _ _ _).mono ?_
        rintro e w3 ⟨rfl, rfl⟩
        go_wp2_with fail
        refine (off_any _ _ _ _).mono ?_
        rintro e w3 ⟨rfl, rfl⟩
        go_wp2_with fail
        go_ret3
        exact ⟨none, 0, rfl, Rd.nil, bw2⟩
    · have h1' : (!inB house 0 ((hs.length : Int) - 1)) = true := by simpa using h1
      have hcode : appealCode p hs house value = 2 := by unfold appealCode askCode; rw [if_pos h0, if_neg h1]
      obtain ⟨e1, e2, e3⟩ := (HE.out _ (by decide) hcode).out
      rw [e1, e2, e3]
      clear e1 e2 e3 hcode
      have H0 := Lib.hid h0
      clear h0 h1
      go_enter Tryz.func56, Tryz.ntmps56
      go_wp2_with fail
      obtain ⟨W1, hW1⟩ : ∃ W1, W1 = w.alloc (.cells #[.int .i64 p, .slice A hs.length c] 56) := ⟨_, rfl⟩
      rw [← hW1]
      have k0 : W1.cell? ⟨w.heap.size, 0, none⟩ = some (.int .i64 p) := by rw [hW1]; simp
      have k1 : W1.cell? ⟨w.heap.size, 1, none⟩ = some (.slice A hs.length c) := by rw [hW1]; simp
      have bw : Below w.heap.size w W1 := by rw [hW1]; go_grown
      have r0 : w.heap.size < W1.heap.size := by rw [hW1]; simp
      clear hW1
      refine (HCk W1 (hr.next bw)).out.mono ?_
      rintro e w2 ⟨rfl, hb2⟩
      rw [H0.out]
      have d0 := hb2.at_ r0 k0
      have d1 := hb2.at_ r0 k1
      have bw2 := bw.trans (hb2.mono bw.size)
      have r2 := Nat.lt_of_lt_of_le r0 hb2.size
      clear k0 k1 hb2
      go_wp2_with fail
      refine (off_any _ _ _ _).mono ?_
      rintro e w3 ⟨rfl, rfl⟩
      go_wp2_with fail
      go_ret3
      exact ⟨none, 0, rfl, Rd.nil, bw2⟩
  · have hcode : appealCode p hs house value = ckBill p hs := by unfold appealCode askCode; rw [if_neg h0]
    obtain ⟨e1, e2, e3⟩ := (HE.out _ h0 hcode).out
    rw [e1, e2, e3]
    clear e1 e2 e3 hcode
    have h0' : (ckBill p hs != 0) = true := by rw [bne_iff_ne]; exact h0
    have h0'' : (ckBill p hs == 0) = false := by rw [beq_eq_false_iff_ne]; exact h0
    clear h0
    go_enter Tryz.func56, Tryz.ntmps56
    go_wp2_with fail
    obtain ⟨W1, hW1⟩ : ∃ W1, W1 = w.alloc (.cells #[.int .i64 p, .slice A hs.length c] 56) := ⟨_, rfl⟩
    rw [← hW1]
    have k0 : W1.cell? ⟨w.heap.size, 0, none⟩ = some (.int .i64 p) := by rw [hW1]; simp
    have k1 : W1.cell? ⟨w.heap.size, 1, none⟩ = some (.slice A hs.length c) := by rw [hW1]; simp
    have bw : Below w.heap.size w W1 := by rw [hW1]; go_grown
    have r0 : w.heap.size < W1.heap.size := by rw [hW1]; simp
    clear hW1
    refine (HCk W1 (hr.next bw)).out.mono ?_
    rintro e w2 ⟨rfl, hb2⟩

    have d0 := hb2.at_ r0 k0
    have d1 := hb2.at_ r0 k1
    have bw2 := bw.trans (hb2.mono bw.size)
    have r2 := Nat.lt_of_lt_of_le r0 hb2.size
    clear k0 k1 hb2
    go_wp2_with fail
    go_ret3
    exact ⟨none, 0, rfl, Rd.nil, bw2⟩
end Go.Proofs.YtfojjecnmfkcfaaGreat
namespace Go.Proofs.YtfojjecnmfkcfaaGreat
open Go.RowKit
set_option linter.unusedVariables false
theorem worthSo_eq {p : Int} {hs : List (Int × Int × Int)} {j : Nat} {pence v : Int} (hk : bidOk (revalue hs j v) p = true) : worthSo p hs j pence v = decide ((bidPs (revalue hs j v) p).getD j 0 ≤ pence) := by
  unfold worthSo; rw [hk]; rfl
theorem worth_no {p : Int} {hs : List (Int × Int × Int)} {house pence : Int} {code : Int} {w w' : World} (h : worthCode p hs house pence = code) (h0 : code ≠ 0) (hb : Below w.heap.size w w') :
    WorthPost p hs house pence w (.returned (.tuple #[.int .i64 0, .int .i64 code])) w' := by
  subst h
  exact ⟨hb, .inr ⟨h0, rfl⟩⟩
set_option maxRecDepth 100000 in
set_option maxHeartbeats 4000000 in
theorem refWorth_any (A : Option Addr) (c : Nat) (p : Int) (hs : List (Int × Int × Int)) (house pence : Int) (w : World) (hr : Rd w w.heap.size A (trips hs)) (hl : hs.length ≤ 1000) :
    Calls Tryz.prog 58 #[.agg #[.int .i64 p, .slice A hs.length c], .int .i64 house, .int .i64 pence] w (WorthPost p hs house pence w) := by
  have HCk := fun W hr => Lib.hid (refCheck_any A c p hs W hr hl)
  have hnil := fun (w : World) (a : Option Addr) (n c : Nat) => Lib.run_eql_slice_nil (P := Tryz.prog) w 22 3 a n c 0 0 Tryz.underlying22
  by_cases h0 : ckBill p hs = 0
  · have ho := housesOk_of h0
    obtain ⟨p0, p1, l1, l2, _⟩ := ckBill_ok h0
    by_cases h1 : inB house 0 ((hs.length : Int) - 1) = true
    · have h1' : (!inB house 0 ((hs.length : Int) - 1)) = false := by rw [h1]; rfl
      by_cases h2 : 0 ≤ pence
      · by_cases h3 : bidOk hs p = true
        · have hask : askCode p hs house (decide (0 ≤ pence)) = 0 := by unfold askCode; rw [if_pos h0, if_pos h1, decide_eq_true h2, if_pos rfl, if_pos h3]
          have hcode : worthCode p hs house pence = if worthSo p hs house.toNat pence 0 then 0 else 1 := by unfold worthCode; rw [if_pos hask]
          obtain ⟨a2, a3⟩ := inB_iff.1 h1
          obtain ⟨j, rfl⟩ := Int.eq_ofNat_of_zero_le a2
          have hj : j < hs.length := by omega
          rw [Int.toNat_natCast] at hcode
          have HC := Lib.hid hcode
          have H0 := Lib.hid h0
          have H3 := Lib.hid h3
          have hjz : (j : Int) < hs.length := by omega
          have hjz0 : (0 : Int) ≤ (j : Int) := by omega
          have hp0 : ¬ pence < 0 := by omega
          have HQ : Hid (∀ r : Int, worthSo p hs j pence 0 = true → Between2 (worthSo p hs j pence) 0 1001 r → ∀ w', Below w.heap.size w w' → WorthPost p hs j pence w (.returned (.tuple #[.int .i64 r, .int .i64 0])) w') := by
            show ∀ _, _
            intro r h hbt w' hb
            have hc0 : worthCode p hs j pence = 0 := by rw [HC.out, if_pos h]
            exact ⟨hb, .inl ⟨hc0, r, rfl, by rw [Int.toNat_natCast]; exact hbt⟩⟩
          clear hask hcode h0 h1 h2 h3
          go_enter Tryz.func58, Tryz.ntmps58
          go_wp2_with fail
          obtain ⟨W1, hW1⟩ : ∃ W1, W1 = w.alloc (.cells #[.int .i64 p, .slice A hs.length c] 56) := ⟨_, rfl⟩
          rw [← hW1]
          have k0 : W1.cell? ⟨w.heap.size, 0, none⟩ = some (.int .i64 p) := by rw [hW1]; simp
          have k1 : W1.cell? ⟨w.heap.size, 1, none⟩ = some (.slice A hs.length c) := by rw [hW1]; simp
          have bw : Below w.heap.size w W1 := by rw [hW1]; go_grown
          have r0 : w.heap.size < W1.heap.size := by rw [hW1]; simp
          clear hW1
          refine (HCk W1 (hr.next bw)).out.mono ?_
          rintro e w2 ⟨rfl, hb2⟩
          rw [H0.out]
          have d0 := hb2.at_ r0 k0
          have d1 := hb2.at_ r0 k1
          have bw2 := bw.trans (hb2.mono bw.size)
          have r2 := Nat.lt_of_lt_of_le r0 hb2.size
          clear k0 k1 hb2
          go_wp2_with fail
          refine (off_any _ _ _ _).mono ?_
          rintro e w3 ⟨rfl, rfl⟩
          go_wp2_with fail
          refine (rBids_yes A c p hs _ rfl w2 (hr.next bw2) ho (by omega) p0 p1 H3.out).mono ?_
          rintro e w3 ⟨b3, cap3, rfl, hL3, hb3⟩
          have d0' := hb3.at_ r2 d0
          have d1' := hb3.at_ r2 d1
          have bw3 := bw2.trans (hb3.mono bw2.size)
          have r3 := Nat.lt_of_lt_of_le r2 hb3.size
          clear d0 d1 hb3 hL3
          go_wp2_with fail
          go_loopw [9, 10] (fun ov iv wr => ∃ v : Nat, v ≤ 1001 ∧ iv = .int .i64 v ∧ ov = .int .i64 ((v : Int) - 1) ∧ Hid (∀ u : Nat, u < v → worthSo p hs j pence u = true) ∧ Below w.heap.size w wr ∧ wr.cell? ⟨w.heap.size, 0, none⟩ = some (.int .i64 p) ∧ wr.cell? ⟨w.heap.size, 1, none⟩ = some (.slice A hs.length c) ∧ w.heap.size < wr.heap.size) (fun _ i _ => 1001 - (intOf i).toNat)
          case atStart => exact ⟨0, by omega, rfl, rfl, fun u hu => by omega, bw3, d0', d1', r3⟩
          case round =>
            clear d0' d1' r3 bw3
            obtain ⟨v, hv, rfl, rfl, HU, hbw, d0, d1, hz⟩ := hrel
            by_cases hlt : v ≤ 1000
            · have hlz : (v : Int) ≤ 1000 := by omega
              have v0 : (0 : Int) ≤ (v : Int) := by omega
              have ho2 := housesOk_reval ho hj v0 hlz
              have hk2 := bidOk_reval ho hj v0 hlz H3.out
              have Hl : Hid ((revalue hs j v).length = hs.length) := revalue_length hs j v
              obtain ⟨n3, n4⟩ := pays_bd ho2 p j
              have HS := Lib.hid (worthSo_eq (pence := pence) hk2)
              obtain ⟨y, hy⟩ : ∃ y, y = (bidPs (revalue hs j v) p).getD j 0 := ⟨_, rfl⟩
              rw [← hy] at n3 n4 HS
              have HY := Lib.hid hy
              clear hy
              by_cases hgt : pence < y
              · have hno : worthSo p hs j pence v = false := by rw [HS.out]; exact decide_eq_false (by omega)
                have HN := Lib.hid hno
                clear hno
                by_cases hv0 : v = 0
                · have hone : worthCode p hs j pence = 1 := by
                    have := HN.out
                    rw [hv0] at this
                    rw [HC.out, if_neg (by rw [show (0 : Int) = ((0 : Nat) : Int) from rfl, this]; simp)]
                  have hneg : ((v : Int) - 1 < 0) := by omega
                  have HV := Lib.hid hone
                  clear hone hv0
                  go_wp2_with fail
                  refine (rWith_any A c p hs j v wr (hr.next hbw) ho.1 hj).mono ?_
                  rintro e w4 ⟨A4, c4, he, _, hR4, hb4⟩
                  rw [Hl.out] at he
                  subst he
                  have bw4 := hbw.trans (hb4.mono hbw.size)
                  go_wp2_with fail
                  refine (rBids_yes A4 c4 p (revalue hs j v) hs.length Hl.out w4 hR4 ho2 (by rw [Hl.out]; omega) p0 p1 hk2).mono ?_
                  rintro e w5 ⟨b5, cap5, he, hL5, hb5⟩
                  rw [Hl.out] at he hL5
                  subst he
                  have x2 := hL5.int' (k := j) (by have := take_len ho2 p; rw [Hl.out] at this; rw [this]; exact hj)
                  have e2 := take_at ho2 p (show j < (revalue hs j v).length by rw [Hl.out]; exact hj)
                  simp only [Hl.out] at e2
                  rw [e2, ← HY.out, Nat.zero_add] at x2
                  have BW := Lib.hid (bw4.trans (hb5.mono bw4.size))
                  have BR := Lib.hid (hb4.trans (hb5.mono hb4.size))
                  clear hb5 hL5 e2 hR4 hb4 bw4 d0 d1
                  go_wp2_with fail
                  go_ret2
                  exact worth_no HV.out (by decide) BW.out
                · have hneg : ¬ ((v : Int) - 1 < 0) := by omega
                  have hfin : worthSo p hs j pence 0 = true ∧ Between2 (worthSo p hs j pence) 0 1001 ((v : Int) - 1) := by
                    refine ⟨HU.out 0 (by omega), by omega, by omega, .inr ?_, .inr ?_⟩
                    · have := HU.out (v - 1) (by omega)
                      rwa [show (((v - 1 : Nat)) : Int) = (v : Int) - 1 by omega] at this
                    · rw [Int.sub_add_cancel]; exact HN.out
                  have HF := Lib.hid hfin
                  clear hfin hv0
                  go_wp2_with fail
                  refine (rWith_any A c p hs j v wr (hr.next hbw) ho.1 hj).mono ?_
                  rintro e w4 ⟨A4, c4, he, _, hR4, hb4⟩
                  rw [Hl.out] at he
                  subst he
                  have bw4 := hbw.trans (hb4.mono hbw.size)
                  go_wp2_with fail
                  refine (rBids_yes A4 c4 p (revalue hs j v) hs.length Hl.out w4 hR4 ho2 (by rw [Hl.out]; omega) p0 p1 hk2).mono ?_
                  rintro e w5 ⟨b5, cap5, he, hL5, hb5⟩
                  rw [Hl.out] at he hL5
                  subst he
                  have x2 := hL5.int' (k := j) (by have := take_len ho2 p; rw [Hl.out] at this; rw [this]; exact hj)
                  have e2 := take_at ho2 p (show j < (revalue hs j v).length by rw [Hl.out]; exact hj)
                  simp only [Hl.out] at e2
                  rw [e2, ← HY.out, Nat.zero_add] at x2
                  have BW := Lib.hid (bw4.trans (hb5.mono bw4.size))
                  have BR := Lib.hid (hb4.trans (hb5.mono hb4.size))
                  clear hb5 hL5 e2 hR4 hb4 bw4 d0 d1
                  go_wp2_with fail
                  go_ret2
                  exact HQ.out _ HF.out.1 HF.out.2 _ BW.out
              · have hyes : worthSo p hs j pence v = true := by rw [HS.out]; exact decide_eq_true (by omega)
                have HU2 : Hid (∀ u : Nat, u < v + 1 → worthSo p hs j pence u = true) := by
                  show ∀ _, _
                  intro u hu
                  by_cases e : u = v
                  · subst e; exact hyes
                  · exact HU.out u (by omega)
                clear hyes
                have HBX : Hid (∀ w', Below wr.heap.size wr w' → w'.cell? ⟨w.heap.size, 0, none⟩ = some (.int .i64 p) ∧ w'.cell? ⟨w.heap.size, 1, none⟩ = some (.slice A hs.length c) ∧ w.heap.size < w'.heap.size) := by
                  show ∀ _, _
                  intro w' hb
                  exact ⟨hb.at_ hz d0, hb.at_ hz d1, Nat.lt_of_lt_of_le hz hb.size⟩
                go_wp2_with fail
                refine (rWith_any A c p hs j v wr (hr.next hbw) ho.1 hj).mono ?_
                rintro e w4 ⟨A4, c4, he, _, hR4, hb4⟩
                rw [Hl.out] at he
                subst he
                have bw4 := hbw.trans (hb4.mono hbw.size)
                go_wp2_with fail
                refine (rBids_yes A4 c4 p (revalue hs j v) hs.length Hl.out w4 hR4 ho2 (by rw [Hl.out]; omega) p0 p1 hk2).mono ?_
                rintro e w5 ⟨b5, cap5, he, hL5, hb5⟩
                rw [Hl.out] at he hL5
                subst he
                have x2 := hL5.int' (k := j) (by have := take_len ho2 p; rw [Hl.out] at this; rw [this]; exact hj)
                have e2 := take_at ho2 p (show j < (revalue hs j v).length by rw [Hl.out]; exact hj)
                simp only [Hl.out] at e2
                rw [e2, ← HY.out, Nat.zero_add] at x2
                have BW := Lib.hid (bw4.trans (hb5.mono bw4.size))
                have BR := Lib.hid (hb4.trans (hb5.mono hb4.size))
                clear hb5 hL5 e2 hR4 hb4 bw4 d0 d1
                go_wp2_with fail
                go_roundw
                case rel =>
                  obtain ⟨y1, y2, y3⟩ := HBX.out _ BR.out
                  exact ⟨v + 1, by omega, by go_num, by rw [show ((v + 1 : Nat) : Int) - 1 = v by omega], HU2, BW.out, y1, y2, y3⟩
                case measure => simp [intOf]; omega
            · obtain rfl : v = 1001 := by omega
              have hfin : worthSo p hs j pence 0 = true ∧ Between2 (worthSo p hs j pence) 0 1001 1000 := by
                refine ⟨HU.out 0 (by omega), by omega, by omega, .inr (HU.out 1000 (by omega)), .inl rfl⟩
              have HF := Lib.hid hfin
              clear hfin hlt
              go_wp2_with fail
              go_ret2
              exact HQ.out _ HF.out.1 HF.out.2 _ hbw
        · have h3' : bidOk hs p = false := by simpa using h3
          have hcode : Hid (worthCode p hs house pence = 1) := by
            have ha : askCode p hs house (decide (0 ≤ pence)) = 1 := by unfold askCode; rw [if_pos h0, if_pos h1, decide_eq_true h2, if_pos rfl, if_neg h3]
            show _ = _
            unfold worthCode; rw [ha]; rfl
          have H3 := Lib.hid h3'
          have H0 := Lib.hid h0
          have hp0 : ¬ pence < 0 := by omega
          clear h0 h1 h2 h3 h3'
          go_enter Tryz.func58, Tryz.ntmps58
          go_wp2_with fail
          obtain ⟨W1, hW1⟩ : ∃ W1, W1 = w.alloc (.cells #[.int .i64 p, .slice A hs.length c] 56) := ⟨_, rfl⟩
          rw [← hW1]
          have k0 : W1.cell? ⟨w.heap.size, 0, none⟩ = some (.int .i64 p) := by rw [hW1]; simp
          have k1 : W1.cell? ⟨w.heap.size, 1, none⟩ = some (.slice A hs.length c) := by rw [hW1]; simp
          have bw : Below w.heap.size w W1 := by rw [hW1]; go_grown
          have r0 : w.heap.size < W1.heap.size := by rw [hW1]; simp
          clear hW1
          refine (HCk W1 (hr.next bw)).out.mono ?_
          rintro e w2 ⟨rfl, hb2⟩
          rw [H0.out]
          have d0 := hb2.at_ r0 k0
          have d1 := hb2.at_ r0 k1
          have bw2 := bw.trans (hb2.mono bw.size)
          have r2 := Nat.lt_of_lt_of_le r0 hb2.size
          clear k0 k1 hb2
          go_wp2_with fail
          refine (off_any _ _ _ _).mono ?_
          rintro e w3 ⟨rfl, rfl⟩
          go_wp2_with fail
          refine (rBids_no A c p hs w2 (hr.next bw2) ho (by omega) p0 p1 H3.out).mono ?_
          rintro e w3 ⟨rfl, hb3⟩
          have bw3 := bw2.trans (hb3.mono bw2.size)
          go_wp2_with fail
          go_ret2
          exact worth_no hcode.out (by decide) bw3
      · have hp0 : pence < 0 := by omega
        have hcode : Hid (worthCode p hs house pence = 4) := by
          have ha : askCode p hs house (decide (0 ≤ pence)) = 4 := by unfold askCode; rw [if_pos h0, if_pos h1, decide_eq_false h2]; rfl
          show _ = _
          unfold worthCode; rw [ha]; rfl
        have H0 := Lib.hid h0
        clear h0 h1 h2
        go_enter Tryz.func58, Tryz.ntmps58
        go_wp2_with fail
        obtain ⟨W1, hW1⟩ : ∃ W1, W1 = w.alloc (.cells #[.int .i64 p, .slice A hs.length c] 56) := ⟨_, rfl⟩
        rw [← hW1]
        have k0 : W1.cell? ⟨w.heap.size, 0, none⟩ = some (.int .i64 p) := by rw [hW1]; simp
        have k1 : W1.cell? ⟨w.heap.size, 1, none⟩ = some (.slice A hs.length c) := by rw [hW1]; simp
        have bw : Below w.heap.size w W1 := by rw [hW1]; go_grown
        have r0 : w.heap.size < W1.heap.size := by rw [hW1]; simp
        clear hW1
        refine (HCk W1 (hr.next bw)).out.mono ?_
        rintro e w2 ⟨rfl, hb2⟩
        rw [H0.out]
        have d0 := hb2.at_ r0 k0
        have d1 := hb2.at_ r0 k1
        have bw2 := bw.trans (hb2.mono bw.size)
        have r2 := Nat.lt_of_lt_of_le r0 hb2.size
        clear k0 k1 hb2
        go_wp2_with fail
        refine (off_any _ _ _ _).mono ?_
        rintro e w3 ⟨rfl, rfl⟩
        go_wp2_with fail
        go_ret2
        exact worth_no hcode.out (by decide) bw2
    · have h1' : (!inB house 0 ((hs.length : Int) - 1)) = true := by simpa using h1
      have hcode : Hid (worthCode p hs house pence = 2) := by
        have ha : askCode p hs house (decide (0 ≤ pence)) = 2 := by unfold askCode; rw [if_pos h0, if_neg h1]
        show _ = _
        unfold worthCode; rw [ha]; rfl
      have H0 := Lib.hid h0
      clear h0 h1
      go_enter Tryz.func58, Tryz.ntmps58
      go_wp2_with fail
      obtain ⟨W1, hW1⟩ : ∃ W1, W1 = w.alloc (.cells #[.int .i64 p, .slice A hs.length c] 56) := ⟨_, rfl⟩
      rw [← hW1]
      have k0 : W1.cell? ⟨w.heap.size, 0, none⟩ = some (.int .i64 p) := by rw [hW1]; simp
      have k1 : W1.cell? ⟨w.heap.size, 1, none⟩ = some (.slice A hs.length c) := by rw [hW1]; simp
      have bw : Below w.heap.size w W1 := by rw [hW1]; go_grown
      have r0 : w.heap.size < W1.heap.size := by rw [hW1]; simp
      clear hW1
      refine (HCk W1 (hr.next bw)).out.mono ?_
      rintro e w2 ⟨rfl, hb2⟩
      rw [H0.out]
      have d0 := hb2.at_ r0 k0
      have d1 := hb2.at_ r0 k1
      have bw2 := bw.trans (hb2.mono bw.size)
      have r2 := Nat.lt_of_lt_of_le r0 hb2.size
      clear k0 k1 hb2
      go_wp2_with fail
      refine (off_any _ _ _ _).mono ?_
      rintro e w3 ⟨rfl, rfl⟩
      go_wp2_with fail
      go_ret2
      exact worth_no hcode.out (by decide) bw2
  · have hcode : Hid (worthCode p hs house pence = ckBill p hs) := by
      have ha : askCode p hs house (decide (0 ≤ pence)) = ckBill p hs := by unfold askCode; rw [if_neg h0]
      show _ = _
      unfold worthCode; rw [ha, if_neg h0]
    have h0' : (ckBill p hs != 0) = true := by rw [bne_iff_ne]; exact h0
    have h0'' : (ckBill p hs == 0) = false := by rw [beq_eq_false_iff_ne]; exact h0
    have H0 := Lib.hid h0
    clear h0
    go_enter Tryz.func58, Tryz.ntmps58
    go_wp2_with fail
    obtain ⟨W1, hW1⟩ : ∃ W1, W1 = w.alloc (.cells #[.int .i64 p, .slice A hs.length c] 56) := ⟨_, rfl⟩
    rw [← hW1]
    have k0 : W1.cell? ⟨w.heap.size, 0, none⟩ = some (.int .i64 p) := by rw [hW1]; simp
    have k1 : W1.cell? ⟨w.heap.size, 1, none⟩ = some (.slice A hs.length c) := by rw [hW1]; simp
    have bw : Below w.heap.size w W1 := by rw [hW1]; go_grown
    have r0 : w.heap.size < W1.heap.size := by rw [hW1]; simp
    clear hW1
    refine (HCk W1 (hr.next bw)).out.mono ?_
    rintro e w2 ⟨rfl, hb2⟩

    have d0 := hb2.at_ r0 k0
    have d1 := hb2.at_ r0 k1
    have bw2 := bw.trans (hb2.mono bw.size)
    have r2 := Nat.lt_of_lt_of_le r0 hb2.size
    clear k0 k1 hb2
    go_wp2_with fail
    go_ret2
    exact worth_no hcode.out H0.out bw2
end Go.Proofs.YtfojjecnmfkcfaaGreat
