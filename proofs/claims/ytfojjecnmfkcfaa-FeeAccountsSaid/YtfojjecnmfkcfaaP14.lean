/- The reference: Appeal and Worth, at every bill of at most 1000 houses. The reference: Worth, at every bill of at most 1000 houses. Pennies that are moved go back along houses that outbid others, in fewer than 2000 steps: plain mathematics. -/
import Derived.Test.YtfojjecnmfkcfaaP13
import Derived.Test.YtfojjecnmfkcfaaP12
import Derived.Test.YtfojjecnmfkcfaaP6
import Derived.Test.YtfojjecnmfkcfaaP7
import Derived.WalkSpells
namespace Go.Proofs.Ytfojjecnmfkcfaa
open Go.RowKit
set_option linter.unusedVariables false
/-- The call returns a list, a number and an error. -/
def RetRd (xs : List Int) (d code : Int) (W : World) (e : Ending) (w' : World) : Prop :=
  ∃ A c, e = .returned (.tuple #[.slice A xs.length c, .int .i64 d, .int .i64 code]) ∧ Rd w' w'.heap.size A (ints xs) ∧ Below W.heap.size W w'
def RBidsYes (p : Int) (hs : List (Int × Int × Int)) (W : World) (e : Ending) (w' : World) : Prop :=
  ∃ b cap, e = .returned (.slice (some ⟨b, 0, none⟩) hs.length cap) ∧ Rd w' w'.heap.size (some ⟨b, 0, none⟩) (ints ((bidPs hs p).take hs.length)) ∧ Below W.heap.size W w'
def RBidsNo (W : World) (e : Ending) (w' : World) : Prop := e = .returned (.slice none 0 0) ∧ Below W.heap.size W w'
theorem rBids_yes (A : Option Addr) (c : Nat) (p : Int) (hs : List (Int × Int × Int)) (n : Nat) (hn : hs.length = n) (w : World) (hr : Rd w w.heap.size A (trips hs)) (ho : housesOk hs) (l1 : 1 ≤ hs.length) (p0 : 0 ≤ p) (p1 : p ≤ 500) (hk : bidOk hs p = true) :
    Calls Try.prog 99 #[.agg #[.int .i64 p, .slice A n c]] w (RBidsYes p hs w) := by
  subst hn
  refine (rBids_any A c p hs w hr ho l1 p0 p1).mono ?_
  rintro e w' (⟨_, b, cap, he, _, _, hL, hb⟩ | ⟨h, _⟩)
  · exact ⟨b, cap, he, hL.rd, hb⟩
  · rw [hk] at h; cases h
theorem rBids_no (A : Option Addr) (c : Nat) (p : Int) (hs : List (Int × Int × Int)) (w : World) (hr : Rd w w.heap.size A (trips hs)) (ho : housesOk hs) (l1 : 1 ≤ hs.length) (p0 : 0 ≤ p) (p1 : p ≤ 500) (hk : bidOk hs p = false) :
    Calls Try.prog 99 #[.agg #[.int .i64 p, .slice A hs.length c]] w (RBidsNo w) := by
  refine (rBids_any A c p hs w hr ho l1 p0 p1).mono ?_
  rintro e w' (⟨h, _⟩ | ⟨_, he, hb⟩)
  · rw [hk] at h; cases h
  · exact ⟨he, hb⟩
theorem bidOk_reval {hs : List (Int × Int × Int)} (ho : housesOk hs) {j : Nat} (hj : j < hs.length) {v : Int} (h1 : 0 ≤ v) (h2 : v ≤ 1000) {p : Int} (hk : bidOk hs p = true) : bidOk (revalue hs j v) p = true :=
  (bidOk_iff (housesOk_reval ho hj h1 h2) p).2 (by rw [leastSum_revalue _ _ _ hj, mostSum_revalue _ _ _ hj]; exact (bidOk_iff ho p).1 hk)
theorem take_len {hs : List (Int × Int × Int)} (ho : housesOk hs) (p : Int) : ((bidPs hs p).take hs.length).length = hs.length := by
  rw [List.length_take, bidPs_len ho]; have := ho.1; omega
theorem take_at {hs : List (Int × Int × Int)} (ho : housesOk hs) (p : Int) {j : Nat} (hj : j < hs.length) : ((bidPs hs p).take hs.length)[j]'(by rw [take_len ho]; exact hj) = (bidPs hs p).getD j 0 := by
  have h6 := bidPs_len ho p
  have := ho.1
  rw [List.getElem_take, List.getD_eq_getElem?_getD, List.getElem?_eq_getElem (show j < (bidPs hs p).length by omega)]; rfl
theorem pays_bd {hs : List (Int × Int × Int)} (ho : housesOk hs) (p : Int) (j : Nat) : 0 ≤ (bidPs hs p).getD j 0 ∧ (bidPs hs p).getD j 0 ≤ 500 :=
  (paysOk_pour ho _ _ (paysOk_leasts ho _)).2 j
def PRE1 : Nat := 0
set_option maxRecDepth 100000 in
set_option maxHeartbeats 4000000 in
theorem refAppeal_any (A : Option Addr) (c : Nat) (p : Int) (hs : List (Int × Int × Int)) (house value : Int) (w : World) (hr : Rd w w.heap.size A (trips hs)) (hl : hs.length ≤ 1000) :
    Calls Try.prog 29 #[.agg #[.int .i64 p, .slice A hs.length c], .int .i64 house, .int .i64 value] w (RetRd (appealL p hs house value) (appealD p hs house value) (appealCode p hs house value) w) := by
  have HCk := fun W hr => Lib.hid (refCheck_any A c p hs W hr hl)
  have hempty : ∀ code, code ≠ 0 → appealCode p hs house value = code → Hid (appealL p hs house value = [] ∧ appealD p hs house value = 0 ∧ appealCode p hs house value = code) := by
    intro code h1 h2
    have h3 : ¬ appealCode p hs house value = 0 := by rw [h2]; exact h1
    exact ⟨by unfold appealL; rw [if_neg h3], by unfold appealD; rw [if_neg h3], h2⟩
  have HE := Lib.hid hempty
  clear hempty
  have hnil := fun (w : World) (a : Option Addr) (n c : Nat) => Lib.run_eql_slice_nil (P := Try.prog) w 45 3 a n c 0 0 Try.underlying45
  by_cases h0 : ckBill p hs = 0
  · have ho := housesOk_of h0
    obtain ⟨p0, p1, l1, l2, _⟩ := ckBill_ok h0
    by_cases h1 : inB house 0 ((hs.length : Int) - 1) = true
    · have h1' : (!inB house 0 ((hs.length : Int) - 1)) = false := by rw [h1]; rfl
      by_cases h2 : inB value 0 1000 = true
      · have h2' : (!inB value 0 1000) = false := by rw [h2]; rfl
        by_cases h3 : bidOk hs p = true
        · have hcode : appealCode p hs house value = 0 := by unfold appealCode askCode; rw [if_pos h0, if_pos h1, h2, if_pos rfl, if_pos h3]
          obtain ⟨a2, a3⟩ := inB_iff.1 h1
          obtain ⟨v0, v1⟩ := inB_iff.1 h2
          obtain ⟨j, rfl⟩ := Int.eq_ofNat_of_zero_le a2
          have hj : j < hs.length := by omega
          have ho2 := housesOk_reval ho hj v0 v1
          have hk2 := bidOk_reval ho hj v0 v1 h3
          have HL : Hid (appealL p hs j value = (bidPs (revalue hs j value) p).take hs.length) := by show _ = _; unfold appealL; rw [if_pos hcode, Int.toNat_natCast]
          have HD : Hid (appealD p hs j value = (bidPs hs p).getD j 0 - (bidPs (revalue hs j value) p).getD j 0) := by show _ = _; unfold appealD; rw [if_pos hcode, Int.toNat_natCast]
          have Hc := Lib.hid hcode
          have Hl : Hid ((revalue hs j value).length = hs.length) := revalue_length hs j value
          have H0 := Lib.hid h0
          have H3 := Lib.hid h3
          have hjz : (j : Int) < hs.length := by omega
          have hjz0 : (0 : Int) ≤ (j : Int) := by omega
          have hnl : ((hs.length : Int) == 0) = false := by rw [beq_eq_false_iff_ne]; omega
          obtain ⟨n1, n2⟩ := pays_bd ho p j
          obtain ⟨n3, n4⟩ := pays_bd ho2 p j
          clear hcode h0 h1 h2 h3
          go_enter Try.func29, Try.ntmps29
          go_wp2_with fail
          obtain ⟨W1, hW1⟩ : ∃ W1, W1 = w.alloc (.cells #[.int .i64 p, .slice A hs.length c] 43) := ⟨_, rfl⟩
          rw [← hW1]
          have k0 : W1.cell? ⟨w.heap.size, 0, none⟩ = some (.int .i64 p) := by rw [hW1]; simp
          have k1 : W1.cell? ⟨w.heap.size, 1, none⟩ = some (.slice A hs.length c) := by rw [hW1]; simp
          have bw : Below w.heap.size w W1 := by rw [hW1]; go_grown
          have r0 : w.heap.size < W1.heap.size := by rw [hW1]; simp
          clear hW1
          refine (HCk W1 (hr.next bw)).out.mono ?_
          rintro e w2 ⟨rfl, hb2⟩
          rw [H0.out]
          have d0 := hb2.at_ r0 k0
          have d1 := hb2.at_ r0 k1
          have bw2 := bw.trans (hb2.mono bw.size)
          have r2 := Nat.lt_of_lt_of_le r0 hb2.size
          clear k0 k1 hb2
          go_wp2_with fail
          refine (off_any _ _ _ _).mono ?_
          rintro e w3 ⟨rfl, rfl⟩
          go_wp2_with fail
          refine (off_any _ _ _ _).mono ?_
          rintro e w3 ⟨rfl, rfl⟩
          go_wp2_with fail
          refine (rBids_yes A c p hs _ rfl w2 (hr.next bw2) ho (by omega) p0 p1 H3.out).mono ?_
          rintro e w3 ⟨b3, cap3, rfl, hL3, hb3⟩
          have d0' := hb3.at_ r2 d0
          have d1' := hb3.at_ r2 d1
          have bw3 := bw2.trans (hb3.mono bw2.size)
          have r3 := Nat.lt_of_lt_of_le r2 hb3.size
          clear d0 d1 hb3
          go_wp2_with fail
          refine (rWith_any A c p hs j value w3 (hr.next bw3) ho.1 hj).mono ?_
          rintro e w4 ⟨A4, c4, he, _, hR4, hb4⟩
          rw [Hl.out] at he
          subst he
          have hL4 := hL3.next hb4
          have bw4 := bw3.trans (hb4.mono bw3.size)
          clear hL3 hb4 d0' d1'
          go_wp2_with fail
          refine (rBids_yes A4 c4 p (revalue hs j value) hs.length Hl.out w4 hR4 ho2 (by rw [Hl.out]; omega) p0 p1 hk2).mono ?_
          rintro e w5 ⟨b5, cap5, he, hL5, hb5⟩
          rw [Hl.out] at he hL5
          subst he
          have x1 := (hL4.next hb5).int' (k := j) (by rw [take_len ho]; exact hj)
          have x2 := hL5.int' (k := j) (by have := take_len ho2 p; rw [Hl.out] at this; rw [this]; exact hj)
          have e2 := take_at ho2 p (show j < (revalue hs j value).length by rw [Hl.out]; exact hj)
          simp only [Hl.out] at e2
          rw [take_at ho p hj, Nat.zero_add] at x1
          rw [e2, Nat.zero_add] at x2
          have BW := Lib.hid (bw4.trans (hb5.mono bw4.size))
          have HL5 := Lib.hid hL5
          clear hL4 hb5 hL5 e2 hR4
          generalize (bidPs hs p).getD j 0 = y1 at *
          generalize (bidPs (revalue hs j value) p).getD j 0 = y2 at *
          go_wp2_with fail
          have q1 : IntKind.i64.wrap (y1 - y2) = y1 - y2 := IntWalk.i64_in _ (by omega)
          go_quiet (fail)
          clear q1
          go_wp2_with fail
          go_ret3
          refine ⟨some ⟨b5, 0, none⟩, cap5, ?_, ?_, below_drewN BW.out _⟩
          · have e3 : ((bidPs (revalue hs j value) p).take hs.length).length = hs.length := by have := take_len ho2 p; rw [Hl.out] at this; exact this
            rw [HL.out, HD.out, Hc.out, e3]; rfl
          · rw [HL.out]
            exact HL5.out
        · have h3' : bidOk hs p = false := by simpa using h3
          have hcode : appealCode p hs house value = 1 := by unfold appealCode askCode; rw [if_pos h0, if_pos h1, h2, if_pos rfl, if_neg h3]
          obtain ⟨e1, e2, e3⟩ := (HE.out _ (by decide) hcode).out
          rw [e1, e2, e3]
          clear e1 e2 e3 hcode
          have H3 := Lib.hid h3'
          have H0 := Lib.hid h0
          clear h0 h1 h2 h3 h3'
          go_enter Try.func29, Try.ntmps29
          go_wp2_with fail
          obtain ⟨W1, hW1⟩ : ∃ W1, W1 = w.alloc (.cells #[.int .i64 p, .slice A hs.length c] 43) := ⟨_, rfl⟩
          rw [← hW1]
          have k0 : W1.cell? ⟨w.heap.size, 0, none⟩ = some (.int .i64 p) := by rw [hW1]; simp
          have k1 : W1.cell? ⟨w.heap.size, 1, none⟩ = some (.slice A hs.length c) := by rw [hW1]; simp
          have bw : Below w.heap.size w W1 := by rw [hW1]; go_grown
          have r0 : w.heap.size < W1.heap.size := by rw [hW1]; simp
          clear hW1
          refine (HCk W1 (hr.next bw)).out.mono ?_
          rintro e w2 ⟨rfl, hb2⟩
          rw [H0.out]
          have d0 := hb2.at_ r0 k0
          have d1 := hb2.at_ r0 k1
          have bw2 := bw.trans (hb2.mono bw.size)
          have r2 := Nat.lt_of_lt_of_le r0 hb2.size
          clear k0 k1 hb2
          go_wp2_with fail
          refine (off_any _ _ _ _).mono ?_
          rintro e w3 ⟨rfl, rfl⟩
          go_wp2_with fail
          refine (off_any _ _ _ _).mono ?_
          rintro e w3 ⟨rfl, rfl⟩
          go_wp2_with fail
          refine (rBids_no A c p hs w2 (hr.next bw2) ho (by omega) p0 p1 H3.out).mono ?_
          rintro e w3 ⟨rfl, hb3⟩
          have bw3 := bw2.trans (hb3.mono bw2.size)
          go_wp2_with fail
          go_ret3
          exact ⟨none, 0, rfl, Rd.nil, bw3⟩
      · have h2' : (!inB value 0 1000) = true := by simpa using h2
        have hcode : appealCode p hs house value = 4 := by unfold appealCode askCode; rw [if_pos h0, if_pos h1, if_neg h2]
        obtain ⟨e1, e2, e3⟩ := (HE.out _ (by decide) hcode).out
        rw [e1, e2, e3]
        clear e1 e2 e3 hcode
        have H0 := Lib.hid h0
        clear h0 h1 h2
        go_enter Try.func29, Try.ntmps29
        go_wp2_with fail
        obtain ⟨W1, hW1⟩ : ∃ W1, W1 = w.alloc (.cells #[.int .i64 p, .slice A hs.length c] 43) := ⟨_, rfl⟩
        rw [← hW1]
        have k0 : W1.cell? ⟨w.heap.size, 0, none⟩ = some (.int .i64 p) := by rw [hW1]; simp
        have k1 : W1.cell? ⟨w.heap.size, 1, none⟩ = some (.slice A hs.length c) := by rw [hW1]; simp
        have bw : Below w.heap.size w W1 := by rw [hW1]; go_grown
        have r0 : w.heap.size < W1.heap.size := by rw [hW1]; simp
        clear hW1
        refine (HCk W1 (hr.next bw)).out.mono ?_
        rintro e w2 ⟨rfl, hb2⟩
        rw [H0.out]
        have d0 := hb2.at_ r0 k0
        have d1 := hb2.at_ r0 k1
        have bw2 := bw.trans (hb2.mono bw.size)
        have r2 := Nat.lt_of_lt_of_le r0 hb2.size
        clear k0 k1 hb2
        go_wp2_with fail
        refine (off_any _ _ _ _).mono ?_
        rintro e w3 ⟨rfl, rfl⟩
        go_wp2_with fail
        refine (off_any _ _ _ _).mono ?_
        rintro e w3 ⟨rfl, rfl⟩
        go_wp2_with fail
        go_ret3
        exact ⟨none, 0, rfl, Rd.nil, bw2⟩
    · have h1' : (!inB house 0 ((hs.length : Int) - 1)) = true := by simpa using h1
      have hcode : appealCode p hs house value = 2 := by unfold appealCode askCode; rw [if_pos h0, if_neg h1]
      obtain ⟨e1, e2, e3⟩ := (HE.out _ (by decide) hcode).out
      rw [e1, e2, e3]
      clear e1 e2 e3 hcode
      have H0 := Lib.hid h0
      clear h0 h1
      go_enter Try.func29, Try.ntmps29
      go_wp2_with fail
      obtain ⟨W1, hW1⟩ : ∃ W1, W1 = w.alloc (.cells #[.int .i64 p, .slice A hs.length c] 43) := ⟨_, rfl⟩
      rw [← hW1]
      have k0 : W1.cell? ⟨w.heap.size, 0, none⟩ = some (.int .i64 p) := by rw [hW1]; simp
      have k1 : W1.cell? ⟨w.heap.size, 1, none⟩ = some (.slice A hs.length c) := by rw [hW1]; simp
      have bw : Below w.heap.size w W1 := by rw [hW1]; go_grown
      have r0 : w.heap.size < W1.heap.size := by rw [hW1]; simp
      clear hW1
      refine (HCk W1 (hr.next bw)).out.mono ?_
      rintro e w2 ⟨rfl, hb2⟩
      rw [H0.out]
      have d0 := hb2.at_ r0 k0
      have d1 := hb2.at_ r0 k1
      have bw2 := bw.trans (hb2.mono bw.size)
      have r2 := Nat.lt_of_lt_of_le r0 hb2.size
      clear k0 k1 hb2
      go_wp2_with fail
      refine (off_any _ _ _ _).mono ?_
      rintro e w3 ⟨rfl, rfl⟩
      go_wp2_with fail
      go_ret3
      exact ⟨none, 0, rfl, Rd.nil, bw2⟩
  · have hcode : appealCode p hs house value = ckBill p hs := by unfold appealCode askCode; rw [if_neg h0]
    obtain ⟨e1, e2, e3⟩ := (HE.out _ h0 hcode).out
    rw [e1, e2, e3]
    clear e1 e2 e3 hcode
    have h0' : (ckBill p hs != 0) = true := by rw [bne_iff_ne]; exact h0
    have h0'' : (ckBill p hs == 0) = false := by rw [beq_eq_false_iff_ne]; exact h0
    clear h0
    go_enter Try.func29, Try.ntmps29
    go_wp2_with fail
    obtain ⟨W1, hW1⟩ : ∃ W1, W1 = w.alloc (.cells #[.int .i64 p, .slice A hs.length c] 43) := ⟨_, rfl⟩
    rw [← hW1]
    have k0 : W1.cell? ⟨w.heap.size, 0, none⟩ = some (.int .i64 p) := by rw [hW1]; simp
    have k1 : W1.cell? ⟨w.heap.size, 1, none⟩ = some (.slice A hs.length c) := by rw [hW1]; simp
    have bw : Below w.heap.size w W1 := by rw [hW1]; go_grown
    have r0 : w.heap.size < W1.heap.size := by rw [hW1]; simp
    clear hW1
    refine (HCk W1 (hr.next bw)).out.mono ?_
    rintro e w2 ⟨rfl, hb2⟩

    have d0 := hb2.at_ r0 k0
    have d1 := hb2.at_ r0 k1
    have bw2 := bw.trans (hb2.mono bw.size)
    have r2 := Nat.lt_of_lt_of_le r0 hb2.size
    clear k0 k1 hb2
    go_wp2_with fail
    go_ret3
    exact ⟨none, 0, rfl, Rd.nil, bw2⟩
end Go.Proofs.Ytfojjecnmfkcfaa
namespace Go.Proofs.Ytfojjecnmfkcfaa
open Go.RowKit
set_option linter.unusedVariables false
theorem worthSo_eq {p : Int} {hs : List (Int × Int × Int)} {j : Nat} {pence v : Int} (hk : bidOk (revalue hs j v) p = true) : worthSo p hs j pence v = decide ((bidPs (revalue hs j v) p).getD j 0 ≤ pence) := by
  unfold worthSo; rw [hk]; rfl
theorem worth_no {p : Int} {hs : List (Int × Int × Int)} {house pence : Int} {code : Int} {w w' : World} (h : worthCode p hs house pence = code) (h0 : code ≠ 0) (hb : Below w.heap.size w w') :
    WorthPost p hs house pence w (.returned (.tuple #[.int .i64 0, .int .i64 code])) w' := by
  subst h
  exact ⟨hb, .inr ⟨h0, rfl⟩⟩
set_option maxRecDepth 100000 in
set_option maxHeartbeats 4000000 in
theorem refWorth_any (A : Option Addr) (c : Nat) (p : Int) (hs : List (Int × Int × Int)) (house pence : Int) (w : World) (hr : Rd w w.heap.size A (trips hs)) (hl : hs.length ≤ 1000) :
    Calls Try.prog 32 #[.agg #[.int .i64 p, .slice A hs.length c], .int .i64 house, .int .i64 pence] w (WorthPost p hs house pence w) := by
  have HCk := fun W hr => Lib.hid (refCheck_any A c p hs W hr hl)
  have hnil := fun (w : World) (a : Option Addr) (n c : Nat) => Lib.run_eql_slice_nil (P := Try.prog) w 45 3 a n c 0 0 Try.underlying45
  by_cases h0 : ckBill p hs = 0
  · have ho := housesOk_of h0
    obtain ⟨p0, p1, l1, l2, _⟩ := ckBill_ok h0
    by_cases h1 : inB house 0 ((hs.length : Int) - 1) = true
    · have h1' : (!inB house 0 ((hs.length : Int) - 1)) = false := by rw [h1]; rfl
      by_cases h2 : 0 ≤ pence
      · by_cases h3 : bidOk hs p = true
        · have hask : askCode p hs house (decide (0 ≤ pence)) = 0 := by unfold askCode; rw [if_pos h0, if_pos h1, decide_eq_true h2, if_pos rfl, if_pos h3]
          have hcode : worthCode p hs house pence = if worthSo p hs house.toNat pence 0 then 0 else 1 := by unfold worthCode; rw [if_pos hask]
          obtain ⟨a2, a3⟩ := inB_iff.1 h1
          obtain ⟨j, rfl⟩ := Int.eq_ofNat_of_zero_le a2
          have hj : j < hs.length := by omega
          rw [Int.toNat_natCast] at hcode
          have HC := Lib.hid hcode
          have H0 := Lib.hid h0
          have H3 := Lib.hid h3
          have hjz : (j : Int) < hs.length := by omega
          have hjz0 : (0 : Int) ≤ (j : Int) := by omega
          have hp0 : ¬ pence < 0 := by omega
          have HQ : Hid (∀ r : Int, worthSo p hs j pence 0 = true → Between2 (worthSo p hs j pence) 0 1001 r → ∀ w', Below w.heap.size w w' → WorthPost p hs j pence w (.returned (.tuple #[.int .i64 r, .int .i64 0])) w') := by
            show ∀ _, _
            intro r h hbt w' hb
            have hc0 : worthCode p hs j pence = 0 := by rw [HC.out, if_pos h]
            exact ⟨hb, .inl ⟨hc0, r, rfl, by rw [Int.toNat_natCast]; exact hbt⟩⟩
          clear hask hcode h0 h1 h2 h3
          go_enter Try.func32, Try.ntmps32
          go_wp2_with fail
          obtain ⟨W1, hW1⟩ : ∃ W1, W1 = w.alloc (.cells #[.int .i64 p, .slice A hs.length c] 43) := ⟨_, rfl⟩
          rw [← hW1]
          have k0 : W1.cell? ⟨w.heap.size, 0, none⟩ = some (.int .i64 p) := by rw [hW1]; simp
          have k1 : W1.cell? ⟨w.heap.size, 1, none⟩ = some (.slice A hs.length c) := by rw [hW1]; simp
          have bw : Below w.heap.size w W1 := by rw [hW1]; go_grown
          have r0 : w.heap.size < W1.heap.size := by rw [hW1]; simp
          clear hW1
          refine (HCk W1 (hr.next bw)).out.mono ?_
          rintro e w2 ⟨rfl, hb2⟩
          rw [H0.out]
          have d0 := hb2.at_ r0 k0
          have d1 := hb2.at_ r0 k1
          have bw2 := bw.trans (hb2.mono bw.size)
          have r2 := Nat.lt_of_lt_of_le r0 hb2.size
          clear k0 k1 hb2
          go_wp2_with fail
          refine (off_any _ _ _ _).mono ?_
          rintro e w3 ⟨rfl, rfl⟩
          go_wp2_with fail
          refine (rBids_yes A c p hs _ rfl w2 (hr.next bw2) ho (by omega) p0 p1 H3.out).mono ?_
          rintro e w3 ⟨b3, cap3, rfl, hL3, hb3⟩
          have d0' := hb3.at_ r2 d0
          have d1' := hb3.at_ r2 d1
          have bw3 := bw2.trans (hb3.mono bw2.size)
          have r3 := Nat.lt_of_lt_of_le r2 hb3.size
          clear d0 d1 hb3 hL3
          go_wp2_with fail
          go_loopw [9, 10] (fun ov iv wr => ∃ v : Nat, v ≤ 1001 ∧ iv = .int .i64 v ∧ ov = .int .i64 ((v : Int) - 1) ∧ Hid (∀ u : Nat, u < v → worthSo p hs j pence u = true) ∧ Below w.heap.size w wr ∧ wr.cell? ⟨w.heap.size, 0, none⟩ = some (.int .i64 p) ∧ wr.cell? ⟨w.heap.size, 1, none⟩ = some (.slice A hs.length c) ∧ w.heap.size < wr.heap.size) (fun _ i _ => 1001 - (intOf i).toNat)
          case atStart => exact ⟨0, by omega, rfl, rfl, fun u hu => by omega, bw3, d0', d1', r3⟩
          case round =>
            clear d0' d1' r3 bw3
            obtain ⟨v, hv, rfl, rfl, HU, hbw, d0, d1, hz⟩ := hrel
            by_cases hlt : v ≤ 1000
            · have hlz : (v : Int) ≤ 1000 := by omega
              have v0 : (0 : Int) ≤ (v : Int) := by omega
              have ho2 := housesOk_reval ho hj v0 hlz
              have hk2 := bidOk_reval ho hj v0 hlz H3.out
              have Hl : Hid ((revalue hs j v).length = hs.length) := revalue_length hs j v
              obtain ⟨n3, n4⟩ := pays_bd ho2 p j
              have HS := Lib.hid (worthSo_eq (pence := pence) hk2)
              obtain ⟨y, hy⟩ : ∃ y, y = (bidPs (revalue hs j v) p).getD j 0 := ⟨_, rfl⟩
              rw [← hy] at n3 n4 HS
              have HY := Lib.hid hy
              clear hy
              by_cases hgt : pence < y
              · have hno : worthSo p hs j pence v = false := by rw [HS.out]; exact decide_eq_false (by omega)
                have HN := Lib.hid hno
                clear hno
                by_cases hv0 : v = 0
                · have hone : worthCode p hs j pence = 1 := by
                    have := HN.out
                    rw [hv0] at this
                    rw [HC.out, if_neg (by rw [show (0 : Int) = ((0 : Nat) : Int) from rfl, this]; simp)]
                  have hneg : ((v : Int) - 1 < 0) := by omega
                  have HV := Lib.hid hone
                  clear hone hv0
                  go_wp2_with fail
                  refine (rWith_any A c p hs j v wr (hr.next hbw) ho.1 hj).mono ?_
                  rintro e w4 ⟨A4, c4, he, _, hR4, hb4⟩
                  rw [Hl.out] at he
                  subst he
                  have bw4 := hbw.trans (hb4.mono hbw.size)
                  go_wp2_with fail
                  refine (rBids_yes A4 c4 p (revalue hs j v) hs.length Hl.out w4 hR4 ho2 (by rw [Hl.out]; omega) p0 p1 hk2).mono ?_
                  rintro e w5 ⟨b5, cap5, he, hL5, hb5⟩
                  rw [Hl.out] at he hL5
                  subst he
                  have x2 := hL5.int' (k := j) (by have := take_len ho2 p; rw [Hl.out] at this; rw [this]; exact hj)
                  have e2 := take_at ho2 p (show j < (revalue hs j v).length by rw [Hl.out]; exact hj)
                  simp only [Hl.out] at e2
                  rw [e2, ← HY.out, Nat.zero_add] at x2
                  have BW := Lib.hid (bw4.trans (hb5.mono bw4.size))
                  have BR := Lib.hid (hb4.trans (hb5.mono hb4.size))
                  clear hb5 hL5 e2 hR4 hb4 bw4 d0 d1
                  go_wp2_with fail
                  go_ret2
                  exact worth_no HV.out (by decide) BW.out
                · have hneg : ¬ ((v : Int) - 1 < 0) := by omega
                  have hfin : worthSo p hs j pence 0 = true ∧ Between2 (worthSo p hs j pence) 0 1001 ((v : Int) - 1) := by
                    refine ⟨HU.out 0 (by omega), by omega, by omega, .inr ?_, .inr ?_⟩
                    · have := HU.out (v - 1) (by omega)
                      rwa [show (((v - 1 : Nat)) : Int) = (v : Int) - 1 by omega] at this
                    · rw [Int.sub_add_cancel]; exact HN.out
                  have HF := Lib.hid hfin
                  clear hfin hv0
                  go_wp2_with fail
                  refine (rWith_any A c p hs j v wr (hr.next hbw) ho.1 hj).mono ?_
                  rintro e w4 ⟨A4, c4, he, _, hR4, hb4⟩
                  rw [Hl.out] at he
                  subst he
                  have bw4 := hbw.trans (hb4.mono hbw.size)
                  go_wp2_with fail
                  refine (rBids_yes A4 c4 p (revalue hs j v) hs.length Hl.out w4 hR4 ho2 (by rw [Hl.out]; omega) p0 p1 hk2).mono ?_
                  rintro e w5 ⟨b5, cap5, he, hL5, hb5⟩
                  rw [Hl.out] at he hL5
                  subst he
                  have x2 := hL5.int' (k := j) (by have := take_len ho2 p; rw [Hl.out] at this; rw [this]; exact hj)
                  have e2 := take_at ho2 p (show j < (revalue hs j v).length by rw [Hl.out]; exact hj)
                  simp only [Hl.out] at e2
                  rw [e2, ← HY.out, Nat.zero_add] at x2
                  have BW := Lib.hid (bw4.trans (hb5.mono bw4.size))
                  have BR := Lib.hid (hb4.trans (hb5.mono hb4.size))
                  clear hb5 hL5 e2 hR4 hb4 bw4 d0 d1
                  go_wp2_with fail
                  go_ret2
                  exact HQ.out _ HF.out.1 HF.out.2 _ BW.out
              · have hyes : worthSo p hs j pence v = true := by rw [HS.out]; exact decide_eq_true (by omega)
                have HU2 : Hid (∀ u : Nat, u < v + 1 → worthSo p hs j pence u = true) := by
                  show ∀ _, _
                  intro u hu
                  by_cases e : u = v
                  · subst e; exact hyes
                  · exact HU.out u (by omega)
                clear hyes
                have HBX : Hid (∀ w', Below wr.heap.size wr w' → w'.cell? ⟨w.heap.size, 0, none⟩ = some (.int .i64 p) ∧ w'.cell? ⟨w.heap.size, 1, none⟩ = some (.slice A hs.length c) ∧ w.heap.size < w'.heap.size) := by
                  show ∀ _, _
                  intro w' hb
                  exact ⟨hb.at_ hz d0, hb.at_ hz d1, Nat.lt_of_lt_of_le hz hb.size⟩
                go_wp2_with fail
                refine (rWith_any A c p hs j v wr (hr.next hbw) ho.1 hj).mono ?_
                rintro e w4 ⟨A4, c4, he, _, hR4, hb4⟩
                rw [Hl.out] at he
                subst he
                have bw4 := hbw.trans (hb4.mono hbw.size)
                go_wp2_with fail
                refine (rBids_yes A4 c4 p (revalue hs j v) hs.length Hl.out w4 hR4 ho2 (by rw [Hl.out]; omega) p0 p1 hk2).mono ?_
                rintro e w5 ⟨b5, cap5, he, hL5, hb5⟩
                rw [Hl.out] at he hL5
                subst he
                have x2 := hL5.int' (k := j) (by have := take_len ho2 p; rw [Hl.out] at this; rw [this]; exact hj)
                have e2 := take_at ho2 p (show j < (revalue hs j v).length by rw [Hl.out]; exact hj)
                simp only [Hl.out] at e2
                rw [e2, ← HY.out, Nat.zero_add] at x2
                have BW := Lib.hid (bw4.trans (hb5.mono bw4.size))
                have BR := Lib.hid (hb4.trans (hb5.mono hb4.size))
                clear hb5 hL5 e2 hR4 hb4 bw4 d0 d1
                go_wp2_with fail
                go_roundw
                case rel =>
                  obtain ⟨y1, y2, y3⟩ := HBX.out _ BR.out
                  exact ⟨v + 1, by omega, by go_num, by rw [show ((v + 1 : Nat) : Int) - 1 = v by omega], HU2, BW.out, y1, y2, y3⟩
                case measure => simp [intOf]; omega
            · obtain rfl : v = 1001 := by omega
              have hfin : worthSo p hs j pence 0 = true ∧ Between2 (worthSo p hs j pence) 0 1001 1000 := by
                refine ⟨HU.out 0 (by omega), by omega, by omega, .inr (HU.out 1000 (by omega)), .inl rfl⟩
              have HF := Lib.hid hfin
              clear hfin hlt
              go_wp2_with fail
              go_ret2
              exact HQ.out _ HF.out.1 HF.out.2 _ hbw
        · have h3' : bidOk hs p = false := by simpa using h3
          have hcode : Hid (worthCode p hs house pence = 1) := by
            have ha : askCode p hs house (decide (0 ≤ pence)) = 1 := by unfold askCode; rw [if_pos h0, if_pos h1, decide_eq_true h2, if_pos rfl, if_neg h3]
            show _ = _
            unfold worthCode; rw [ha]; rfl
          have H3 := Lib.hid h3'
          have H0 := Lib.hid h0
          have hp0 : ¬ pence < 0 := by omega
          clear h0 h1 h2 h3 h3'
          go_enter Try.func32, Try.ntmps32
          go_wp2_with fail
          obtain ⟨W1, hW1⟩ : ∃ W1, W1 = w.alloc (.cells #[.int .i64 p, .slice A hs.length c] 43) := ⟨_, rfl⟩
          rw [← hW1]
          have k0 : W1.cell? ⟨w.heap.size, 0, none⟩ = some (.int .i64 p) := by rw [hW1]; simp
          have k1 : W1.cell? ⟨w.heap.size, 1, none⟩ = some (.slice A hs.length c) := by rw [hW1]; simp
          have bw : Below w.heap.size w W1 := by rw [hW1]; go_grown
          have r0 : w.heap.size < W1.heap.size := by rw [hW1]; simp
          clear hW1
          refine (HCk W1 (hr.next bw)).out.mono ?_
          rintro e w2 ⟨rfl, hb2⟩
          rw [H0.out]
          have d0 := hb2.at_ r0 k0
          have d1 := hb2.at_ r0 k1
          have bw2 := bw.trans (hb2.mono bw.size)
          have r2 := Nat.lt_of_lt_of_le r0 hb2.size
          clear k0 k1 hb2
          go_wp2_with fail
          refine (off_any _ _ _ _).mono ?_
          rintro e w3 ⟨rfl, rfl⟩
          go_wp2_with fail
          refine (rBids_no A c p hs w2 (hr.next bw2) ho (by omega) p0 p1 H3.out).mono ?_
          rintro e w3 ⟨rfl, hb3⟩
          have bw3 := bw2.trans (hb3.mono bw2.size)
          go_wp2_with fail
          go_ret2
          exact worth_no hcode.out (by decide) bw3
      · have hp0 : pence < 0 := by omega
        have hcode : Hid (worthCode p hs house pence = 4) := by
          have ha : askCode p hs house (decide (0 ≤ pence)) = 4 := by unfold askCode; rw [if_pos h0, if_pos h1, decide_eq_false h2]; rfl
          show _ = _
          unfold worthCode; rw [ha]; rfl
        have H0 := Lib.hid h0
        clear h0 h1 h2
        go_enter Try.func32, Try.ntmps32
        go_wp2_with fail
        obtain ⟨W1, hW1⟩ : ∃ W1, W1 = w.alloc (.cells #[.int .i64 p, .slice A hs.length c] 43) := ⟨_, rfl⟩
        rw [← hW1]
        have k0 : W1.cell? ⟨w.heap.size, 0, none⟩ = some (.int .i64 p) := by rw [hW1]; simp
        have k1 : W1.cell? ⟨w.heap.size, 1, none⟩ = some (.slice A hs.length c) := by rw [hW1]; simp
        have bw : Below w.heap.size w W1 := by rw [hW1]; go_grown
        have r0 : w.heap.size < W1.heap.size := by rw [hW1]; simp
        clear hW1
        refine (HCk W1 (hr.next bw)).out.mono ?_
        rintro e w2 ⟨rfl, hb2⟩
        rw [H0.out]
        have d0 := hb2.at_ r0 k0
        have d1 := hb2.at_ r0 k1
        have bw2 := bw.trans (hb2.mono bw.size)
        have r2 := Nat.lt_of_lt_of_le r0 hb2.size
        clear k0 k1 hb2
        go_wp2_with fail
        refine (off_any _ _ _ _).mono ?_
        rintro e w3 ⟨rfl, rfl⟩
        go_wp2_with fail
        go_ret2
        exact worth_no hcode.out (by decide) bw2
    · have h1' : (!inB house 0 ((hs.length : Int) - 1)) = true := by simpa using h1
      have hcode : Hid (worthCode p hs house pence = 2) := by
        have ha : askCode p hs house (decide (0 ≤ pence)) = 2 := by unfold askCode; rw [if_pos h0, if_neg h1]
        show _ = _
        unfold worthCode; rw [ha]; rfl
      have H0 := Lib.hid h0
      clear h0 h1
      go_enter Try.func32, Try.ntmps32
      go_wp2_with fail
      obtain ⟨W1, hW1⟩ : ∃ W1, W1 = w.alloc (.cells #[.int .i64 p, .slice A hs.length c] 43) := ⟨_, rfl⟩
      rw [← hW1]
      have k0 : W1.cell? ⟨w.heap.size, 0, none⟩ = some (.int .i64 p) := by rw [hW1]; simp
      have k1 : W1.cell? ⟨w.heap.size, 1, none⟩ = some (.slice A hs.length c) := by rw [hW1]; simp
      have bw : Below w.heap.size w W1 := by rw [hW1]; go_grown
      have r0 : w.heap.size < W1.heap.size := by rw [hW1]; simp
      clear hW1
      refine (HCk W1 (hr.next bw)).out.mono ?_
      rintro e w2 ⟨rfl, hb2⟩
      rw [H0.out]
      have d0 := hb2.at_ r0 k0
      have d1 := hb2.at_ r0 k1
      have bw2 := bw.trans (hb2.mono bw.size)
      have r2 := Nat.lt_of_lt_of_le r0 hb2.size
      clear k0 k1 hb2
      go_wp2_with fail
      refine (off_any _ _ _ _).mono ?_
      rintro e w3 ⟨rfl, rfl⟩
      go_wp2_with fail
      go_ret2
      exact worth_no hcode.out (by decide) bw2
  · have hcode : Hid (worthCode p hs house pence = ckBill p hs) := by
      have ha : askCode p hs house (decide (0 ≤ pence)) = ckBill p hs := by unfold askCode; rw [if_neg h0]
      show _ = _
      unfold worthCode; rw [ha, if_neg h0]
    have h0' : (ckBill p hs != 0) = true := by rw [bne_iff_ne]; exact h0
    have h0'' : (ckBill p hs == 0) = false := by rw [beq_eq_false_iff_ne]; exact h0
    have H0 := Lib.hid h0
    clear h0
    go_enter Try.func32, Try.ntmps32
    go_wp2_with fail
    obtain ⟨W1, hW1⟩ : ∃ W1, W1 = w.alloc (.cells #[.int .i64 p, .slice A hs.length c] 43) := ⟨_, rfl⟩
    rw [← hW1]
    have k0 : W1.cell? ⟨w.heap.size, 0, none⟩ = some (.int .i64 p) := by rw [hW1]; simp
    have k1 : W1.cell? ⟨w.heap.size, 1, none⟩ = some (.slice A hs.length c) := by rw [hW1]; simp
    have bw : Below w.heap.size w W1 := by rw [hW1]; go_grown
    have r0 : w.heap.size < W1.heap.size := by rw [hW1]; simp
    clear hW1
    refine (HCk W1 (hr.next bw)).out.mono ?_
    rintro e w2 ⟨rfl, hb2⟩

    have d0 := hb2.at_ r0 k0
    have d1 := hb2.at_ r0 k1
    have bw2 := bw.trans (hb2.mono bw.size)
    have r2 := Nat.lt_of_lt_of_le r0 hb2.size
    clear k0 k1 hb2
    go_wp2_with fail
    go_ret2
    exact worth_no hcode.out H0.out bw2
end Go.Proofs.Ytfojjecnmfkcfaa
namespace Go.Proofs.Ytfojjecnmfkcfaa
set_option linter.unusedVariables false
def rankS (S : List (Nat × Nat)) (hs : List (Int × Int × Int)) (i : Nat) (a : Int) : Nat := S.countP fun s => decide (slotLt (hV hs s.1) s.1 ((s.2 : Int) + 1) (hV hs i) i a)
theorem rankS_le (S : List (Nat × Nat)) (hs : List (Int × Int × Int)) (i : Nat) (a : Int) : rankS S hs i a ≤ S.length := List.countP_le_length
theorem rankS_lt {S : List (Nat × Nat)} {hs : List (Int × Int × Int)} (ho : housesOk hs) {i k : Nat} {a b : Int} (hS : (i, (a - 1).toNat) ∈ S) (h1 : 1 ≤ a) (hb : 1 ≤ b) (h : slotLt (hV hs i) i a (hV hs k) k b) : rankS S hs i a < rankS S hs k b := by
  have e : ((a - 1).toNat : Int) + 1 = a := by omega
  refine countP_lt S (fun s hs' => ?_) hS ?_ ?_
  · rw [decide_eq_true_eq] at hs' ⊢
    exact slot_trans (by omega) h1 hb (hV_nonneg ho _).1 (hV_nonneg ho _).1 (hV_nonneg ho _).1 hs' h
  · rw [decide_eq_true_eq, e]; exact h
  · rw [decide_eq_false_iff_not, e]; exact slot_irrefl _ _ _
def colS (S : List (Nat × Nat)) (hs : List (Int × Int × Int)) (i m : Nat) : Nat := sumTo (fun c => rankS S hs i ((c : Int) + 1)) m
def phiS (S : List (Nat × Nat)) (hs : List (Int × Int × Int)) (ps : List Int) : Nat := sumTo (fun i => colS S hs i (ps.getD i 0).toNat) 6
theorem phiS_move {S : List (Nat × Nat)} {hs : List (Int × Int × Int)} {ps : List Int} {i k : Nat} (hi : i < ps.length) (hk : k < ps.length) (hi6 : i < 6) (hk6 : k < 6) (hne : i ≠ k) (h0 : 0 ≤ ps.getD i 0) (h2 : 1 ≤ ps.getD k 0) :
    phiS S hs (move ps i k) + rankS S hs k (ps.getD k 0) = phiS S hs ps + rankS S hs i (ps.getD i 0 + 1) := by
  let f := fun j => colS S hs j ((move ps i k).getD j 0).toNat
  let g := fun j => colS S hs j (ps.getD j 0).toNat
  let m := fun j => if j = k then f k else g j
  have e1 : sumTo f 6 + m i = sumTo m 6 + f i := by
    refine sumTo_upd hi6 (fun j hj => ?_)
    show f j = if j = k then f k else g j
    by_cases ek : j = k
    · rw [if_pos ek, ek]
    · rw [if_neg ek]
      show colS S hs j _ = colS S hs j _
      rw [move_getD ps i k j hi hk, if_neg ek, if_neg hj]
  have e2 : sumTo m 6 + g k = sumTo g 6 + m k := by
    refine sumTo_upd hk6 (fun j hj => ?_)
    show (if j = k then f k else g j) = g j
    rw [if_neg hj]
  have m1 : m i = g i := if_neg hne
  have m2 : m k = f k := if_pos rfl
  have f1 : f i = g i + rankS S hs i (ps.getD i 0 + 1) := by
    show colS S hs i _ = colS S hs i _ + _
    rw [move_getD ps i k i hi hk, if_neg hne, if_pos rfl, show (ps.getD i 0 + 1).toNat = (ps.getD i 0).toNat + 1 by omega]
    show sumTo _ _ + rankS S hs i _ = _
    rw [show (((ps.getD i 0).toNat : Nat) : Int) + 1 = ps.getD i 0 + 1 by omega]; rfl
  have f2 : g k = f k + rankS S hs k (ps.getD k 0) := by
    show colS S hs k _ = colS S hs k _ + _
    rw [move_getD ps i k k hi hk, if_pos rfl, show (ps.getD k 0).toNat = (ps.getD k 0 - 1).toNat + 1 by omega]
    show sumTo _ _ + rankS S hs k _ = _
    rw [show (((ps.getD k 0 - 1).toNat : Nat) : Int) + 1 = ps.getD k 0 by omega]; rfl
  show sumTo f 6 + _ = sumTo g 6 + _
  omega
/-- How many pennies lie too high. -/
def distB (B qs : List Int) : Nat := sumTo (fun i => (qs.getD i 0 - B.getD i 0).toNat) 6
theorem distB_move {B qs : List Int} {i k : Nat} (hi : i < qs.length) (hk : k < qs.length) (hi6 : i < 6) (hk6 : k < 6) (hne : i ≠ k) :
    distB B (move qs i k) + (qs.getD k 0 - B.getD k 0).toNat + (qs.getD i 0 - B.getD i 0).toNat = distB B qs + (qs.getD k 0 - 1 - B.getD k 0).toNat + (qs.getD i 0 + 1 - B.getD i 0).toNat := by
  let f := fun j => ((move qs i k).getD j 0 - B.getD j 0).toNat
  let g := fun j => (qs.getD j 0 - B.getD j 0).toNat
  let m := fun j => if j = k then f k else g j
  have e1 : sumTo f 6 + m i = sumTo m 6 + f i := by
    refine sumTo_upd hi6 (fun j hj => ?_)
    show f j = if j = k then f k else g j
    by_cases ek : j = k
    · rw [if_pos ek, ek]
    · rw [if_neg ek]
      show (_ : Int).toNat = (_ : Int).toNat
      rw [move_getD qs i k j hi hk, if_neg ek, if_neg hj]
  have e2 : sumTo m 6 + g k = sumTo g 6 + m k := by
    refine sumTo_upd hk6 (fun j hj => ?_)
    show (if j = k then f k else g j) = g j
    rw [if_neg hj]
  have m1 : m i = g i := if_neg hne
  have m2 : m k = f k := if_pos rfl
  have f1 : f i = (qs.getD i 0 + 1 - B.getD i 0).toNat := by
    show (_ : Int).toNat = _
    rw [move_getD qs i k i hi hk, if_neg hne, if_pos rfl]
  have f2 : f k = (qs.getD k 0 - 1 - B.getD k 0).toNat := by
    show (_ : Int).toNat = _
    rw [move_getD qs i k k hi hk, if_pos rfl]
  have f3 : g i = (qs.getD i 0 - B.getD i 0).toNat := rfl
  have f4 : g k = (qs.getD k 0 - B.getD k 0).toNat := rfl
  have f5 : distB B (move qs i k) = sumTo f 6 := rfl
  have f6 : distB B qs = sumTo g 6 := rfl
  omega
theorem sumTo_ge (f : Nat → Nat) : ∀ n i, i < n → f i ≤ sumTo f n
  | 0, i, h => by omega
  | n + 1, i, h => by
    simp only [sumTo]
    by_cases e : i = n
    · subst e; omega
    · have := sumTo_ge f n i (by omega); omega
theorem distB_at {B qs : List Int} {i : Nat} (hi : i < 6) : qs.getD i 0 ≤ B.getD i 0 + distB B qs := by
  have := sumTo_ge (fun i => (qs.getD i 0 - B.getD i 0).toNat) 6 i hi
  have h2 : (qs.getD i 0 - B.getD i 0).toNat ≤ distB B qs := this
  omega
theorem distB_self (B : List Int) : distB B B = 0 := by simp [distB, sumTo]
/-- The slots up to 8 above what houses pay by bids. -/
def slotsB (B : List Int) : List (Nat × Nat) := (List.range 6).flatMap fun i => (List.range ((B.getD i 0).toNat + 8)).map fun c => (i, c)
theorem mem_slotsB {B : List Int} {i c : Nat} (hi : i < 6) (hc : c < (B.getD i 0).toNat + 8) : (i, c) ∈ slotsB B := by
  unfold slotsB
  simp only [List.mem_flatMap, List.mem_map, List.mem_range]
  exact ⟨i, hi, c, hc, rfl⟩
theorem sum6 : ∀ (B : List Int), B.length ≤ 6 → B.sum = B.getD 0 0 + B.getD 1 0 + B.getD 2 0 + B.getD 3 0 + B.getD 4 0 + B.getD 5 0
  | [], _ => by simp
  | [a], _ => by simp
  | [a, b], _ => by simp
  | [a, b, c], _ => by simp; omega
  | [a, b, c, d], _ => by simp; omega
  | [a, b, c, d, e], _ => by simp; omega
  | [a, b, c, d, e, f], _ => by simp; omega
  | a :: b :: c :: d :: e :: f :: g :: l, h => by simp at h
theorem slotsB_len {B : List Int} (hl : B.length ≤ 6) (h0 : ∀ i, 0 ≤ B.getD i 0) : ((slotsB B).length : Int) = B.sum + 48 := by
  have e : (slotsB B).length = (B.getD 0 0).toNat + 8 + ((B.getD 1 0).toNat + 8) + ((B.getD 2 0).toNat + 8) + ((B.getD 3 0).toNat + 8) + ((B.getD 4 0).toNat + 8) + ((B.getD 5 0).toNat + 8) := by
    unfold slotsB
    rw [show List.range 6 = [0, 1, 2, 3, 4, 5] from rfl]
    simp only [List.flatMap_cons, List.flatMap_nil, List.length_append, List.length_map, List.length_range, List.length_nil]
    omega
  rw [e, sum6 B hl]
  have := h0 0; have := h0 1; have := h0 2; have := h0 3; have := h0 4; have := h0 5
  omega
/-- What houses pay by bids, as a list of as many numbers as houses. -/
structure BidsN (hs : List (Int × Int × Int)) (p : Int) (B : List Int) : Prop where
  ok : housesOk hs
  bid : bidOk hs p = true
  eq : B = (bidPs hs p).take hs.length
  fit : fitsN hs B
  still : Still hs B
  sum : B.sum = p
theorem take_getD {hs : List (Int × Int × Int)} (ho : housesOk hs) (p : Int) (i : Nat) : ((bidPs hs p).take hs.length).getD i 0 = (bidPs hs p).getD i 0 := by
  by_cases h : i < hs.length
  · simp [List.getD_eq_getElem?_getD, h]
  · rw [fits_out ho (bidPs_fits ho p) i (by omega)]
    simp [List.getD_eq_getElem?_getD, List.getElem?_take, h]
theorem bidsN {hs : List (Int × Int × Int)} (ho : housesOk hs) {p : Int} (hk : bidOk hs p = true) : BidsN hs p ((bidPs hs p).take hs.length) := by
  have h6 : (bidPs hs p).length = 6 := (bidPs_fits ho p).1
  have hl := ho.1
  have hlen : ((bidPs hs p).take hs.length).length = hs.length := by rw [List.length_take]; omega
  refine ⟨ho, hk, rfl, ⟨hlen, fun i hi => ?_⟩, ?_, ?_⟩
  · rw [take_getD ho]; exact fits_at ho (bidPs_fits ho p) i hi
  · intro i k hi hk' hne h1 h2
    rw [take_getD ho] at h1 h2 ⊢
    rw [take_getD ho]
    exact bidPs_still ho p i k hi hk' hne h1 h2
  · have e : bidPs hs p = (bidPs hs p).take hs.length ++ List.replicate (6 - hs.length) 0 := by
      refine ext_of _ _ (by rw [List.length_append, hlen, List.length_replicate]; omega) fun i => ?_
      rw [pad_getD, take_getD ho]
    have := bidPs_sum hk
    rw [e, List.sum_append, sum_replicate0] at this
    omega
theorem fitsN_at {hs : List (Int × Int × Int)} (ho : housesOk hs) {qs : List Int} (h : fitsN hs qs) (i : Nat) : 0 ≤ qs.getD i 0 := by
  by_cases hi : i < hs.length
  · have := h.2 i hi
    have := hL_bd ho i
    omega
  · rw [List.getD_eq_getElem?_getD, List.getElem?_eq_none (by rw [h.1]; omega)]; simp
/-- Where pennies stand that were moved at most 8 times, or went back since. -/
structure Near (hs : List (Int × Int × Int)) (p : Int) (B qs : List Int) (d : Nat) : Prop where
  fit : fitsN hs qs
  sum : qs.sum = p
  near : distB B qs ≤ d
theorem near_out {hs : List (Int × Int × Int)} {p : Int} {B qs : List Int} {i k : Nat} (hB : BidsN hs p B) (h : Near hs p B qs 8) (hi : i < hs.length) (hk : k < hs.length) (ho : outB hs qs i k = true) :
    Near hs p B (move qs i k) 8 ∧ phiS (slotsB B) hs (move qs i k) < phiS (slotsB B) hs qs := by
  obtain ⟨hne, h1, h2, h3⟩ := outB_of ho
  have hl6 := hB.ok.1
  have il : i < qs.length := by rw [h.fit.1]; exact hi
  have kl : k < qs.length := by rw [h.fit.1]; exact hk
  have b1 := fitsN_at hB.ok h.fit i
  have lk := hL_bd hB.ok k
  have hd := distB_move (B := B) il kl (by omega) (by omega) hne
  have hn := h.near
  have key : ¬ (B.getD i 0 ≤ qs.getD i 0 ∧ qs.getD k 0 ≤ B.getD k 0) := by
    rintro ⟨k1, k2⟩
    have s1 := hB.still i k hi hk hne (by omega) (by omega)
    have s2 := slot_total hne s1
    have s3 := slot_mono_l (hV_nonneg hB.ok i).1 k2 (slot_mono_r (hV_nonneg hB.ok k).1 (show B.getD i 0 + 1 ≤ qs.getD i 0 + 1 by omega) s2)
    have s4 := slot_trans (by omega) (by omega) (by omega) (hV_nonneg hB.ok i).1 (hV_nonneg hB.ok k).1 (hV_nonneg hB.ok i).1 h3 s3
    exact slot_irrefl _ _ _ s4
  have hd2 : distB B (move qs i k) ≤ 8 := by omega
  refine ⟨⟨fitsN_move h.fit hi hk hne h1 h2, by rw [move_sum qs i k il kl hne]; exact h.sum, hd2⟩, ?_⟩
  have hp := phiS_move (S := slotsB B) (hs := hs) il kl (by omega) (by omega) hne b1 (by omega)
  have hq := distB_at (B := B) (qs := move qs i k) (show i < 6 by omega)
  rw [move_getD qs i k i il kl, if_neg hne, if_pos rfl] at hq
  have b2 := fitsN_at hB.ok hB.fit i
  have hr := rankS_lt (S := slotsB B) hB.ok (i := i) (k := k) (a := qs.getD i 0 + 1) (b := qs.getD k 0) (mem_slotsB (by omega) (by omega)) (by omega) (by omega) h3
  omega
theorem near_still {hs : List (Int × Int × Int)} {p : Int} {B qs : List Int} {d : Nat} (hB : BidsN hs p B) (h : Near hs p B qs d) (hn : ∀ i k, i < hs.length → k < hs.length → outB hs qs i k = false) : qs = B := by
  rw [hB.eq]
  refine bids_unique_n hB.ok hB.bid h.fit ?_ h.sum
  intro i k hi hk hne h1 h2 h3
  have e := hn i k hi hk
  rw [outB_yes hne h1 h2 h3] at e
  cases e
theorem near_low {hs : List (Int × Int × Int)} {p : Int} {B : List Int} (hB : BidsN hs p B) : ∀ (m : Nat) (qs : List Int), phiS (slotsB B) hs qs ≤ m → Near hs p B qs 8 → phiS (slotsB B) hs B ≤ phiS (slotsB B) hs qs := by
  intro m
  induction m with
  | zero =>
    intro qs hm h
    by_cases hx : ∃ i k, i < hs.length ∧ k < hs.length ∧ outB hs qs i k = true
    · obtain ⟨i, k, hi, hk, ho⟩ := hx
      have := (near_out hB h hi hk ho).2
      omega
    · have := near_still hB h fun i k hi hk => by
        cases hc : outB hs qs i k with
        | false => rfl
        | true => exact absurd ⟨i, k, hi, hk, hc⟩ hx
      rw [this]; exact Nat.le_refl _
  | succ m ih =>
    intro qs hm h
    by_cases hx : ∃ i k, i < hs.length ∧ k < hs.length ∧ outB hs qs i k = true
    · obtain ⟨i, k, hi, hk, ho⟩ := hx
      obtain ⟨h1, h2⟩ := near_out hB h hi hk ho
      have := ih _ (by omega) h1
      omega
    · have := near_still hB h fun i k hi hk => by
        cases hc : outB hs qs i k with
        | false => rfl
        | true => exact absurd ⟨i, k, hi, hk, hc⟩ hx
      rw [this]; exact Nat.le_refl _
/-- A penny goes from one house to another one. -/
theorem near_any {hs : List (Int × Int × Int)} {p : Int} {B qs : List Int} {i k d : Nat} (hB : BidsN hs p B) (h : Near hs p B qs d) (hi : i < hs.length) (hk : k < hs.length) (hne : i ≠ k) (h1 : qs.getD i 0 < hM hs i) (h2 : hL hs k < qs.getD k 0) :
    Near hs p B (move qs i k) (d + 1) ∧ phiS (slotsB B) hs (move qs i k) ≤ phiS (slotsB B) hs qs + (slotsB B).length := by
  have hl6 := hB.ok.1
  have il : i < qs.length := by rw [h.fit.1]; exact hi
  have kl : k < qs.length := by rw [h.fit.1]; exact hk
  have b1 := fitsN_at hB.ok h.fit i
  have lk := hL_bd hB.ok k
  have hd := distB_move (B := B) il kl (by omega) (by omega) hne
  have hn := h.near
  have hp := phiS_move (S := slotsB B) (hs := hs) il kl (by omega) (by omega) hne b1 (by omega)
  have hr := rankS_le (slotsB B) hs i (qs.getD i 0 + 1)
  exact ⟨⟨fitsN_move h.fit hi hk hne h1 h2, by rw [move_sum qs i k il kl hne]; exact h.sum, by omega⟩, by omega⟩
end Go.Proofs.Ytfojjecnmfkcfaa
