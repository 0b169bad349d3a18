/- Bids and asked: the shares by bids, or the error, at every bill of at most 1000 houses. -/
import Derived.Test.YtfojjecnmfkcfaaWith
namespace Go.Proofs.Ytfojjecnmfkcfaa
open Go.RowKit
set_option linter.unusedVariables false
theorem housesOk_of {p : Int} {hs : List (Int × Int × Int)} (h : ckBill p hs = 0) : housesOk hs := by
  obtain ⟨_, _, _, h4, h5⟩ := ckBill_ok h
  exact ⟨h4, h5⟩
/-- The call returns a slice of its own, and an error. -/
def RetOwnE (E : TypeId) (size n : Nat) (cells : List Value) (code : Int) (W : World) (e : Ending) (w' : World) : Prop :=
  ∃ v, e = .returned (.tuple #[v, .int .i64 code]) ∧ w'.ownsRow W.heap.size E size v n cells ∧ Below W.heap.size W w'
def bidsCode (p : Int) (hs : List (Int × Int × Int)) : Int := if ckBill p hs = 0 then (if bidOk hs p then 0 else 1) else ckBill p hs
def bidsL (p : Int) (hs : List (Int × Int × Int)) : List Int := if bidsCode p hs = 0 then (bidPs hs p).take hs.length else []
theorem bidPs_len {hs : List (Int × Int × Int)} (ho : housesOk hs) (p : Int) : (bidPs hs p).length = 6 := (paysOk_pour ho _ _ (paysOk_leasts ho _)).1
set_option maxHeartbeats 400000 in
theorem Bids_any (A : Option Addr) (c : Nat) (p : Int) (hs : List (Int × Int × Int)) (w : World) (hr : Rd w w.heap.size A (trips hs)) (hl : hs.length ≤ 1000) :
    Calls Try.prog 36 #[.agg #[.int .i64 p, .slice A hs.length c]] w (RetOwnE 3 1 (bidsL p hs).length (ints (bidsL p hs)) (bidsCode p hs) w) := by
  have HO := fun w1 (hb : Below w.heap.size w w1) => Lib.hid (opened_any A c p hs w1 (hr.next hb) hl)
  by_cases h0 : ckBill p hs = 0
  · have ho := housesOk_of h0
    obtain ⟨p0, p1, _⟩ := ckBill_ok h0
    by_cases hk : bidOk hs p = true
    · have hc : bidsCode p hs = 0 := by unfold bidsCode; rw [if_pos h0, if_pos hk]
      have hL : bidsL p hs = (bidPs hs p).take hs.length := by unfold bidsL; rw [if_pos hc]
      have hL2 : (bidsL p hs).length = hs.length := by rw [hL, List.length_take, bidPs_len ho]; have := ho.1; omega
      rw [hc, hL2, hL]
      have H0 := Lib.hid h0
      clear h0 hc hL hL2
      go_enter Try.func36, Try.ntmps36
      go_wp2_with fail
      refine (HO _ (by go_grown)).out.mono ?_
      rintro e w1 (⟨_, g, rfl, hg, hd, hb1⟩ | ⟨hne, _⟩)
      · have hbw : Below w.heap.size w w1 := Below.trans (by go_grown) (hb1.mono (by simp))
        simp at hg
        go_wp2_with fail
        refine (bid_any g p A c hs w1 hd ((hr.below hbw).more (by omega)) ho p0 p1).mono ?_
        rintro e w2 ⟨rfl, hd2, hg2⟩
        have hbw2 : Below w.heap.size w w2 := hbw.grown hg2 hbw.size (fun k hk => by injection hk with hk; omega)
        go_wp2_with fail
        refine (list_any g p A hs.length c _ w2 hd2 ho.1).mono ?_
        rintro e w3 ⟨v, rfl, hown, hb3⟩
        have HO3 := Lib.hid hown
        clear hown
        go_wp2_with fail
        go_ret2
        exact ⟨v, rfl, HO3.out.base_ hbw2.size, hbw2.trans (hb3.mono hbw2.size)⟩
      · exact absurd H0.out hne
    · have hc : bidsCode p hs = 1 := by unfold bidsCode; rw [if_pos h0, if_neg hk]
      have hL : bidsL p hs = [] := by unfold bidsL; rw [hc]; rfl
      have hk' : bidOk hs p = false := by simpa using hk
      rw [hc, hL]
      have H0 := Lib.hid h0
      clear h0 hc hL hk
      go_enter Try.func36, Try.ntmps36
      go_wp2_with fail
      refine (HO _ (by go_grown)).out.mono ?_
      rintro e w1 (⟨_, g, rfl, hg, hd, hb1⟩ | ⟨hne, _⟩)
      · have hbw : Below w.heap.size w w1 := Below.trans (by go_grown) (hb1.mono (by simp))
        simp at hg
        go_wp2_with fail
        refine (bid_any g p A c hs w1 hd ((hr.below hbw).more (by omega)) ho p0 p1).mono ?_
        rintro e w2 ⟨rfl, hd2, hg2⟩
        have hbw2 : Below w.heap.size w w2 := hbw.grown hg2 hbw.size (fun k hk => by injection hk with hk; omega)
        go_wp2_with fail
        go_ret2
        exact ⟨_, rfl, World.ownsRow_nil _ _ _ _, hbw2⟩
      · exact absurd H0.out hne
  · have hc : bidsCode p hs = ckBill p hs := by unfold bidsCode; rw [if_neg h0]
    have hL : bidsL p hs = [] := by unfold bidsL; rw [hc, if_neg h0]
    rw [hc, hL]
    have h0' : (ckBill p hs == 0) = false := by simpa using h0
    have h0'' : (ckBill p hs != 0) = true := by simpa using h0
    have H0 := Lib.hid h0
    clear h0 hc hL
    go_enter Try.func36, Try.ntmps36
    go_wp2_with fail
    refine (HO _ (by go_grown)).out.mono ?_
    rintro e w1 (⟨hz, _⟩ | ⟨_, rfl, hb1⟩)
    · exact absurd hz H0.out
    · have hbw : Below w.heap.size w w1 := Below.trans (by go_grown) (hb1.mono (by simp))
      go_wp2_with fail
      go_ret2
      exact ⟨_, rfl, World.ownsRow_nil _ _ _ _, hbw⟩
def askCode (p : Int) (hs : List (Int × Int × Int)) (house : Int) (so : Bool) : Int :=
  if ckBill p hs = 0 then (if inB house 0 ((hs.length : Int) - 1) then (if so then (if bidOk hs p then 0 else 1) else 4) else 2) else ckBill p hs
/-- The call has the shares by bids on a desk, or returns an error. -/
def Asked (p : Int) (A : Option Addr) (c : Nat) (hs : List (Int × Int × Int)) (code : Int) (W : World) (e : Ending) (w' : World) : Prop :=
  (code = 0 ∧ ∃ g, e = .returned (.tuple #[.pointer (some ⟨g, 0, none⟩), .int .i64 0]) ∧ W.heap.size ≤ g ∧ Desk w' g p A hs.length c (bidPs hs p) ∧ Below W.heap.size W w') ∨
  (code ≠ 0 ∧ e = .returned (.tuple #[.pointer none, .int .i64 code]) ∧ Below W.heap.size W w')
set_option maxHeartbeats 1000000 in
theorem asked_any (A : Option Addr) (c : Nat) (p : Int) (hs : List (Int × Int × Int)) (house : Int) (so : Bool) (w : World) (hr : Rd w w.heap.size A (trips hs)) (hl : hs.length ≤ 1000) :
    Calls Try.prog 95 #[.agg #[.int .i64 p, .slice A hs.length c], .int .i64 house, .bool so] w (Asked p A c hs (askCode p hs house so) w) := by
  have HO := fun w1 (hb : Below w.heap.size w w1) => Lib.hid (opened_any A c p hs w1 (hr.next hb) hl)
  by_cases h0 : ckBill p hs = 0
  · have ho := housesOk_of h0
    obtain ⟨p0, p1, l1, _⟩ := ckBill_ok h0
    have H0 := Lib.hid h0
    by_cases hh : inB house 0 ((hs.length : Int) - 1) = true
    · cases so with
      | true =>
        by_cases hk : bidOk hs p = true
        · have hc : askCode p hs house true = 0 := by unfold askCode; rw [if_pos h0, if_pos hh, if_pos rfl, if_pos hk]
          rw [hc]
          clear hc h0
          go_enter Try.func95, Try.ntmps95
          go_wp2_with fail
          refine (HO _ (by go_grown)).out.mono ?_
          rintro e w1 (⟨_, g, rfl, hg, hd, hb1⟩ | ⟨hne, _⟩)
          · have hbw : Below w.heap.size w w1 := Below.trans (by go_grown) (hb1.mono (by simp))
            have hcx := hb1.cell (p := ⟨w.heap.size, 1, none⟩) (by simp)
            simp at hg hcx
            go_wp2_with fail
            refine (in_any _ _ _ _).mono ?_
            rintro e w2 ⟨rfl, rfl⟩
            go_wp2_with fail
            refine (bid_any g p A c hs w1 hd ((hr.below hbw).more (by omega)) ho p0 p1).mono ?_
            rintro e w2 ⟨rfl, hd2, hg2⟩
            have hbw2 : Below w.heap.size w w2 := hbw.grown hg2 hbw.size (fun k hk => by injection hk with hk; omega)
            go_wp2_with fail
            go_ret2
            exact .inl ⟨rfl, g, rfl, by omega, hd2, hbw2⟩
          · exact absurd H0.out hne
        · have hc : askCode p hs house true = 1 := by unfold askCode; rw [if_pos h0, if_pos hh, if_pos rfl, if_neg hk]
          have hk' : bidOk hs p = false := by simpa using hk
          rw [hc]
          clear hc h0 hk
          go_enter Try.func95, Try.ntmps95
          go_wp2_with fail
          refine (HO _ (by go_grown)).out.mono ?_
          rintro e w1 (⟨_, g, rfl, hg, hd, hb1⟩ | ⟨hne, _⟩)
          · have hbw : Below w.heap.size w w1 := Below.trans (by go_grown) (hb1.mono (by simp))
            have hcx := hb1.cell (p := ⟨w.heap.size, 1, none⟩) (by simp)
            simp at hg hcx
            go_wp2_with fail
            refine (in_any _ _ _ _).mono ?_
            rintro e w2 ⟨rfl, rfl⟩
            go_wp2_with fail
            refine (bid_any g p A c hs w1 hd ((hr.below hbw).more (by omega)) ho p0 p1).mono ?_
            rintro e w2 ⟨rfl, hd2, hg2⟩
            have hbw2 : Below w.heap.size w w2 := hbw.grown hg2 hbw.size (fun k hk => by injection hk with hk; omega)
            go_wp2_with fail
            go_ret2
            exact .inr ⟨by omega, rfl, hbw2⟩
          · exact absurd H0.out hne
      | false =>
        have hc : askCode p hs house false = 4 := by unfold askCode; rw [if_pos h0, if_pos hh, if_neg (by simp)]
        rw [hc]
        clear hc h0
        go_enter Try.func95, Try.ntmps95
        go_wp2_with fail
        refine (HO _ (by go_grown)).out.mono ?_
        rintro e w1 (⟨_, g, rfl, hg, hd, hb1⟩ | ⟨hne, _⟩)
        · have hbw : Below w.heap.size w w1 := Below.trans (by go_grown) (hb1.mono (by simp))
          have hcx := hb1.cell (p := ⟨w.heap.size, 1, none⟩) (by simp)
          simp at hg hcx
          go_wp2_with fail
          refine (in_any _ _ _ _).mono ?_
          rintro e w2 ⟨rfl, rfl⟩
          go_wp2_with fail
          go_ret2
          exact .inr ⟨by omega, rfl, hbw⟩
        · exact absurd H0.out hne
    · have hc : askCode p hs house so = 2 := by unfold askCode; rw [if_pos h0, if_neg hh]
      have hh' : inB house 0 ((hs.length : Int) - 1) = false := by simpa using hh
      rw [hc]
      clear hc h0 hh
      go_enter Try.func95, Try.ntmps95
      go_wp2_with fail
      refine (HO _ (by go_grown)).out.mono ?_
      rintro e w1 (⟨_, g, rfl, hg, hd, hb1⟩ | ⟨hne, _⟩)
      · have hbw : Below w.heap.size w w1 := Below.trans (by go_grown) (hb1.mono (by simp))
        have hcx := hb1.cell (p := ⟨w.heap.size, 1, none⟩) (by simp)
        simp at hg hcx
        go_wp2_with fail
        refine (in_any _ _ _ _).mono ?_
        rintro e w2 ⟨rfl, rfl⟩
        go_wp2_with fail
        go_ret2
        exact .inr ⟨by omega, rfl, hbw⟩
      · exact absurd H0.out hne
  · have hc : askCode p hs house so = ckBill p hs := by unfold askCode; rw [if_neg h0]
    rw [hc]
    have h0' : (ckBill p hs == 0) = false := by simpa using h0
    have h0'' : (ckBill p hs != 0) = true := by simpa using h0
    have H0 := Lib.hid h0
    clear h0 hc
    go_enter Try.func95, Try.ntmps95
    go_wp2_with fail
    refine (HO _ (by go_grown)).out.mono ?_
    rintro e w1 (⟨hz, _⟩ | ⟨_, rfl, hb1⟩)
    · exact absurd hz H0.out
    · have hbw : Below w.heap.size w w1 := Below.trans (by go_grown) (hb1.mono (by simp))
      go_wp2_with fail
      go_ret2
      exact .inr ⟨H0.out, rfl, hbw⟩
end Go.Proofs.Ytfojjecnmfkcfaa
