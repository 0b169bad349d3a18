/- The greatest Value with which a house pays no more: plain mathematics. Appeal and Bids at a made bill; where FeeWorth stands. -/
import Derived.Test.YtfojjecnmfkcfaaP14
import Derived.Test.YtfojjecnmfkcfaaP15
namespace Go.Proofs.Ytfojjecnmfkcfaa
open Go.RowKit
set_option linter.unusedVariables false
theorem WorthPost.form {p : Int} {hs : List (Int × Int × Int)} {house pence : Int} {W W' : World} {e : Ending} (h : WorthPost p hs house pence W e W') :
    ∃ r, e = .returned (.tuple #[.int .i64 r, .int .i64 (worthCode p hs house pence)]) ∧ Below W.heap.size W W' ∧ (worthCode p hs house pence = 0 → Between2 (worthSo p hs house.toNat pence) 0 1001 r) ∧ (worthCode p hs house pence ≠ 0 → r = 0) := by
  obtain ⟨hb, ⟨h0, r, he, hr⟩ | ⟨h0, he⟩⟩ := h
  · exact ⟨r, by rw [h0]; exact he, hb, fun _ => hr, fun h => absurd h0 h⟩
  · exact ⟨0, he, hb, fun h => absurd h h0, fun _ => rfl⟩
theorem worthSo_mono {p : Int} {hs : List (Int × Int × Int)} (ho : housesOk hs) {j : Nat} (hj : j < hs.length) (hk : bidOk hs p = true) {pence a b : Int} (h0 : 0 ≤ a) (hab : a ≤ b) (hb : b ≤ 1000) (h : worthSo p hs j pence b = true) : worthSo p hs j pence a = true := by
  rw [worthSo_eq (bidOk_reval ho hj (by omega) hb hk)] at h
  rw [worthSo_eq (bidOk_reval ho hj h0 (by omega) hk)]
  have := bids_mono ho hj h0 hab hb hk
  have h2 := of_decide_eq_true h
  exact decide_eq_true (by omega)
theorem worth_unique {p : Int} {hs : List (Int × Int × Int)} (ho : housesOk hs) {j : Nat} (hj : j < hs.length) (hk : bidOk hs p = true) {pence r1 r2 : Int} (h1 : Between2 (worthSo p hs j pence) 0 1001 r1) (h2 : Between2 (worthSo p hs j pence) 0 1001 r2) : r1 = r2 := by
  have key : ∀ r1 r2, Between2 (worthSo p hs j pence) 0 1001 r1 → Between2 (worthSo p hs j pence) 0 1001 r2 → ¬ r1 < r2 := by
    intro r1 r2 ⟨a1, a2, a3, a4⟩ ⟨b1, b2, b3, b4⟩ hlt
    have h3 : worthSo p hs j pence r2 = true := by
      rcases b3 with h | h
      · omega
      · exact h
    have h4 := worthSo_mono ho hj hk (a := r1 + 1) (b := r2) (by omega) (by omega) (by omega) h3
    rcases a4 with h | h
    · omega
    · rw [h4] at h; cases h
  have k1 := key r1 r2 h1 h2
  have k2 := key r2 r1 h2 h1
  omega
theorem worth_same {p : Int} {hs : List (Int × Int × Int)} {house pence r1 r2 : Int} (h1 : worthCode p hs house pence = 0 → Between2 (worthSo p hs house.toNat pence) 0 1001 r1) (h2 : worthCode p hs house pence ≠ 0 → r1 = 0)
    (h3 : worthCode p hs house pence = 0 → Between2 (worthSo p hs house.toNat pence) 0 1001 r2) (h4 : worthCode p hs house pence ≠ 0 → r2 = 0) : r1 = r2 := by
  by_cases h : worthCode p hs house pence = 0
  · have ha : askCode p hs house (decide (0 ≤ pence)) = 0 := by
      by_cases h' : askCode p hs house (decide (0 ≤ pence)) = 0
      · exact h'
      · unfold worthCode at h; rw [if_neg h'] at h; exact absurd h h'
    obtain ⟨k1, k2, k3, _, k5⟩ := askCode_ok ha
    exact worth_unique (housesOk_of k1) (by omega) k5 (h1 h) (h3 h)
  · rw [h2 h, h4 h]
end Go.Proofs.Ytfojjecnmfkcfaa
namespace Go.Proofs.Ytfojjecnmfkcfaa
open Go.RowKit
set_option linter.unusedVariables false
def AppB (p : Int) (hs : List (Int × Int × Int)) (j : Nat) (v : Int) (W : World) (e : Ending) (w' : World) : Prop :=
  ∃ (b off c : Nat) (x : Int), e = .returned (.tuple #[.slice (some ⟨b, off, none⟩) hs.length c, .int .i64 ((bidPs hs p).getD j 0 - x), .int .i64 0]) ∧ b < w'.heap.size ∧ w'.cell? ⟨b, off + j, none⟩ = some (.int .i64 x) ∧ 0 ≤ x ∧ x ≤ 500 ∧ Hid (∀ n, worthSo p hs j n v = decide (x ≤ n)) ∧ Below W.heap.size W w'
def NowB (p : Int) (hs : List (Int × Int × Int)) (j : Nat) (W : World) (e : Ending) (w' : World) : Prop :=
  ∃ b off c : Nat, e = .returned (.tuple #[.slice (some ⟨b, off, none⟩) hs.length c, .int .i64 0]) ∧ w'.cell? ⟨b, off + j, none⟩ = some (.int .i64 ((bidPs hs p).getD j 0)) ∧ Below W.heap.size W w'
theorem appealB_any (A : Option Addr) (c : Nat) (p : Int) (hs : List (Int × Int × Int)) (j : Nat) (v : Int) (w : World) (hr : Rd w w.heap.size A (trips hs)) (hc : ckBill p hs = 0) (hk : bidOk hs p = true) (hj : j < hs.length) (v0 : 0 ≤ v) (v1 : v ≤ 1000) :
    Calls Try.prog 28 #[.agg #[.int .i64 p, .slice A hs.length c], .int .i64 (j : Int), .int .i64 v] w (AppB p hs j v w) := by
  have ho := housesOk_of hc
  have hl := ho.1
  have hk2 := bidOk_reval ho hj v0 v1 hk
  have ho2 := housesOk_reval ho hj v0 v1
  have hcode : appealCode p hs (j : Int) v = 0 := by
    unfold appealCode askCode
    rw [if_pos hc, if_pos (inB_iff.2 (by omega)), if_pos (inB_iff.2 (by omega)), if_pos hk]
  have := Appeal_any A c p hs (j : Int) v w hr (by omega)
  have hL : appealL p hs (j : Int) v = (bidPs (revalue hs j v) p).take hs.length := by unfold appealL; rw [if_pos hcode, Int.toNat_natCast]
  have hD : appealD p hs (j : Int) v = (bidPs hs p).getD j 0 - (bidPs (revalue hs j v) p).getD j 0 := by unfold appealD; rw [if_pos hcode, Int.toNat_natCast]
  rw [hcode, hL, hD] at this
  refine this.mono ?_
  rintro e w' ⟨u, rfl, hown, hb⟩
  obtain ⟨B, cB, rfl, _, hR⟩ := own_slice hown
  have hlen := take_len ho2 p
  have hat := take_at ho2 p (j := j) (by rw [revalue_length]; exact hj)
  rw [revalue_length] at hlen
  simp only [revalue_length] at hat
  obtain ⟨b, off, rfl, hbb, e1⟩ := hR.int (k := j) (by rw [hlen]; exact hj)
  rw [hat] at e1
  rw [hlen]
  have bd := pays_bd ho2 p j
  exact ⟨b, off, cB, _, rfl, hbb, e1, bd.1, bd.2, fun n => worthSo_eq hk2, hb⟩
theorem bidsN_any (A : Option Addr) (c : Nat) (p : Int) (hs : List (Int × Int × Int)) (j : Nat) (w : World) (hr : Rd w w.heap.size A (trips hs)) (hc : ckBill p hs = 0) (hk : bidOk hs p = true) (hj : j < hs.length) :
    Calls Try.prog 36 #[.agg #[.int .i64 p, .slice A hs.length c]] w (NowB p hs j w) := by
  have ho := housesOk_of hc
  have hl := ho.1
  have hcode : bidsCode p hs = 0 := by unfold bidsCode; rw [if_pos hc, if_pos hk]
  have := Bids_any A c p hs w hr (by omega)
  have hL : bidsL p hs = (bidPs hs p).take hs.length := by unfold bidsL; rw [if_pos hcode]
  rw [hcode, hL] at this
  refine this.mono ?_
  rintro e w' ⟨u, rfl, hown, hb⟩
  obtain ⟨B, cB, rfl, _, hR⟩ := own_slice hown
  have hlen := take_len ho p
  obtain ⟨b, off, rfl, hbb, e1⟩ := hR.int (k := j) (by rw [hlen]; exact hj)
  rw [take_at ho p hj] at e1
  rw [hlen]
  exact ⟨b, off, cB, rfl, e1, hb⟩
structure WS (W0 wr : World) (b5 bL : Nat) (A : Option Addr) (cA : Nat) (p : Int) (hs : List (Int × Int × Int)) (xs : List Int) : Prop where
  x0 : wr.cell? ⟨b5, 0, none⟩ = some (.int .i64 p)
  x1 : wr.cell? ⟨b5, 1, none⟩ = some (.slice A hs.length cA)
  rA : Rd wr b5 A (trips hs)
  lst : Lst wr bL xs
  bl : Below W0.heap.size W0 wr
  lt : b5 < wr.heap.size
theorem WS.below {W0 wr w1 : World} {b5 bL : Nat} {A : Option Addr} {cA : Nat} {p : Int} {hs : List (Int × Int × Int)} {xs : List Int} (h : WS W0 wr b5 bL A cA p hs xs) (hb : Below wr.heap.size wr w1) : WS W0 w1 b5 bL A cA p hs xs :=
  ⟨hb.at_ h.lt h.x0, hb.at_ h.lt h.x1, h.rA.keep fun b o hl => hb.cell (p := ⟨b, o, none⟩) (Nat.lt_trans hl h.lt), h.lst.below hb, h.bl.trans (hb.mono h.bl.size), Nat.lt_of_lt_of_le h.lt hb.size⟩
theorem WS.drewN {W0 wr : World} {b5 bL : Nat} {A : Option Addr} {cA : Nat} {p : Int} {hs : List (Int × Int × Int)} {xs : List Int} (h : WS W0 wr b5 bL A cA p hs xs) (n : Nat) : WS W0 (wr.drewN n) b5 bL A cA p hs xs :=
  ⟨h.x0, h.x1, h.rA.drewN n, ⟨h.lst.lt, h.lst.cells, h.lst.free⟩, below_drewN h.bl n, h.lt⟩
theorem wrap_any (v n : Int) (w : World) (h1 : 1 ≤ n) (h2 : n ≤ 1000000000) : Calls Try.prog 41 #[.int .i64 v, .int .i64 n] w fun e w' => (∃ r : Int, e = .returned (.int .i64 r) ∧ 0 ≤ r ∧ r < n) ∧ w' = w := by
  have nn : ¬ n = 0 := by omega
  obtain ⟨t1, t2⟩ : -n < v.tmod n ∧ v.tmod n < n := by
    have a1 := Int.tmod_lt_of_pos v (show 0 < n by omega)
    have a2 := Int.neg_tmod v n
    have a3 := Int.tmod_lt_of_pos (-v) (show 0 < n by omega)
    rw [Int.neg_tmod] at a3
    omega
  generalize hm : v.tmod n = m at *
  have HM := Lib.hid hm
  by_cases h : v.tmod n < 0
  all_goals
    rw [hm] at h
    clear hm
    have hmm : v.tmod n = m := HM.out
    go_enter Try.func41, Try.ntmps41
    go_wp2_with fail
    go_ret
    exact ⟨⟨_, rfl, by omega, by omega⟩, rfl⟩
/-- Up to which Values a house pays at most so many pence. -/
theorem worth_says {p : Int} {hs : List (Int × Int × Int)} (ho : housesOk hs) {j : Nat} (hj : j < hs.length) (hk : bidOk hs p = true) {pence r v : Int} (h1 : worthCode p hs j pence = 0 → Between2 (worthSo p hs j pence) 0 1001 r) (h2 : worthCode p hs j pence = if worthSo p hs j pence 0 then 0 else 1) (v0 : 0 ≤ v) (v1 : v ≤ 1000) :
    worthSo p hs j pence v = (decide (worthCode p hs j pence = 0) && decide (v ≤ r)) := by
  by_cases h : worthSo p hs j pence 0 = true
  · have hc : worthCode p hs j pence = 0 := by rw [h2, if_pos h]
    obtain ⟨a1, a2, a3, a4⟩ := h1 hc
    rw [hc, decide_eq_true rfl, Bool.true_and]
    by_cases hv : v ≤ r
    · rw [decide_eq_true hv]
      have h3 : worthSo p hs j pence r = true := by
        rcases a3 with h | h
        · rw [h]; assumption
        · exact h
      exact worthSo_mono ho hj hk v0 hv (by omega) h3
    · rw [decide_eq_false hv]
      cases hx : worthSo p hs j pence v with
      | false => rfl
      | true =>
        have h4 := worthSo_mono ho hj hk (a := r + 1) (b := v) (by omega) (by omega) v1 hx
        rcases a4 with h | h
        · omega
        · rw [h4] at h; cases h
  · have hc : worthCode p hs j pence = 1 := by rw [h2, if_neg h]
    rw [hc]
    cases hx : worthSo p hs j pence v with
    | false => rfl
    | true => exact absurd (worthSo_mono ho hj hk (by omega) v0 v1 hx) h
end Go.Proofs.Ytfojjecnmfkcfaa
