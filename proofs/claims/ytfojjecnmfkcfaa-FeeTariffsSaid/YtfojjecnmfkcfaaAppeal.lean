/- Appeal: the shares by bids with another value, and how much less, or the error, at every bill of at most 1000 houses. -/
import Derived.Test.YtfojjecnmfkcfaaAsk
import Derived.Test.YtfojjecnmfkcfaaHalve
namespace Go.Proofs.Ytfojjecnmfkcfaa
open Go.RowKit
set_option linter.unusedVariables false
theorem housesOk_revalue {hs : List (Int × Int × Int)} (ho : housesOk hs) (j : Nat) (v : Int) (h0 : 0 ≤ v) (h1 : v ≤ 1000) : housesOk (revalue hs j v) := by
  refine ⟨by rw [revalue_length]; exact ho.1, fun x hx => ?_⟩
  unfold revalue at hx
  rcases List.mem_or_eq_of_mem_set hx with h | rfl
  · exact ho.2 x h
  · by_cases hj : j < hs.length
    · have := ho.2 hs[j] (List.getElem_mem _)
      simp only [List.getD_eq_getElem?_getD, List.getElem?_eq_getElem hj, Option.getD_some]
      omega
    · simp only [List.getD_eq_getElem?_getD, List.getElem?_eq_none (Nat.le_of_not_lt hj), Option.getD_none]
      omega
theorem keep2' {w0 w1 w2 : World} {b1 o1 b2 o2 : Nat} {v1 v2 : Value} (hB : b1 < w0.heap.size) (hB2 : b2 < w0.heap.size) (h : w1.cell? ⟨b1, o1, none⟩ = some v1 ∧ w1.cell? ⟨b2, o2, none⟩ = some v2 ∧ Below w0.heap.size w0 w1)
    (hb : Below w1.heap.size w1 w2) : w2.cell? ⟨b1, o1, none⟩ = some v1 ∧ w2.cell? ⟨b2, o2, none⟩ = some v2 ∧ Below w0.heap.size w0 w2 := by
  obtain ⟨h1, h2, h5⟩ := h
  exact ⟨(hb.cell (p := ⟨b1, o1, none⟩) (Nat.lt_of_lt_of_le hB h5.size)).trans h1, (hb.cell (p := ⟨b2, o2, none⟩) (Nat.lt_of_lt_of_le hB2 h5.size)).trans h2, h5.trans (hb.mono h5.size)⟩
theorem and3' {a b c : Prop} (h : a ∧ b ∧ c) : c := h.2.2
def AskedYes (B : Nat) (p : Int) (A : Option Addr) (c : Nat) (hs : List (Int × Int × Int)) (W : World) (e : Ending) (w' : World) : Prop :=
  ∃ g, e = .returned (.tuple #[.pointer (some ⟨g, 0, none⟩), .int .i64 0]) ∧ B ≤ g ∧ Desk w' g p A hs.length c (bidPs hs p) ∧ Below W.heap.size W w'
def AskedNo (code : Int) (W : World) (e : Ending) (w' : World) : Prop := e = .returned (.tuple #[.pointer none, .int .i64 code]) ∧ Below W.heap.size W w'
theorem Asked.yes {p : Int} {A : Option Addr} {c : Nat} {hs : List (Int × Int × Int)} {W : World} {e : Ending} {w' : World} {B : Nat} (hB : B ≤ W.heap.size) (h : Asked p A c hs 0 W e w') : AskedYes B p A c hs W e w' := by
  rcases h with ⟨_, g, h1, h2, h3⟩ | ⟨h, _⟩
  · exact ⟨g, h1, Nat.le_trans hB h2, h3⟩
  · exact absurd rfl h
theorem Asked.no {p : Int} {A : Option Addr} {c : Nat} {hs : List (Int × Int × Int)} {code : Int} (hc : code ≠ 0) {W : World} {e : Ending} {w' : World} (h : Asked p A c hs code W e w') : AskedNo code W e w' := by
  rcases h with ⟨h, _⟩ | ⟨_, h⟩
  · exact absurd h hc
  · exact h
def appealCode (p : Int) (hs : List (Int × Int × Int)) (house value : Int) : Int := askCode p hs house (inB value 0 1000)
def appealL (p : Int) (hs : List (Int × Int × Int)) (house value : Int) : List Int := if appealCode p hs house value = 0 then (bidPs (revalue hs house.toNat value) p).take hs.length else []
def appealD (p : Int) (hs : List (Int × Int × Int)) (house value : Int) : Int := if appealCode p hs house value = 0 then (bidPs hs p).getD house.toNat 0 - (bidPs (revalue hs house.toNat value) p).getD house.toNat 0 else 0
theorem askCode_ok {p : Int} {hs : List (Int × Int × Int)} {house : Int} {so : Bool} (h : askCode p hs house so = 0) : ckBill p hs = 0 ∧ 0 ≤ house ∧ house < hs.length ∧ so = true ∧ bidOk hs p = true := by
  unfold askCode at h
  split at h
  · split at h
    · split at h
      · split at h
        · rename_i h1 h2 h3 h4
          have := inB_iff.1 h2
          exact ⟨h1, by omega, by omega, h3, h4⟩
        · omega
      · omega
    · omega
  · rename_i h1; exact absurd h h1
def RetApp (E : TypeId) (xs : List Int) (d code : Int) (W : World) (e : Ending) (w' : World) : Prop :=
  ∃ v, e = .returned (.tuple #[v, .int .i64 d, .int .i64 code]) ∧ w'.ownsRow W.heap.size E 1 v xs.length (ints xs) ∧ Below W.heap.size W w'
def ListAt (E : TypeId) (B : Nat) (xs : List Int) (W : World) (e : Ending) (w' : World) : Prop := ∃ v, e = .returned v ∧ w'.ownsRow B E 1 v xs.length (ints xs) ∧ Below W.heap.size W w'
set_option maxHeartbeats 1000000 in
theorem Appeal_any (A : Option Addr) (c : Nat) (p : Int) (hs : List (Int × Int × Int)) (house value : Int) (w : World) (hr : Rd w w.heap.size A (trips hs)) (hl : hs.length ≤ 1000) :
    Calls Try.prog 28 #[.agg #[.int .i64 p, .slice A hs.length c], .int .i64 house, .int .i64 value] w (RetApp 3 (appealL p hs house value) (appealD p hs house value) (appealCode p hs house value) w) := by
  have HA : ∀ w1, Below w.heap.size w w1 → Hid (Calls Try.prog 95 #[.agg #[.int .i64 p, .slice A hs.length c], .int .i64 house, .bool (inB value 0 1000)] w1 (Asked p A c hs (appealCode p hs house value) w1)) := fun w1 hb => asked_any A c p hs house (inB value 0 1000) w1 (hr.next hb) hl
  by_cases h0 : appealCode p hs house value = 0
  · obtain ⟨a1, a2, a3, a4, a5⟩ := askCode_ok h0
    have ho := housesOk_of a1
    obtain ⟨p0, p1, _⟩ := ckBill_ok a1
    obtain ⟨v0, v1⟩ := inB_iff.1 a4
    obtain ⟨j, rfl⟩ := Int.eq_ofNat_of_zero_le a2
    have hj : j < hs.length := by omega
    have ho2 := housesOk_revalue ho j value v0 v1
    have hlr := revalue_length hs j value
    have hL : appealL p hs j value = (bidPs (revalue hs j value) p).take hs.length := by unfold appealL; rw [if_pos h0, Int.toNat_natCast]
    have hD : appealD p hs j value = (bidPs hs p).getD j 0 - (bidPs (revalue hs j value) p).getD j 0 := by unfold appealD; rw [if_pos h0, Int.toNat_natCast]
    have q1 := paysOk_pour ho (p - (leastsK hs hs.length).sum).toNat _ (paysOk_leasts ho hs.length)
    have q2 := paysOk_pour ho2 (p - (leastsK (revalue hs j value) (revalue hs j value).length).sum).toNat _ (paysOk_leasts ho2 (revalue hs j value).length)
    have q1' : paysOk hs (bidPs hs p) := q1
    have q2' : paysOk (revalue hs j value) (bidPs (revalue hs j value) p) := q2
    have z1 := q1'.2 j
    have z2 := q2'.2 j
    have hj6 : j < 6 := by have := ho.1; omega
    have hL2 : (appealL p hs j value).length = hs.length := by rw [hL, List.length_take, q2'.1]; have := ho.1; omega
    have HL : Hid (∀ w3 w', RetOwn 3 1 (revalue hs j value).length (ints ((bidPs (revalue hs j value) p).take (revalue hs j value).length)) w3 (.returned w') w → True) := fun _ _ _ => trivial
    rw [h0] at HA ⊢
    have HA2 : ∀ w1, Below w.heap.size w w1 → Hid (Calls Try.prog 95 #[.agg #[.int .i64 p, .slice A hs.length c], .int .i64 j, .bool (inB value 0 1000)] w1 (AskedYes w.heap.size p A c hs w1)) := fun w1 hb => (HA w1 hb).out.mono fun _ _ h => h.yes hb.size
    rw [a4] at HA2
    clear HA
    rw [hD]
    have e1 : (bidPs hs p).getD j 0 = (bidPs hs p)[j]'(by rw [q1'.1]; exact hj6) := by simp [List.getD_eq_getElem?_getD, List.getElem?_eq_getElem (show j < (bidPs hs p).length by rw [q1'.1]; exact hj6)]
    have e2 : (bidPs (revalue hs j value) p).getD j 0 = (bidPs (revalue hs j value) p)[j]'(by rw [q2'.1]; exact hj6) := by simp [List.getD_eq_getElem?_getD, List.getElem?_eq_getElem (show j < (bidPs (revalue hs j value) p).length by rw [q2'.1]; exact hj6)]
    rw [e1] at z1 ⊢
    rw [e2] at z2 ⊢
    obtain ⟨z1, z1'⟩ := z1
    obtain ⟨z2, z2'⟩ := z2
    have Hlr := Lib.hid hlr
    have HL1 := Lib.hid hL
    have HL2 := Lib.hid hL2
    have Ha4 := Lib.hid a4
    clear h0 hL hD hL2 e1 e2 q1 q2 hlr HL a1 a4 a5
    have hj0 : (0 : Int) ≤ (j : Int) := by omega
    have hj7 : (j : Int) < 6 := by omega
    go_enter Try.func28, Try.ntmps28
    go_wp2_with fail
    have hin : ∀ W : World, Hid (Calls Try.prog 83 #[.int .i64 value, .int .i64 0, .int .i64 1000] W fun e w' => e = .returned (.bool true) ∧ W = w') := fun W => by
      have := in_any value 0 1000 W
      rwa [Ha4.out] at this
    obtain ⟨W1, hW1⟩ : ∃ W1, W1 = w.alloc (.cells #[.int .i64 p, .slice A hs.length c] 39) := ⟨_, rfl⟩
    rw [← hW1]
    have k1 : W1.cell? ⟨w.heap.size, 0, none⟩ = some (.int .i64 p) := by rw [hW1]; simp
    have k2 : W1.cell? ⟨w.heap.size, 1, none⟩ = some (.slice A hs.length c) := by rw [hW1]; simp
    have k3 : Below w.heap.size w W1 := by rw [hW1]; go_grown
    have k4 : w.heap.size < W1.heap.size := by rw [hW1]; simp
    clear hW1
    go_region_held3 (fun w' => w'.cell? ⟨w.heap.size, 0, none⟩ = some (.int .i64 p) ∧ w'.cell? ⟨w.heap.size, 1, none⟩ = some (.slice A hs.length c) ∧ Below W1.heap.size W1 w') (first | exact ⟨k1, k2, (Below.refl _ _).drew⟩ | exact keep2' k4 k4 (by assumption) (by assumption) | assumption | trivial)
      (first | (go_at_call 83; refine (hin _).out.mono ?_; rintro e w' ⟨rfl, rfl⟩) | (go_at_call 95; refine ((HA2 _ (k3.trans (Below.mono (and3' (by assumption)) k3.size))).out).mono ?_; rintro e w' ⟨g, rfl, hg, hd, hb1⟩))
    have hbw : Below w.heap.size w _ := k3.trans (Below.mono (and3' (by assumption)) k3.size)
    have hcc : World.cell? _ ⟨w.heap.size, 0, none⟩ = some (.int .i64 p) := And.left (by assumption)
    go_wp2_with fail
    refine (with_any g p A c hs _ j value _ hd (hr.next hbw) ho.1 hj).mono ?_
    rintro e w3 ⟨g2, A2, rfl, hg2, hd2, hr2, hb3⟩
    have hbw3 := hbw.trans (hb3.mono hbw.size)
    have hds := hd.below hb3
    have hsz3 := hbw.size
    go_wp2_with fail
    refine (bid_any g2 p A2 _ (revalue hs j value) w3 hd2 hr2 ho2 p0 p1).mono ?_
    rintro e w4 ⟨rfl, hd4, hg4⟩
    have hbw4 : Below w.heap.size w w4 := hbw3.grown hg4 hbw3.size (fun k hk => by injection hk with hk; omega)
    have hgg : g < g2 := by have := hd.lt; omega
    have hds4 : Desk w4 g p A hs.length c (bidPs hs p) := hds.of_cells (Nat.lt_of_lt_of_le hds.lt hg4.size) (hg4.block g hds.lt (by intro e; injection e; omega))
    have hc1 := hds4.at_ hj6
    have hc2 := hd4.at_ hj6
    have hl1 := hds4.lt
    have hl2 := hd4.lt
    have HLst : ∀ w5, Below w4.heap.size w4 w5 → Hid (Calls Try.prog 98 #[.pointer (some ⟨g2, 0, none⟩)] w5 (ListAt 3 w.heap.size (appealL p hs j value) w5)) := by
      intro w5 hb
      refine (list_any g2 p A2 (revalue hs j value).length _ _ w5 (hd4.below hb) ho2.1).mono ?_
      rintro e w6 ⟨v, rfl, ho, hb6⟩
      refine ⟨v, rfl, ?_, hb6⟩
      rw [HL2.out, HL1.out]
      rw [Hlr.out] at ho
      exact ho.base_ (Nat.le_trans hbw4.size hb.size)
    go_wp2_with fail
    have e3 : IntKind.i64.wrap ((bidPs hs p)[j]'(by rw [q1'.1]; exact hj6) - (bidPs (revalue hs j value) p)[j]'(by rw [q2'.1]; exact hj6)) = (bidPs hs p)[j]'(by rw [q1'.1]; exact hj6) - (bidPs (revalue hs j value) p)[j]'(by rw [q2'.1]; exact hj6) := IntWalk.i64_in _ (by omega)
    go_region_held3 (fun w' => w'.cell? ⟨g, 2 + j, none⟩ = some (.int .i64 ((bidPs hs p)[j]'(by rw [q1'.1]; exact hj6))) ∧ w'.cell? ⟨g2, 2 + j, none⟩ = some (.int .i64 ((bidPs (revalue hs j value) p)[j]'(by rw [q2'.1]; exact hj6))) ∧ Below w4.heap.size w4 w') (first | exact ⟨hc1, hc2, (Below.refl _ _).drew⟩ | exact keep2' hl1 hl2 (by assumption) (by assumption) | assumption | trivial)
      (first | (go_at_call 98; refine ((HLst _ (and3' (by assumption))).out).mono ?_; rintro e w' ⟨v, rfl, hown, hb5⟩))
    have HO := Lib.hid hown
    have hbw5 : Below w4.heap.size w4 _ := and3' (by assumption)
    clear hown e3
    go_wp2_with fail
    go_ret3
    exact ⟨v, rfl, HO.out, hbw4.trans (hbw5.mono hbw4.size)⟩
  · have hL : appealL p hs house value = [] := by unfold appealL; rw [if_neg h0]
    have hD : appealD p hs house value = 0 := by unfold appealD; rw [if_neg h0]
    have h0' : (appealCode p hs house value == 0) = false := by simpa using h0
    have h0'' : (appealCode p hs house value != 0) = true := by simpa using h0
    have HA2 : ∀ w1, Below w.heap.size w w1 → Hid (Calls Try.prog 95 #[.agg #[.int .i64 p, .slice A hs.length c], .int .i64 house, .bool (inB value 0 1000)] w1 (AskedNo (appealCode p hs house value) w1)) := fun w1 hb => (HA w1 hb).out.mono fun _ _ h => h.no h0
    rw [hL, hD]
    clear HA h0 hL hD
    go_enter Try.func28, Try.ntmps28
    go_wp2_with fail
    obtain ⟨W1, hW1⟩ : ∃ W1, W1 = w.alloc (.cells #[.int .i64 p, .slice A hs.length c] 39) := ⟨_, rfl⟩
    rw [← hW1]
    have k1 : W1.cell? ⟨w.heap.size, 0, none⟩ = some (.int .i64 p) := by rw [hW1]; simp
    have k2 : W1.cell? ⟨w.heap.size, 1, none⟩ = some (.slice A hs.length c) := by rw [hW1]; simp
    have k3 : Below w.heap.size w W1 := by rw [hW1]; go_grown
    have k4 : w.heap.size < W1.heap.size := by rw [hW1]; simp
    clear hW1
    go_region_held3 (fun w' => w'.cell? ⟨w.heap.size, 0, none⟩ = some (.int .i64 p) ∧ w'.cell? ⟨w.heap.size, 1, none⟩ = some (.slice A hs.length c) ∧ Below W1.heap.size W1 w') (first | exact ⟨k1, k2, (Below.refl _ _).drew⟩ | exact keep2' k4 k4 (by assumption) (by assumption) | assumption | trivial)
      (first | (go_at_call 83; refine (in_any _ _ _ _).mono ?_; rintro e w' ⟨rfl, rfl⟩) | (go_at_call 95; refine ((HA2 _ (k3.trans (Below.mono (and3' (by assumption)) k3.size))).out).mono ?_; rintro e w' ⟨rfl, hb1⟩))
    have hbw : Below w.heap.size w _ := k3.trans (Below.mono (and3' (by assumption)) k3.size)
    go_wp2_with fail
    go_ret3
    exact ⟨_, rfl, World.ownsRow_nil _ _ _ _, hbw⟩
end Go.Proofs.Ytfojjecnmfkcfaa
