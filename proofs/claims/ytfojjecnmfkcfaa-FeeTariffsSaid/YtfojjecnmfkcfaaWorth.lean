/- Worth: a value at which a house pays at most so many pence, and not at the next one, or the error, at every bill of at most 1000 houses. -/
import Derived.Test.YtfojjecnmfkcfaaAppeal
import Derived.Test.YtfojjecnmfkcfaaBidMath
namespace Go.Proofs.Ytfojjecnmfkcfaa
open Go.RowKit
set_option linter.unusedVariables false
theorem cell_alloc_here (W : World) (v : Value) (t : Nat) (b : Nat) {u : Value} (hb : b = W.heap.size) (hu : u = v) : (W.alloc (.cells #[v] t)).cell? ⟨b, 0, none⟩ = some u := by
  subst hb; subst hu; simp
theorem cell_alloc_old (W : World) (o : Obj) (b : Nat) (i : Nat) (h : b < W.heap.size) : (W.alloc o).cell? ⟨b, i, none⟩ = W.cell? ⟨b, i, none⟩ := World.cell?_alloc_lt _ _ ⟨b, i, none⟩ h
theorem _root_.Go.RowKit.Below.at_ {n : Nat} {w w' : World} {b i : Nat} {v : Value} (hb : Below n w w') (h : b < n) (hc : w.cell? ⟨b, i, none⟩ = some v) : w'.cell? ⟨b, i, none⟩ = some v := (hb.cell (p := ⟨b, i, none⟩) h).trans hc
def worthSo (p : Int) (hs : List (Int × Int × Int)) (j : Nat) (pence : Int) (v : Int) : Bool := bidOk (revalue hs j v) p && decide ((bidPs (revalue hs j v) p).getD j 0 ≤ pence)
set_option maxHeartbeats 1000000 in
theorem worthSo_any (g : Nat) (p : Int) (A : Option Addr) (c : Nat) (hs : List (Int × Int × Int)) (ps : List Int) (j : Nat) (pence v : Int) (b1 b2 b3 : Nat) (w : World) (hd : Desk w g p A hs.length c ps) (hr : Rd w w.heap.size A (trips hs)) (ho : housesOk hs) (hj : j < hs.length) (p0 : 0 ≤ p) (p1 : p ≤ 500)
    (v0 : 0 ≤ v) (v1 : v ≤ 1000) (hbk : bidOk hs p = true) (h1 : w.cell? ⟨b1, 0, none⟩ = some (.pointer (some ⟨g, 0, none⟩))) (h2 : w.cell? ⟨b2, 0, none⟩ = some (.int .i64 j)) (h3 : w.cell? ⟨b3, 0, none⟩ = some (.int .i64 pence)) (hb1 : b1 < w.heap.size) (hb2 : b2 < w.heap.size) (hb3 : b3 < w.heap.size) :
    Calls Try.prog 101 #[.int .i64 v, .pointer (some ⟨b1, 0, none⟩), .pointer (some ⟨b2, 0, none⟩), .pointer (some ⟨b3, 0, none⟩)] w fun e w' => e = .returned (.bool (worthSo p hs j pence v)) ∧ Below w.heap.size w w' := by
  have ho2 := housesOk_revalue ho j v v0 v1
  have q2 : paysOk (revalue hs j v) (bidPs (revalue hs j v) p) := paysOk_pour ho2 _ _ (paysOk_leasts ho2 _)
  have hj6 : j < 6 := by have := ho.1; omega
  have e2 : (bidPs (revalue hs j v) p).getD j 0 = (bidPs (revalue hs j v) p)[j]'(by rw [q2.1]; exact hj6) := by simp [List.getD_eq_getElem?_getD, List.getElem?_eq_getElem (show j < (bidPs (revalue hs j v) p).length by rw [q2.1]; exact hj6)]
  have hso : worthSo p hs j pence v = (bidOk (revalue hs j v) p && decide ((bidPs (revalue hs j v) p)[j]'(by rw [q2.1]; exact hj6) ≤ pence)) := by unfold worthSo; rw [e2]
  have Hso := Lib.hid hso
  clear hso e2
  have hj0 : (0 : Int) ≤ (j : Int) := by omega
  have hj7 : (j : Int) < 6 := by omega
  have hk : bidOk (revalue hs j v) p = true := by
    rw [bidOk_iff ho2, leastSum_revalue hs j v hj, mostSum_revalue hs j v hj]
    exact (bidOk_iff ho p).1 hbk
  · by_cases hle : (bidPs (revalue hs j v) p)[j]'(by rw [q2.1]; exact hj6) ≤ pence
    all_goals
      go_enter Try.func101, Try.ntmps101
      go_wp2_with fail
      refine (with_any g p A c hs _ j v _ hd hr ho.1 hj).mono ?_
      rintro e w3 ⟨g2, A2, rfl, hg2, hd2, hr2, hbl⟩
      have hw3 := hbl.size
      have k2 := (hbl.cell (p := ⟨b2, 0, none⟩) hb2).trans h2
      have k3 := (hbl.cell (p := ⟨b3, 0, none⟩) hb3).trans h3
      have HB : Hid (Calls Try.prog 97 #[.pointer (some ⟨g2, 0, none⟩)] w3.drew fun e w4 => e = .returned (.bool (bidOk (revalue hs j v) p)) ∧ w4.cell? ⟨g2, 2 + j, none⟩ = some (.int .i64 ((bidPs (revalue hs j v) p)[j]'(by rw [q2.1]; exact hj6))) ∧ w4.cell? ⟨b2, 0, none⟩ = some (.int .i64 j) ∧ w4.cell? ⟨b3, 0, none⟩ = some (.int .i64 pence) ∧ Below w.heap.size w w4) := by
        refine (bid_any g2 p A2 _ (revalue hs j v) w3.drew (hd2.drewN 1) (hr2.drewN 1) ho2 p0 p1).mono ?_
        rintro e w4 ⟨rfl, hd4, hg4⟩
        exact ⟨rfl, hd4.at_ hj6, (World.cell?_of_block (a := ⟨b2, 0, none⟩) (hg4.block b2 (Nat.lt_of_lt_of_le hb2 hw3) (by intro e; injection e; omega))).trans k2,
          (World.cell?_of_block (a := ⟨b3, 0, none⟩) (hg4.block b3 (Nat.lt_of_lt_of_le hb3 hw3) (by intro e; injection e; omega))).trans k3, hbl.drew.grown hg4 hw3 (fun k hk => by injection hk with hk; omega)⟩
      rw [hk] at HB
      go_wp2_with fail
      go_region_with ((go_at_call 97; refine HB.out.mono ?_; rintro e w4 ⟨rfl, hc4, hc5, hc6, hb4⟩))
      all_goals go_wp2_with fail
      all_goals go_ret
      all_goals exact ⟨ret_bool (by rw [Hso.out, hk]; simp [hle]), hb4⟩
def worthCode (p : Int) (hs : List (Int × Int × Int)) (house pence : Int) : Int :=
  if askCode p hs house (decide (0 ≤ pence)) = 0 then (if worthSo p hs house.toNat pence 0 then 0 else 1) else askCode p hs house (decide (0 ≤ pence))
def WorthPost (p : Int) (hs : List (Int × Int × Int)) (house pence : Int) (W : World) (e : Ending) (w' : World) : Prop :=
  Below W.heap.size W w' ∧ ((worthCode p hs house pence = 0 ∧ ∃ r, e = .returned (.tuple #[.int .i64 r, .int .i64 0]) ∧ Between2 (worthSo p hs house.toNat pence) 0 1001 r) ∨
    (worthCode p hs house pence ≠ 0 ∧ e = .returned (.tuple #[.int .i64 0, .int .i64 (worthCode p hs house pence)])))
set_option maxHeartbeats 1000000 in
theorem Worth_any (A : Option Addr) (c : Nat) (p : Int) (hs : List (Int × Int × Int)) (house pence : Int) (w : World) (hr : Rd w w.heap.size A (trips hs)) (hl : hs.length ≤ 1000) :
    Calls Try.prog 31 #[.agg #[.int .i64 p, .slice A hs.length c], .int .i64 house, .int .i64 pence] w (WorthPost p hs house pence w) := by
  have HA : ∀ w1, Below w.heap.size w w1 → Hid (Calls Try.prog 95 #[.agg #[.int .i64 p, .slice A hs.length c], .int .i64 house, .bool (decide (0 ≤ pence))] w1 (Asked p A c hs (askCode p hs house (decide (0 ≤ pence))) w1)) := fun w1 hb => asked_any A c p hs house (decide (0 ≤ pence)) w1 (hr.next hb) hl
  by_cases h0 : askCode p hs house (decide (0 ≤ pence)) = 0
  · obtain ⟨a1, a2, a3, a4, a5⟩ := askCode_ok h0
    have ho := housesOk_of a1
    obtain ⟨p0, p1, _⟩ := ckBill_ok a1
    obtain ⟨j, rfl⟩ := Int.eq_ofNat_of_zero_le a2
    have hj : j < hs.length := by omega
    have hpe : 0 ≤ pence := by simpa using a4
    have HA2 : ∀ w1, Below w.heap.size w w1 → Hid (Calls Try.prog 95 #[.agg #[.int .i64 p, .slice A hs.length c], .int .i64 j, .bool (decide (0 ≤ pence))] w1 (AskedYes w.heap.size p A c hs w1)) := fun w1 hb => by
      have := HA w1 hb
      rw [h0] at this
      exact this.out.mono fun _ _ h => h.yes hb.size
    rw [a4] at HA2
    have hwc : worthCode p hs j pence = if worthSo p hs j pence 0 then 0 else 1 := by unfold worthCode; rw [if_pos h0, Int.toNat_natCast]
    have Hwc := Lib.hid hwc
    have Hbk := Lib.hid a5
    clear HA h0 a1 a4 a5 hwc
    have HSo : ∀ (v : Int) (g b1 : Nat) (W : World), 0 ≤ v → v ≤ 1000 → Desk W g p A hs.length c (bidPs hs p) → Below w.heap.size w W → W.cell? ⟨b1, 0, none⟩ = some (.pointer (some ⟨g, 0, none⟩)) → W.cell? ⟨w.heap.size + 1, 0, none⟩ = some (.int .i64 j) → W.cell? ⟨w.heap.size + 2, 0, none⟩ = some (.int .i64 pence) → b1 < W.heap.size → w.heap.size + 2 < W.heap.size →
        Hid (Calls Try.prog 101 #[.int .i64 v, .pointer (some ⟨b1, 0, none⟩), .pointer (some ⟨w.heap.size + 1, 0, none⟩), .pointer (some ⟨w.heap.size + 2, 0, none⟩)] W fun e w' => e = .returned (.bool (worthSo p hs j pence v)) ∧ Below W.heap.size W w') := by
      intro v g b1 W v0 v1 hd hbw c1 c2 c3 z1 z2
      exact worthSo_any g p A c hs _ j pence v b1 _ _ W hd (hr.next hbw) ho hj p0 p1 v0 v1 Hbk.out c1 c2 c3 z1 (by omega) z2
    by_cases hs0 : worthSo p hs j pence 0 = true
    · have hw0 : worthCode p hs j pence = 0 := by rw [Hwc.out, if_pos hs0]
      have Hw0 := Lib.hid hw0
      clear hw0
      go_enter Try.func31, Try.ntmps31
      go_wp2_with fail
      refine (HA2 _ (by go_grown)).out.mono ?_
      rintro e w1 ⟨g, rfl, hg, hd, hb1⟩
      have hbw : Below w.heap.size w w1 := Below.trans (by go_grown) (hb1.mono (by simp; omega))
      have k2 := hb1.cell (p := ⟨w.heap.size + 1, 0, none⟩) (by simp)
      have k3 := hb1.cell (p := ⟨w.heap.size + 2, 0, none⟩) (by simp)
      rw [World.cell?_alloc_lt _ _ ⟨w.heap.size + 1, 0, none⟩ (by simp), cell_alloc_here _ _ _ _ (by simp) rfl] at k2
      rw [cell_alloc_here _ _ _ _ (by simp) rfl] at k3
      have hz := hb1.size
      simp at hz
      go_wp2_with fail
      refine (HSo 0 g w1.heap.size _ (by omega) (by omega) (hd.alloc _) (hbw.alloc hbw.size _) (by simp) ?_ ?_ (by simp) (by simp; omega)).out.mono ?_
      · exact (cell_alloc_old _ _ (w.heap.size + 1) 0 (by omega)).trans k2
      · exact (cell_alloc_old _ _ (w.heap.size + 2) 0 (by omega)).trans k3
      rintro e w2 ⟨rfl, hb2⟩
      have hbw2 : Below w.heap.size w w2 := (hbw.alloc hbw.size _).trans (hb2.mono (by simp; omega))
      have m1 := hb2.cell (p := ⟨w1.heap.size, 0, none⟩) (by simp)
      have m2 := hb2.cell (p := ⟨w.heap.size + 1, 0, none⟩) (by simp; omega)
      have m3 := hb2.cell (p := ⟨w.heap.size + 2, 0, none⟩) (by simp; omega)
      rw [cell_alloc_old _ _ (w.heap.size + 1) 0 (by omega)] at m2
      rw [cell_alloc_old _ _ (w.heap.size + 2) 0 (by omega)] at m3
      simp at m1
      have hz2 := hb2.size
      simp at hz2
      have hd2 := (hd.alloc _).below hb2
      have HG : Hid (Calls Try.prog 92 #[.int .i64 0, .int .i64 1001, .func (.func 101) #[] #[.pointer (some ⟨w1.heap.size, 0, none⟩), .pointer (some ⟨w.heap.size + 1, 0, none⟩), .pointer (some ⟨w.heap.size + 2, 0, none⟩)]] w2 (Halved (worthSo p hs j pence) 0 1001 w2)) := by
        refine greatest3_any _ _ _ (worthSo p hs j pence) w2 0 1001 (by omega) (by omega) (by omega) ?_
        intro n W a b hbW
        exact (HSo n g w1.heap.size W a (by omega) (hd2.below hbW) (hbw2.trans (hbW.mono hbw2.size)) (hbW.at_ (by omega) m1)
          (hbW.at_ (by omega) (m2.trans k2)) (hbW.at_ (by omega) (m3.trans k3)) (by have := hbW.size; omega) (by have := hbW.size; omega)).out
      go_wp2_with fail
      refine HG.out.mono ?_
      rintro e w3 ⟨r, rfl, hr3, hb3⟩
      have Hr3 := Lib.hid hr3
      clear hr3
      go_wp2_with fail
      go_ret2
      exact ⟨hbw2.trans (hb3.mono hbw2.size), .inl ⟨Hw0.out, r, rfl, by rw [Int.toNat_natCast]; exact Hr3.out⟩⟩
    · have hs0' : worthSo p hs j pence 0 = false := by simpa using hs0
      have hw0 : worthCode p hs j pence = 1 := by rw [Hwc.out, if_neg hs0]
      have Hw0 := Lib.hid hw0
      clear hw0 hs0
      go_enter Try.func31, Try.ntmps31
      go_wp2_with fail
      refine (HA2 _ (by go_grown)).out.mono ?_
      rintro e w1 ⟨g, rfl, hg, hd, hb1⟩
      have hbw : Below w.heap.size w w1 := Below.trans (by go_grown) (hb1.mono (by simp; omega))
      have k2 := hb1.cell (p := ⟨w.heap.size + 1, 0, none⟩) (by simp)
      have k3 := hb1.cell (p := ⟨w.heap.size + 2, 0, none⟩) (by simp)
      rw [World.cell?_alloc_lt _ _ ⟨w.heap.size + 1, 0, none⟩ (by simp), cell_alloc_here _ _ _ _ (by simp) rfl] at k2
      rw [cell_alloc_here _ _ _ _ (by simp) rfl] at k3
      have hz := hb1.size
      simp at hz
      go_wp2_with fail
      refine (HSo 0 g w1.heap.size _ (by omega) (by omega) (hd.alloc _) (hbw.alloc hbw.size _) (by simp) ?_ ?_ (by simp) (by simp; omega)).out.mono ?_
      · exact (cell_alloc_old _ _ (w.heap.size + 1) 0 (by omega)).trans k2
      · exact (cell_alloc_old _ _ (w.heap.size + 2) 0 (by omega)).trans k3
      rintro e w2 ⟨rfl, hb2⟩
      have hbw2 : Below w.heap.size w w2 := (hbw.alloc hbw.size _).trans (hb2.mono (by simp; omega))
      go_wp2_with fail
      go_ret2
      exact ⟨hbw2, .inr ⟨by rw [Hw0.out]; omega, by rw [Hw0.out]; rfl⟩⟩
  · have h0' : (askCode p hs house (decide (0 ≤ pence)) == 0) = false := by simpa using h0
    have h0'' : (askCode p hs house (decide (0 ≤ pence)) != 0) = true := by simpa using h0
    have HA2 : ∀ w1, Below w.heap.size w w1 → Hid (Calls Try.prog 95 #[.agg #[.int .i64 p, .slice A hs.length c], .int .i64 house, .bool (decide (0 ≤ pence))] w1 (AskedNo (askCode p hs house (decide (0 ≤ pence))) w1)) := fun w1 hb => (HA w1 hb).out.mono fun _ _ h => h.no h0
    have hwc : worthCode p hs house pence = askCode p hs house (decide (0 ≤ pence)) := by unfold worthCode; rw [if_neg h0]
    have Hwc := Lib.hid hwc
    have H0 := Lib.hid h0
    clear HA h0 hwc
    by_cases hpe : 0 ≤ pence
    all_goals
      first | rw [decide_eq_true hpe] at HA2 h0' h0'' | rw [decide_eq_false hpe] at HA2 h0' h0''
      go_enter Try.func31, Try.ntmps31
      go_wp2_with fail
      refine (HA2 _ (by go_grown)).out.mono ?_
      rintro e w1 ⟨rfl, hb1⟩
      have hbw : Below w.heap.size w w1 := Below.trans (by go_grown) (hb1.mono (by simp; omega))
      go_wp2_with fail
      go_ret2
      exact ⟨hbw.alloc hbw.size _, .inr ⟨by rw [Hwc.out]; exact H0.out, by rw [Hwc.out]; first | (rw [decide_eq_true hpe]; rfl) | (rw [decide_eq_false (by omega)]; rfl)⟩⟩
end Go.Proofs.Ytfojjecnmfkcfaa
