/- Sums of shares by bids: plain mathematics. Worth: a value at which a house pays at most so many pence, and not at the next one, or the error, at every bill of at most 1000 houses. The order of pennies: which penny of which house comes first; a state in which no house outbids another one is the only one of its sum. Plain mathematics. A measure that falls with each penny that moves to a house that outbids: the ranks of all pennies. Plain mathematics. -/
import Derived.Test.YtfojjecnmfkcfaaGreatP6
namespace Go.Proofs.YtfojjecnmfkcfaaGreat
open Go.RowKit
set_option linter.unusedVariables false
/-- A number of each house, as six. -/
def pad6 (f : Int × Int × Int → Int) (hs : List (Int × Int × Int)) : List Int := (List.range 6).map fun i => if i < hs.length then f (hs.getD i (0, 0, 0)) else 0
theorem pad6_sum (f : Int × Int × Int → Int) (hs : List (Int × Int × Int)) (hl : hs.length ≤ 6) : (pad6 f hs).sum = (hs.map f).sum := by
  have h6 : List.range 6 = [0, 1, 2, 3, 4, 5] := rfl
  unfold pad6
  rw [h6]
  match hs, hl with
  | [], _ => simp
  | [a], _ => simp
  | [a, b], _ => simp
  | [a, b, c], _ => simp
  | [a, b, c, d], _ => simp
  | [a, b, c, d, e], _ => simp
  | [a, b, c, d, e, g], _ => simp
  | _ :: _ :: _ :: _ :: _ :: _ :: _ :: _, h => simp at h
theorem pad6_len (f : Int × Int × Int → Int) (hs : List (Int × Int × Int)) : (pad6 f hs).length = 6 := by simp [pad6]
theorem pad6_get (f : Int × Int × Int → Int) (hs : List (Int × Int × Int)) (i : Nat) (hl : hs.length ≤ 6) : (pad6 f hs).getD i 0 = if i < hs.length then f (hs.getD i (0, 0, 0)) else 0 := by
  unfold pad6
  rw [List.getD_eq_getElem?_getD, List.getElem?_map]
  by_cases h : i < 6
  · rw [List.getElem?_range h]; simp
  · have h2 : ¬ i < hs.length := by omega
    rw [List.getElem?_eq_none (by simp; omega), if_neg h2]; rfl
theorem leastsK_pad (hs : List (Int × Int × Int)) : leastsK hs hs.length = pad6 (·.2.1) hs := rfl
def leastSum (hs : List (Int × Int × Int)) : Int := (hs.map (·.2.1)).sum
def mostSum (hs : List (Int × Int × Int)) : Int := (hs.map (·.2.2)).sum
theorem sum_le_of (a b : List Int) (hl : a.length = b.length) (h : ∀ i, a.getD i 0 ≤ b.getD i 0) : a.sum ≤ b.sum := by
  induction a generalizing b with
  | nil => match b, hl with
    | [], _ => simp
  | cons x a ih =>
    match b, hl with
    | y :: b, hl =>
      have h0 := h 0
      have := ih b (by simpa using hl) (fun i => by simpa using h (i + 1))
      simp at h0
      simp; omega
theorem ext_of (a b : List Int) (hl : a.length = b.length) (h : ∀ i, a.getD i 0 = b.getD i 0) : a = b := by
  apply List.ext_getElem hl
  intro i h1 h2
  have := h i
  rwa [List.getD_eq_getElem?_getD, List.getD_eq_getElem?_getD, List.getElem?_eq_getElem h1, List.getElem?_eq_getElem h2] at this
/-- Pays within what houses pay at least and at most. -/
def fits (hs : List (Int × Int × Int)) (ps : List Int) : Prop := ps.length = 6 ∧ ∀ i, (pad6 (·.2.1) hs).getD i 0 ≤ ps.getD i 0 ∧ ps.getD i 0 ≤ (pad6 (·.2.2) hs).getD i 0
theorem fits_leasts {hs : List (Int × Int × Int)} (ho : housesOk hs) : fits hs (leastsK hs hs.length) := by
  refine ⟨leastsK_len _ _, fun i => ⟨Int.le_refl _, ?_⟩⟩
  rw [leastsK_pad, pad6_get _ _ _ ho.1, pad6_get _ _ _ ho.1]
  split
  · rename_i h
    rw [List.getD_eq_getElem?_getD, List.getElem?_eq_getElem h, Option.getD_some]
    have := ho.2 hs[i] (List.getElem_mem _)
    omega
  · omega
theorem fits_bump {hs : List (Int × Int × Int)} (ho : housesOk hs) {ps : List Int} (h : fits hs ps) {j : Nat} (hj : j < hs.length) (hc : canB hs ps j = true) : fits hs (bump ps j) := by
  have hl := ho.1
  refine ⟨by rw [bump_length]; exact h.1, fun i => ?_⟩
  rw [bump_getD ps j i (by rw [h.1]; omega)]
  have := h.2 i
  split
  · rename_i e
    subst e
    have h2 := h.2 i
    rw [pad6_get _ _ _ hl, pad6_get _ _ _ hl, if_pos hj, if_pos hj] at h2 ⊢
    unfold canB at hc
    rw [decide_eq_true_eq] at hc
    omega
  · exact this
theorem fits_pour {hs : List (Int × Int × Int)} (ho : housesOk hs) : ∀ (n : Nat) (ps : List Int), fits hs ps → fits hs (pour hs n ps) := by
  intro n
  induction n with
  | zero => intro ps h; exact h
  | succ n ih =>
    intro ps h
    simp only [pour]
    split
    · exact h
    · rename_i hb
      rcases bestK_cases hs ps hs.length with h1 | ⟨j, hj, h1⟩
      · exact absurd h1 hb
      · rw [h1, Int.toNat_natCast]
        exact ih _ (fits_bump ho h hj (bestK_can hs ps _ j h1))
theorem fits_sum {hs : List (Int × Int × Int)} (ho : housesOk hs) {ps : List Int} (h : fits hs ps) : leastSum hs ≤ ps.sum ∧ ps.sum ≤ mostSum hs := by
  have a := sum_le_of (pad6 (·.2.1) hs) ps (by rw [pad6_len, h.1]) (fun i => (h.2 i).1)
  have b := sum_le_of ps (pad6 (·.2.2) hs) (by rw [pad6_len, h.1]) (fun i => (h.2 i).2)
  rw [pad6_sum _ _ ho.1] at a b
  exact ⟨a, b⟩
theorem bestK_none (hs : List (Int × Int × Int)) (ps : List Int) : ∀ k, bestK hs ps k = -1 → ∀ j, j < k → canB hs ps j = false := by
  intro k
  induction k with
  | zero => intro _ j hj; omega
  | succ k ih =>
    intro h j hj
    simp only [bestK] at h
    split at h
    · omega
    · rename_i hc
      by_cases e : j = k
      · subst e
        rw [h] at hc
        simpa using hc
      · exact ih h j (by omega)
theorem full_sum {hs : List (Int × Int × Int)} (ho : housesOk hs) {ps : List Int} (h : fits hs ps) (hb : bestK hs ps hs.length = -1) : ps.sum = mostSum hs := by
  have e : ps = pad6 (·.2.2) hs := by
    refine ext_of _ _ (by rw [pad6_len, h.1]) fun i => ?_
    have h2 := h.2 i
    by_cases hi : i < hs.length
    · have := bestK_none hs ps _ hb i hi
      unfold canB at this
      rw [decide_eq_false_iff_not] at this
      rw [pad6_get _ _ _ ho.1, pad6_get _ _ _ ho.1, if_pos hi, if_pos hi] at h2
      rw [pad6_get _ _ _ ho.1, if_pos hi]
      omega
    · rw [pad6_get _ _ _ ho.1, pad6_get _ _ _ ho.1, if_neg hi, if_neg hi] at h2
      rw [pad6_get _ _ _ ho.1, if_neg hi]
      omega
  rw [e, pad6_sum _ _ ho.1]; rfl
theorem pour_sum {hs : List (Int × Int × Int)} (ho : housesOk hs) : ∀ (n : Nat) (ps : List Int), fits hs ps → ps.sum + n ≤ mostSum hs → (pour hs n ps).sum = ps.sum + n := by
  intro n
  induction n with
  | zero => intro ps _ _; simp [pour]
  | succ n ih =>
    intro ps h hle
    simp only [pour]
    split
    · rename_i hb
      have := full_sum ho h hb
      omega
    · rename_i hb
      rcases bestK_cases hs ps hs.length with h1 | ⟨j, hj, h1⟩
      · exact absurd h1 hb
      · rw [h1, Int.toNat_natCast]
        have hl := ho.1
        have hbs := bump_sum ps j (by rw [h.1]; omega)
        rw [ih _ (fits_bump ho h hj (bestK_can hs ps _ j h1)) (by omega), hbs]
        omega
theorem bidOk_iff {hs : List (Int × Int × Int)} (ho : housesOk hs) (p : Int) : bidOk hs p = true ↔ leastSum hs ≤ p ∧ p ≤ mostSum hs := by
  have hf := fits_leasts ho
  have hL : (leastsK hs hs.length).sum = leastSum hs := by rw [leastsK_pad]; exact pad6_sum _ _ ho.1
  have hs2 := fits_sum ho (fits_pour ho (p - (leastsK hs hs.length).sum).toNat _ hf)
  unfold bidOk bidPs
  rw [beq_iff_eq]
  constructor
  · intro h
    omega
  · intro ⟨h1, h2⟩
    rw [pour_sum ho _ _ hf (by omega)]
    omega
theorem revalue_map (f : Int × Int → Int) (hs : List (Int × Int × Int)) (j : Nat) (v : Int) (hj : j < hs.length) : (revalue hs j v).map (fun x => f x.2) = hs.map (fun x => f x.2) := by
  unfold revalue
  rw [List.map_set]
  have e : f ((hs.getD j (0, 0, 0)).2.1, (hs.getD j (0, 0, 0)).2.2) = (hs.map (fun x => f x.2))[j]'(by simpa using hj) := by
    simp [List.getD_eq_getElem?_getD, List.getElem?_eq_getElem hj]
  show (hs.map (fun x => f x.2)).set j (f ((hs.getD j (0, 0, 0)).2.1, (hs.getD j (0, 0, 0)).2.2)) = _
  rw [e, List.set_getElem_self]
theorem leastSum_revalue (hs : List (Int × Int × Int)) (j : Nat) (v : Int) (hj : j < hs.length) : leastSum (revalue hs j v) = leastSum hs := by
  unfold leastSum; rw [revalue_map (·.1) hs j v hj]
theorem mostSum_revalue (hs : List (Int × Int × Int)) (j : Nat) (v : Int) (hj : j < hs.length) : mostSum (revalue hs j v) = mostSum hs := by
  unfold mostSum; rw [revalue_map (·.2) hs j v hj]
end Go.Proofs.YtfojjecnmfkcfaaGreat
namespace Go.Proofs.YtfojjecnmfkcfaaGreat
open Go.RowKit
set_option linter.unusedVariables false
theorem cell_alloc_here (W : World) (v : Value) (t : Nat) (b : Nat) {u : Value} (hb : b = W.heap.size) (hu : u = v) : (W.alloc (.cells #[v] t)).cell? ⟨b, 0, none⟩ = some u := by
  subst hb; subst hu; simp
theorem cell_alloc_old (W : World) (o : Obj) (b : Nat) (i : Nat) (h : b < W.heap.size) : (W.alloc o).cell? ⟨b, i, none⟩ = W.cell? ⟨b, i, none⟩ := World.cell?_alloc_lt _ _ ⟨b, i, none⟩ h
theorem _root_.Go.RowKit.Below.at_ {n : Nat} {w w' : World} {b i : Nat} {v : Value} (hb : Below n w w') (h : b < n) (hc : w.cell? ⟨b, i, none⟩ = some v) : w'.cell? ⟨b, i, none⟩ = some v := (hb.cell (p := ⟨b, i, none⟩) h).trans hc
def worthSo (p : Int) (hs : List (Int × Int × Int)) (j : Nat) (pence : Int) (v : Int) : Bool := bidOk (revalue hs j v) p && decide ((bidPs (revalue hs j v) p).getD j 0 ≤ pence)
set_option maxHeartbeats 1000000 in
theorem worthSo_any (g : Nat) (p : Int) (A : Option Addr) (c : Nat) (hs : List (Int × Int × Int)) (ps : List Int) (j : Nat) (pence v : Int) (b1 b2 b3 : Nat) (w : World) (hd : Desk w g p A hs.length c ps) (hr : Rd w w.heap.size A (trips hs)) (ho : housesOk hs) (hj : j < hs.length) (p0 : 0 ≤ p) (p1 : p ≤ 500)
    (v0 : 0 ≤ v) (v1 : v ≤ 1000) (hbk : bidOk hs p = true) (h1 : w.cell? ⟨b1, 0, none⟩ = some (.pointer (some ⟨g, 0, none⟩))) (h2 : w.cell? ⟨b2, 0, none⟩ = some (.int .i64 j)) (h3 : w.cell? ⟨b3, 0, none⟩ = some (.int .i64 pence)) (hb1 : b1 < w.heap.size) (hb2 : b2 < w.heap.size) (hb3 : b3 < w.heap.size) :
    Calls Tryz.prog 109 #[.int .i64 v, .pointer (some ⟨b1, 0, none⟩), .pointer (some ⟨b2, 0, none⟩), .pointer (some ⟨b3, 0, none⟩)] w fun e w' => e = .returned (.bool (worthSo p hs j pence v)) ∧ Below w.heap.size w w' := by
  have ho2 := housesOk_revalue ho j v v0 v1
  have q2 : paysOk (revalue hs j v) (bidPs (revalue hs j v) p) := paysOk_pour ho2 _ _ (paysOk_leasts ho2 _)
  have hj6 : j < 6 := by have := ho.1; omega
  have e2 : (bidPs (revalue hs j v) p).getD j 0 = (bidPs (revalue hs j v) p)[j]'(by rw [q2.1]; exact hj6) := by simp [List.getD_eq_getElem?_getD, List.getElem?_eq_getElem (show j < (bidPs (revalue hs j v) p).length by rw [q2.1]; exact hj6)]
  have hso : worthSo p hs j pence v = (bidOk (revalue hs j v) p && decide ((bidPs (revalue hs j v) p)[j]'(by rw [q2.1]; exact hj6) ≤ pence)) := by unfold worthSo; rw [e2]
  have Hso := Lib.hid hso
  clear hso e2
  have hj0 : (0 : Int) ≤ (j : Int) := by omega
  have hj7 : (j : Int) < 6 := by omega
  have hk : bidOk (revalue hs j v) p = true := by
    rw [bidOk_iff ho2, leastSum_revalue hs j v hj, mostSum_revalue hs j v hj]
    exact (bidOk_iff ho p).1 hbk
  · by_cases hle : (bidPs (revalue hs j v) p)[j]'(by rw [q2.1]; exact hj6) ≤ pence
    all_goals
      go_enter Tryz.func109, Tryz.ntmps109
      go_wp2_with fail
      refine (with_any g p A c hs _ j v _ hd hr ho.1 hj).mono ?_
      rintro e w3 ⟨g2, A2, rfl, hg2, hd2, hr2, hbl⟩
      have hw3 := hbl.size
      have k2 := (hbl.cell (p := ⟨b2, 0, none⟩) hb2).trans h2
      have k3 := (hbl.cell (p := ⟨b3, 0, none⟩) hb3).trans h3
      have HB : Hid (Calls Tryz.prog 60 #[.pointer (some ⟨g2, 0, none⟩)] w3.drew fun e w4 => e = .returned (.bool (bidOk (revalue hs j v) p)) ∧ w4.cell? ⟨g2, 2 + j, none⟩ = some (.int .i64 ((bidPs (revalue hs j v) p)[j]'(by rw [q2.1]; exact hj6))) ∧ w4.cell? ⟨b2, 0, none⟩ = some (.int .i64 j) ∧ w4.cell? ⟨b3, 0, none⟩ = some (.int .i64 pence) ∧ Below w.heap.size w w4) := by
        refine (bid_any g2 p A2 _ (revalue hs j v) w3.drew (hd2.drewN 1) (hr2.drewN 1) ho2 p0 p1).mono ?_
        rintro e w4 ⟨rfl, hd4, hg4⟩
        exact ⟨rfl, hd4.at_ hj6, (World.cell?_of_block (a := ⟨b2, 0, none⟩) (hg4.block b2 (Nat.lt_of_lt_of_le hb2 hw3) (by intro e; injection e; omega))).trans k2,
          (World.cell?_of_block (a := ⟨b3, 0, none⟩) (hg4.block b3 (Nat.lt_of_lt_of_le hb3 hw3) (by intro e; injection e; omega))).trans k3, hbl.drew.grown hg4 hw3 (fun k hk => by injection hk with hk; omega)⟩
      rw [hk] at HB
      go_wp2_with fail
      go_region_with ((go_at_call 60; refine HB.out.mono ?_; rintro e w4 ⟨rfl, hc4, hc5, hc6, hb4⟩))
      all_goals go_wp2_with fail
      all_goals go_ret
      all_goals exact ⟨ret_bool (by rw [Hso.out, hk]; simp [hle]), hb4⟩
def worthCode (p : Int) (hs : List (Int × Int × Int)) (house pence : Int) : Int :=
  if askCode p hs house (decide (0 ≤ pence)) = 0 then (if worthSo p hs house.toNat pence 0 then 0 else 1) else askCode p hs house (decide (0 ≤ pence))
def WorthPost (p : Int) (hs : List (Int × Int × Int)) (house pence : Int) (W : World) (e : Ending) (w' : World) : Prop :=
  Below W.heap.size W w' ∧ ((worthCode p hs house pence = 0 ∧ ∃ r, e = .returned (.tuple #[.int .i64 r, .int .i64 0]) ∧ Between2 (worthSo p hs house.toNat pence) 0 1001 r) ∨
    (worthCode p hs house pence ≠ 0 ∧ e = .returned (.tuple #[.int .i64 0, .int .i64 (worthCode p hs house pence)])))
set_option maxHeartbeats 1000000 in
theorem Worth_any (A : Option Addr) (c : Nat) (p : Int) (hs : List (Int × Int × Int)) (house pence : Int) (w : World) (hr : Rd w w.heap.size A (trips hs)) (hl : hs.length ≤ 1000) :
    Calls Tryz.prog 57 #[.agg #[.int .i64 p, .slice A hs.length c], .int .i64 house, .int .i64 pence] w (WorthPost p hs house pence w) := by
  have HA : ∀ w1, Below w.heap.size w w1 → Hid (Calls Tryz.prog 106 #[.agg #[.int .i64 p, .slice A hs.length c], .int .i64 house, .bool (decide (0 ≤ pence))] w1 (Asked p A c hs (askCode p hs house (decide (0 ≤ pence))) w1)) := fun w1 hb => asked_any A c p hs house (decide (0 ≤ pence)) w1 (hr.next hb) hl
  by_cases h0 : askCode p hs house (decide (0 ≤ pence)) = 0
  · obtain ⟨a1, a2, a3, a4, a5⟩ := askCode_ok h0
    have ho := housesOk_of a1
    obtain ⟨p0, p1, _⟩ := ckBill_ok a1
    obtain ⟨j, rfl⟩ := Int.eq_ofNat_of_zero_le a2
    have hj : j < hs.length := by omega
    have hpe : 0 ≤ pence := by simpa using a4
    have HA2 : ∀ w1, Below w.heap.size w w1 → Hid (Calls Tryz.prog 106 #[.agg #[.int .i64 p, .slice A hs.length c], .int .i64 j, .bool (decide (0 ≤ pence))] w1 (AskedYes w.heap.size p A c hs w1)) := fun w1 hb => by
      have := HA w1 hb
      rw [h0] at this
      exact this.out.mono fun _ _ h => h.yes hb.size
    rw [a4] at HA2
    have hwc : worthCode p hs j pence = if worthSo p hs j pence 0 then 0 else 1 := by unfold worthCode; rw [if_pos h0, Int.toNat_natCast]
    have Hwc := Lib.hid hwc
    have Hbk := Lib.hid a5
    clear HA h0 a1 a4 a5 hwc
    have HSo : ∀ (v : Int) (g b1 : Nat) (W : World), 0 ≤ v → v ≤ 1000 → Desk W g p A hs.length c (bidPs hs p) → Below w.heap.size w W → W.cell? ⟨b1, 0, none⟩ = some (.pointer (some ⟨g, 0, none⟩)) → W.cell? ⟨w.heap.size + 1, 0, none⟩ = some (.int .i64 j) → W.cell? ⟨w.heap.size + 2, 0, none⟩ = some (.int .i64 pence) → b1 < W.heap.size → w.heap.size + 2 < W.heap.size →
        Hid (Calls Tryz.prog 109 #[.int .i64 v, .pointer (some ⟨b1, 0, none⟩), .pointer (some ⟨w.heap.size + 1, 0, none⟩), .pointer (some ⟨w.heap.size + 2, 0, none⟩)] W fun e w' => e = .returned (.bool (worthSo p hs j pence v)) ∧ Below W.heap.size W w') := by
      intro v g b1 W v0 v1 hd hbw c1 c2 c3 z1 z2
      exact worthSo_any g p A c hs _ j pence v b1 _ _ W hd (hr.next hbw) ho hj p0 p1 v0 v1 Hbk.out c1 c2 c3 z1 (by omega) z2
    by_cases hs0 : worthSo p hs j pence 0 = true
    · have hw0 : worthCode p hs j pence = 0 := by rw [Hwc.out, if_pos hs0]
      have Hw0 := Lib.hid hw0
      clear hw0
      go_enter Tryz.func57, Tryz.ntmps57
      go_wp2_with fail
      refine (HA2 _ (by go_grown)).out.mono ?_
      rintro e w1 ⟨g, rfl, hg, hd, hb1⟩
      have hbw : Below w.heap.size w w1 := Below.trans (by go_grown) (hb1.mono (by simp; omega))
      have k2 := hb1.cell (p := ⟨w.heap.size + 1, 0, none⟩) (by simp)
      have k3 := hb1.cell (p := ⟨w.heap.size + 2, 0, none⟩) (by simp)
      rw [World.cell?_alloc_lt _ _ ⟨w.heap.size + 1, 0, none⟩ (by simp), cell_alloc_here _ _ _ _ (by simp) rfl] at k2
      rw [cell_alloc_here _ _ _ _ (by simp) rfl] at k3
      have hz := hb1.size
      simp at hz
      go_wp2_with fail
      refine (HSo 0 g w1.heap.size _ (by omega) (by omega) (hd.alloc _) (hbw.alloc hbw.size _) (by simp) ?_ ?_ (by simp) (by simp; omega)).out.mono ?_
      · exact (cell_alloc_old _ _ (w.heap.size + 1) 0 (by omega)).trans k2
      · exact (cell_alloc_old _ _ (w.heap.size + 2) 0 (by omega)).trans k3
      rintro e w2 ⟨rfl, hb2⟩
      have hbw2 : Below w.heap.size w w2 := (hbw.alloc hbw.size _).trans (hb2.mono (by simp; omega))
      have m1 := hb2.cell (p := ⟨w1.heap.size, 0, none⟩) (by simp)
      have m2 := hb2.cell (p := ⟨w.heap.size + 1, 0, none⟩) (by simp; omega)
      have m3 := hb2.cell (p := ⟨w.heap.size + 2, 0, none⟩) (by simp; omega)
      rw [cell_alloc_old _ _ (w.heap.size + 1) 0 (by omega)] at m2
      rw [cell_alloc_old _ _ (w.heap.size + 2) 0 (by omega)] at m3
      simp at m1
      have hz2 := hb2.size
      simp at hz2
      have hd2 := (hd.alloc _).below hb2
      have HG : Hid (Calls Tryz.prog 104 #[.int .i64 0, .int .i64 1001, .func (.func 109) #[] #[.pointer (some ⟨w1.heap.size, 0, none⟩), .pointer (some ⟨w.heap.size + 1, 0, none⟩), .pointer (some ⟨w.heap.size + 2, 0, none⟩)]] w2 (Halved (worthSo p hs j pence) 0 1001 w2)) := by
        refine greatest3_any _ _ _ (worthSo p hs j pence) w2 0 1001 (by omega) (by omega) (by omega) ?_
        intro n W a b hbW
        exact (HSo n g w1.heap.size W a (by omega) (hd2.below hbW) (hbw2.trans (hbW.mono hbw2.size)) (hbW.at_ (by omega) m1)
          (hbW.at_ (by omega) (m2.trans k2)) (hbW.at_ (by omega) (m3.trans k3)) (by have := hbW.size; omega) (by have := hbW.size; omega)).out
      go_wp2_with fail
      refine HG.out.mono ?_
      rintro e w3 ⟨r, rfl, hr3, hb3⟩
      have Hr3 := Lib.hid hr3
      clear hr3
      go_wp2_with fail
      go_ret2
      exact ⟨hbw2.trans (hb3.mono hbw2.size), .inl ⟨Hw0.out, r, rfl, by rw [Int.toNat_natCast]; exact Hr3.out⟩⟩
    · have hs0' : worthSo p hs j pence 0 = false := by simpa using hs0
      have hw0 : worthCode p hs j pence = 1 := by rw [Hwc.out, if_neg hs0]
      have Hw0 := Lib.hid hw0
      clear hw0 hs0
      go_enter Tryz.func57, Tryz.ntmps57
      go_wp2_with fail
      refine (HA2 _ (by go_grown)).out.mono ?_
      rintro e w1 ⟨g, rfl, hg, hd, hb1⟩
      have hbw : Below w.heap.size w w1 := Below.trans (by go_grown) (hb1.mono (by simp; omega))
      have k2 := hb1.cell (p := ⟨w.heap.size + 1, 0, none⟩) (by simp)
      have k3 := hb1.cell (p := ⟨w.heap.size + 2, 0, none⟩) (by simp)
      rw [World.cell?_alloc_lt _ _ ⟨w.heap.size + 1, 0, none⟩ (by simp), cell_alloc_here _ _ _ _ (by simp) rfl] at k2
      rw [cell_alloc_here _ _ _ _ (by simp) rfl] at k3
      have hz := hb1.size
      simp at hz
      go_wp2_with fail
      refine (HSo 0 g w1.heap.size _ (by omega) (by omega) (hd.alloc _) (hbw.alloc hbw.size _) (by simp) ?_ ?_ (by simp) (by simp; omega)).out.mono ?_
      · exact (cell_alloc_old _ _ (w.heap.size + 1) 0 (by omega)).trans k2
      · exact (cell_alloc_old _ _ (w.heap.size + 2) 0 (by omega)).trans k3
      rintro e w2 ⟨rfl, hb2⟩
      have hbw2 : Below w.heap.size w w2 := (hbw.alloc hbw.size _).trans (hb2.mono (by simp; omega))
      go_wp2_with fail
      go_ret2
      exact ⟨hbw2, .inr ⟨by rw [Hw0.out]; omega, by rw [Hw0.out]; rfl⟩⟩
  · have h0' : (askCode p hs house (decide (0 ≤ pence)) == 0) = false := by simpa using h0
    have h0'' : (askCode p hs house (decide (0 ≤ pence)) != 0) = true := by simpa using h0
    have HA2 : ∀ w1, Below w.heap.size w w1 → Hid (Calls Tryz.prog 106 #[.agg #[.int .i64 p, .slice A hs.length c], .int .i64 house, .bool (decide (0 ≤ pence))] w1 (AskedNo (askCode p hs house (decide (0 ≤ pence))) w1)) := fun w1 hb => (HA w1 hb).out.mono fun _ _ h => h.no h0
    have hwc : worthCode p hs house pence = askCode p hs house (decide (0 ≤ pence)) := by unfold worthCode; rw [if_neg h0]
    have Hwc := Lib.hid hwc
    have H0 := Lib.hid h0
    clear HA h0 hwc
    by_cases hpe : 0 ≤ pence
    all_goals
      first | rw [decide_eq_true hpe] at HA2 h0' h0'' | rw [decide_eq_false hpe] at HA2 h0' h0''
      go_enter Tryz.func57, Tryz.ntmps57
      go_wp2_with fail
      refine (HA2 _ (by go_grown)).out.mono ?_
      rintro e w1 ⟨rfl, hb1⟩
      have hbw : Below w.heap.size w w1 := Below.trans (by go_grown) (hb1.mono (by simp; omega))
      go_wp2_with fail
      go_ret2
      exact ⟨hbw.alloc hbw.size _, .inr ⟨by rw [Hwc.out]; exact H0.out, by rw [Hwc.out]; first | (rw [decide_eq_true hpe]; rfl) | (rw [decide_eq_false (by omega)]; rfl)⟩⟩
end Go.Proofs.YtfojjecnmfkcfaaGreat
namespace Go.Proofs.YtfojjecnmfkcfaaGreat
open Go.RowKit
set_option linter.unusedVariables false
def hV (hs : List (Int × Int × Int)) (i : Nat) : Int := (hs.getD i (0, 0, 0)).1
def hL (hs : List (Int × Int × Int)) (i : Nat) : Int := (hs.getD i (0, 0, 0)).2.1
def hM (hs : List (Int × Int × Int)) (i : Nat) : Int := (hs.getD i (0, 0, 0)).2.2
theorem hV_nonneg {hs : List (Int × Int × Int)} (ho : housesOk hs) (i : Nat) : 0 ≤ hV hs i ∧ hV hs i ≤ 1000 := by
  unfold hV
  by_cases h : i < hs.length
  · rw [List.getD_eq_getElem?_getD, List.getElem?_eq_getElem h, Option.getD_some]
    have := ho.2 hs[i] (List.getElem_mem _)
    omega
  · rw [List.getD_eq_getElem?_getD, List.getElem?_eq_none (by omega)]; simp
theorem hL_bd {hs : List (Int × Int × Int)} (ho : housesOk hs) (i : Nat) : 0 ≤ hL hs i ∧ hL hs i ≤ hM hs i ∧ hM hs i ≤ 500 := by
  unfold hL hM
  by_cases h : i < hs.length
  · rw [List.getD_eq_getElem?_getD, List.getElem?_eq_getElem h, Option.getD_some]
    have := ho.2 hs[i] (List.getElem_mem _)
    omega
  · rw [List.getD_eq_getElem?_getD, List.getElem?_eq_none (by omega)]; simp
/-- The penny number a of a house of value v comes before the penny number b of one of value u: by fractions, then by indexes. -/
def slotLt (v : Int) (i : Nat) (a : Int) (u : Int) (k : Nat) (b : Int) : Prop := u * a < v * b ∨ (u * a = v * b ∧ i < k)
instance (v : Int) (i : Nat) (a : Int) (u : Int) (k : Nat) (b : Int) : Decidable (slotLt v i a u k b) := by unfold slotLt; infer_instance
theorem slot_total {v : Int} {i : Nat} {a : Int} {u : Int} {k : Nat} {b : Int} (h : i ≠ k) (hn : ¬ slotLt v i a u k b) : slotLt u k b v i a := by
  unfold slotLt at hn ⊢
  by_cases h1 : v * b < u * a
  · exact .inl h1
  · right
    refine ⟨by omega, ?_⟩
    by_cases h2 : i < k
    · exact absurd (.inr ⟨by omega, h2⟩) hn
    · omega
theorem slot_irrefl (v : Int) (i : Nat) (a : Int) : ¬ slotLt v i a v i a := by unfold slotLt; omega
theorem slot_trans {v u t : Int} {i k j : Nat} {a b c : Int} (ha : 1 ≤ a) (hb : 1 ≤ b) (hc : 1 ≤ c) (hv : 0 ≤ v) (hu : 0 ≤ u) (ht : 0 ≤ t) (h1 : slotLt v i a u k b) (h2 : slotLt u k b t j c) : slotLt v i a t j c := by
  unfold slotLt at *
  -- u a ≤ v b, t b ≤ u c: t a b ≤ u c a ≤ v b c
  have e1 : t * a * b = t * b * a := by rw [Int.mul_assoc, Int.mul_comm a b, ← Int.mul_assoc]
  have e2 : u * c * a = u * a * c := by rw [Int.mul_assoc, Int.mul_comm c a, ← Int.mul_assoc]
  have e3 : v * b * c = v * c * b := by rw [Int.mul_assoc, Int.mul_comm b c, ← Int.mul_assoc]
  have l1 : t * b * a ≤ u * c * a := Int.mul_le_mul_of_nonneg_right (by omega) (by omega)
  have l2 : u * a * c ≤ v * b * c := Int.mul_le_mul_of_nonneg_right (by omega) (by omega)
  rcases h1 with h1 | ⟨h1, h1'⟩
  · left
    have s2 : u * a * c < v * b * c := Int.mul_lt_mul_of_pos_right h1 (by omega)
    exact Int.lt_of_mul_lt_mul_right (a := b) (by omega) (by omega)
  · rcases h2 with h2 | ⟨h2, h2'⟩
    · left
      have s1 : t * b * a < u * c * a := Int.mul_lt_mul_of_pos_right h2 (by omega)
      exact Int.lt_of_mul_lt_mul_right (a := b) (by omega) (by omega)
    · right
      refine ⟨?_, by omega⟩
      have q1 : t * b * a = u * c * a := by rw [h2]
      have q2 : u * a * c = v * b * c := by rw [h1]
      exact Int.eq_of_mul_eq_mul_right (a := b) (by omega) (by omega)
theorem slot_mono_l {v u : Int} {i k : Nat} {a a' b : Int} (hu : 0 ≤ u) (haa : a ≤ a') (h : slotLt v i a' u k b) : slotLt v i a u k b := by
  unfold slotLt at *
  have := Int.mul_le_mul_of_nonneg_left haa hu
  omega
theorem slot_mono_r {v u : Int} {i k : Nat} {a b b' : Int} (hv : 0 ≤ v) (hbb : b ≤ b') (h : slotLt v i a u k b) : slotLt v i a u k b' := by
  unfold slotLt at *
  have := Int.mul_le_mul_of_nonneg_left hbb hv
  omega
/-- No house outbids another one. -/
def Still (hs : List (Int × Int × Int)) (ps : List Int) : Prop :=
  ∀ i k, i < hs.length → k < hs.length → i ≠ k → ps.getD i 0 < hM hs i → hL hs k < ps.getD k 0 → ¬ slotLt (hV hs i) i (ps.getD i 0 + 1) (hV hs k) k (ps.getD k 0)
theorem bestK_best {hs : List (Int × Int × Int)} (ho : housesOk hs) {ps : List Int} (h0 : ∀ i, 0 ≤ ps.getD i 0) : ∀ (k b : Nat), bestK hs ps k = b → ∀ j, j < k → j ≠ b → canB hs ps j = true → slotLt (hV hs b) b (ps.getD b 0 + 1) (hV hs j) j (ps.getD j 0 + 1) := by
  intro k
  induction k with
  | zero => intro b _ j hj; omega
  | succ k ih =>
    intro b hb j hj hne hc
    simp only [bestK] at hb
    split at hb
    · rename_i hk
      obtain rfl : k = b := by omega
      simp only [Bool.and_eq_true, Bool.or_eq_true, beq_iff_eq] at hk
      have hjk : j < k := by omega
      rcases hk.2 with hn | hbf
      · have := bestK_none hs ps k hn j hjk
        rw [this] at hc; cases hc
      · rcases bestK_cases hs ps k with h1 | ⟨b', hb', h1⟩
        · have := bestK_none hs ps k h1 j hjk
          rw [this] at hc; cases hc
        · rw [h1, Int.toNat_natCast] at hbf
          have hs1 : slotLt (hV hs k) k (ps.getD k 0 + 1) (hV hs b') b' (ps.getD b' 0 + 1) := by
            left
            unfold befo at hbf
            rw [decide_eq_true_eq] at hbf
            exact hbf
          by_cases e : j = b'
          · subst e; exact hs1
          · have := ih b' h1 j hjk e hc
            have a1 := h0 k
            have a2 := h0 b'
            have a3 := h0 j
            exact slot_trans (by omega) (by omega) (by omega) (hV_nonneg ho _).1 (hV_nonneg ho _).1 (hV_nonneg ho _).1 hs1 this
    · rename_i hk
      by_cases e : j = k
      · subst e
        have hbj : b < j := by
          rcases bestK_cases hs ps j with h1 | ⟨b', hb', h1⟩
          · omega
          · omega
        rw [hc] at hk
        simp only [Bool.true_and, Bool.or_eq_true, not_or, beq_iff_eq] at hk
        have h2 := hk.2
        rw [hb, Int.toNat_natCast] at h2
        unfold befo at h2
        simp only [decide_eq_true_eq] at h2
        unfold slotLt hV
        omega
      · exact ih b hb j (by omega) hne hc
theorem hL_pad {hs : List (Int × Int × Int)} (ho : housesOk hs) (i : Nat) (hi : i < hs.length) : (pad6 (·.2.1) hs).getD i 0 = hL hs i ∧ (pad6 (·.2.2) hs).getD i 0 = hM hs i := by
  rw [pad6_get _ _ _ ho.1, pad6_get _ _ _ ho.1, if_pos hi, if_pos hi]; exact ⟨rfl, rfl⟩
theorem fits_at {hs : List (Int × Int × Int)} (ho : housesOk hs) {ps : List Int} (h : fits hs ps) (i : Nat) (hi : i < hs.length) : hL hs i ≤ ps.getD i 0 ∧ ps.getD i 0 ≤ hM hs i := by
  have := h.2 i
  rwa [(hL_pad ho i hi).1, (hL_pad ho i hi).2] at this
theorem fits_out {hs : List (Int × Int × Int)} (ho : housesOk hs) {ps : List Int} (h : fits hs ps) (i : Nat) (hi : hs.length ≤ i) : ps.getD i 0 = 0 := by
  have := h.2 i
  rw [pad6_get _ _ _ ho.1, pad6_get _ _ _ ho.1, if_neg (by omega), if_neg (by omega)] at this
  omega
theorem fits_nonneg {hs : List (Int × Int × Int)} (ho : housesOk hs) {ps : List Int} (h : fits hs ps) (i : Nat) : 0 ≤ ps.getD i 0 := by
  by_cases hi : i < hs.length
  · have := fits_at ho h i hi; have := hL_bd ho i; omega
  · rw [fits_out ho h i (by omega)]; omega
theorem still_leasts {hs : List (Int × Int × Int)} (ho : housesOk hs) : Still hs (leastsK hs hs.length) := by
  intro i k hi hk _ _ h
  rw [leastsK_pad, (hL_pad ho k hk).1] at h
  omega
theorem still_bump {hs : List (Int × Int × Int)} (ho : housesOk hs) {ps : List Int} (hf : fits hs ps) (h : Still hs ps) {b : Nat} (hb : bestK hs ps hs.length = b) (hbl : b < hs.length) : Still hs (bump ps b) := by
  have hl := ho.1
  have h6 : b < ps.length := by rw [hf.1]; omega
  have h0 := fits_nonneg ho hf
  intro i k hi hk hne h1 h2 h3
  rw [bump_getD _ _ _ h6] at h1 h2 h3
  rw [bump_getD _ _ _ h6] at h3
  by_cases ei : i = b
  · subst ei
    rw [if_pos rfl] at h1 h3
    rw [if_neg (fun e => hne e.symm)] at h2 h3
    exact h i k hi hk hne (by omega) h2 (slot_mono_l (hV_nonneg ho _).1 (by omega) h3)
  · rw [if_neg ei] at h1 h3
    by_cases ek : k = b
    · subst ek
      rw [if_pos rfl] at h2 h3
      have hc : canB hs ps i = true := by unfold canB; rw [decide_eq_true_eq]; exact h1
      have := bestK_best ho h0 _ _ hb i hi hne hc
      have a1 := h0 i
      have a2 := h0 k
      exact slot_irrefl _ _ _ (slot_trans (by omega) (by omega) (by omega) (hV_nonneg ho _).1 (hV_nonneg ho _).1 (hV_nonneg ho _).1 h3 this)
    · rw [if_neg ek] at h2 h3
      exact h i k hi hk hne h1 h2 h3
theorem still_pour {hs : List (Int × Int × Int)} (ho : housesOk hs) : ∀ (n : Nat) (ps : List Int), fits hs ps → Still hs ps → Still hs (pour hs n ps) := by
  intro n
  induction n with
  | zero => intro ps _ h; exact h
  | succ n ih =>
    intro ps hf h
    simp only [pour]
    split
    · exact h
    · rename_i hb
      rcases bestK_cases hs ps hs.length with h1 | ⟨j, hj, h1⟩
      · exact absurd h1 hb
      · rw [h1, Int.toNat_natCast]
        exact ih _ (fits_bump ho hf hj (bestK_can hs ps _ j h1)) (still_bump ho hf h h1 hj)
theorem sum_eq_of_le (a b : List Int) (hl : a.length = b.length) (h : ∀ i, a.getD i 0 ≤ b.getD i 0) (hs : a.sum = b.sum) : a = b := by
  induction a generalizing b with
  | nil => match b, hl with
    | [], _ => rfl
  | cons x a ih =>
    match b, hl with
    | y :: b, hl =>
      have h0 := h 0
      have h' : ∀ i, a.getD i 0 ≤ b.getD i 0 := fun i => by simpa using h (i + 1)
      have := sum_le_of a b (by simpa using hl) h'
      simp at h0 hs
      have e : x = y := by omega
      rw [e, ih b (by simpa using hl) h' (by omega)]
theorem some_more {a b : List Int} (hl : a.length = b.length) (hs : a.sum = b.sum) (hne : a ≠ b) : ∃ i, b.getD i 0 < a.getD i 0 := by
  by_cases h : ∃ i, b.getD i 0 < a.getD i 0
  · exact h
  · exact absurd (sum_eq_of_le a b hl (fun i => by by_cases h2 : a.getD i 0 ≤ b.getD i 0; exact h2; exact absurd ⟨i, by omega⟩ h) hs) hne
/-- Where one pays more, and another one less, in a second state without outbidding: values, too, may differ. -/
theorem still_cross {hs ks : List (Int × Int × Int)} {P Q : List Int} (ho : housesOk hs) (ho' : housesOk ks) (hlen : hs.length = ks.length) (hP : Still hs P) (hQ : Still ks Q) (fP : fits hs P) (fQ : fits ks Q)
    {i k : Nat} (hi : i < hs.length) (hk : k < hs.length) (h1 : Q.getD i 0 < P.getD i 0) (h2 : P.getD k 0 < Q.getD k 0)
    (hLi : hL hs i ≤ hL ks i) (hMk : hM ks k ≤ hM hs k) (hLk : hL ks k ≤ hL hs k) (hMi : hM hs i ≤ hM ks i) (hVi : hV hs i ≤ hV ks i) (hVk : hV ks k ≤ hV hs k) : False := by
  have hne : i ≠ k := by rintro rfl; omega
  have fPi := fits_at ho fP i hi
  have fPk := fits_at ho fP k hk
  have fQi := fits_at ho' fQ i (by omega)
  have fQk := fits_at ho' fQ k (by omega)
  have n1 := hP k i hk hi (fun e => hne e.symm) (by omega) (by omega)
  have n2 := hQ i k (by omega) (by omega) hne (by omega) (by omega)
  have t1 := slot_total (fun e => hne e.symm) n1
  have t2 := slot_total hne n2
  have bi := hL_bd ho i
  have bk := hL_bd ho k
  have bi' := hL_bd ho' i
  have bk' := hL_bd ho' k
  -- t1: slotLt (hV hs i) i P_i (hV hs k) k (P_k+1); t2: slotLt (hV ks k) k Q_k (hV ks i) i (Q_i + 1)
  unfold slotLt at t1 t2
  have a1 : hV hs i * (P.getD k 0 + 1) ≤ hV ks i * (P.getD k 0 + 1) := Int.mul_le_mul_of_nonneg_right hVi (by omega)
  have a2 : hV ks i * (P.getD k 0 + 1) ≤ hV ks i * Q.getD k 0 := Int.mul_le_mul_of_nonneg_left (by omega) (hV_nonneg ho' i).1
  have a3 : hV ks k * (Q.getD i 0 + 1) ≤ hV hs k * (Q.getD i 0 + 1) := Int.mul_le_mul_of_nonneg_right hVk (by omega)
  have a4 : hV hs k * (Q.getD i 0 + 1) ≤ hV hs k * P.getD i 0 := Int.mul_le_mul_of_nonneg_left (by omega) (hV_nonneg ho k).1
  omega
theorem still_unique {hs : List (Int × Int × Int)} (ho : housesOk hs) {P Q : List Int} (fP : fits hs P) (fQ : fits hs Q) (hP : Still hs P) (hQ : Still hs Q) (h : P.sum = Q.sum) : P = Q := by
  by_cases e : P = Q
  · exact e
  · exfalso
    obtain ⟨i, hi⟩ := some_more (by rw [fP.1, fQ.1]) h e
    obtain ⟨k, hk⟩ := some_more (by rw [fP.1, fQ.1]) h.symm (fun e' => e e'.symm)
    have hil : i < hs.length := by
      by_cases hh : i < hs.length
      · exact hh
      · rw [fits_out ho fP i (by omega), fits_out ho fQ i (by omega)] at hi; omega
    have hkl : k < hs.length := by
      by_cases hh : k < hs.length
      · exact hh
      · rw [fits_out ho fP k (by omega), fits_out ho fQ k (by omega)] at hk; omega
    exact still_cross ho ho rfl hP hQ fP fQ hil hkl hi hk (by omega) (by omega) (by omega) (by omega) (by omega) (by omega)
theorem bidPs_fits {hs : List (Int × Int × Int)} (ho : housesOk hs) (p : Int) : fits hs (bidPs hs p) := fits_pour ho _ _ (fits_leasts ho)
theorem bidPs_still {hs : List (Int × Int × Int)} (ho : housesOk hs) (p : Int) : Still hs (bidPs hs p) := still_pour ho _ _ (fits_leasts ho) (still_leasts ho)
theorem bidPs_sum {hs : List (Int × Int × Int)} {p : Int} (h : bidOk hs p = true) : (bidPs hs p).sum = p := by
  unfold bidOk at h; exact beq_iff_eq.1 h
/-- A state without outbidding, of the sum of the bill, is that of bids. -/
theorem bids_unique {hs : List (Int × Int × Int)} (ho : housesOk hs) {p : Int} (hk : bidOk hs p = true) {Q : List Int} (fQ : fits hs Q) (hQ : Still hs Q) (h : Q.sum = p) : Q = bidPs hs p :=
  still_unique ho fQ (bidPs_fits ho p) hQ (bidPs_still ho p) (by rw [h, bidPs_sum hk])
theorem housesOk_reval {hs : List (Int × Int × Int)} (ho : housesOk hs) {j : Nat} (hj : j < hs.length) {v : Int} (h1 : 0 ≤ v) (h2 : v ≤ 1000) : housesOk (revalue hs j v) := by
  refine ⟨by rw [revalue_length]; exact ho.1, fun x hx => ?_⟩
  rcases List.mem_or_eq_of_mem_set hx with h | h
  · exact ho.2 x h
  · subst h
    rw [List.getD_eq_getElem?_getD, List.getElem?_eq_getElem hj, Option.getD_some]
    have := ho.2 hs[j] (List.getElem_mem _)
    exact ⟨h1, h2, this.2.2⟩
theorem revalue_getD {hs : List (Int × Int × Int)} {j : Nat} (hj : j < hs.length) (v : Int) (i : Nat) : (revalue hs j v).getD i (0, 0, 0) = if i = j then (v, hL hs j, hM hs j) else hs.getD i (0, 0, 0) := by
  unfold revalue hL hM
  rw [List.getD_eq_getElem?_getD, List.getElem?_set]
  by_cases e : j = i
  · subst e; simp [hj]
  · rw [if_neg e, if_neg (fun h => e h.symm)]; simp [List.getD_eq_getElem?_getD]
/-- A house with a greater Value pays no less. -/
theorem bids_mono {hs : List (Int × Int × Int)} (ho : housesOk hs) {j : Nat} (hj : j < hs.length) {p v v' : Int} (h1 : 0 ≤ v) (hvv : v ≤ v') (h2 : v' ≤ 1000) (hk : bidOk hs p = true) :
    (bidPs (revalue hs j v) p).getD j 0 ≤ (bidPs (revalue hs j v') p).getD j 0 := by
  have o1 := housesOk_reval ho hj h1 (show v ≤ 1000 by omega)
  have o2 := housesOk_reval ho hj (show 0 ≤ v' by omega) h2
  have k0 := (bidOk_iff ho p).1 hk
  have k1 : bidOk (revalue hs j v) p = true := (bidOk_iff o1 p).2 (by rw [leastSum_revalue _ _ _ hj, mostSum_revalue _ _ _ hj]; exact k0)
  have k2 : bidOk (revalue hs j v') p = true := (bidOk_iff o2 p).2 (by rw [leastSum_revalue _ _ _ hj, mostSum_revalue _ _ _ hj]; exact k0)
  have f1 := bidPs_fits o1 p
  have f2 := bidPs_fits o2 p
  have s1 := bidPs_sum k1
  have s2 := bidPs_sum k2
  have t1 := bidPs_still o1 p
  have t2 := bidPs_still o2 p
  revert f1 f2 s1 s2 t1 t2
  generalize bidPs (revalue hs j v) p = P
  generalize bidPs (revalue hs j v') p = Q
  intro f1 f2 s1 s2 t1 t2
  by_cases hle : P.getD j 0 ≤ Q.getD j 0
  · exact hle
  · exfalso
    have hne : P ≠ Q := by rintro rfl; omega
    obtain ⟨k, hk⟩ := some_more (by rw [f1.1, f2.1]) (by rw [s1, s2]) (fun e => hne e.symm)
    have hkj : k ≠ j := by rintro rfl; omega
    have hkl : k < hs.length := by
      by_cases hh : k < hs.length
      · exact hh
      · rw [fits_out o1 f1 k (by rw [revalue_length]; omega), fits_out o2 f2 k (by rw [revalue_length]; omega)] at hk; omega
    have e1 := revalue_getD (hs := hs) hj v
    have e2 := revalue_getD (hs := hs) hj v'
    refine still_cross o1 o2 (by rw [revalue_length, revalue_length]) t1 t2 f1 f2 (i := j) (k := k) (by rw [revalue_length]; exact hj) (by rw [revalue_length]; exact hkl) (by omega) hk ?_ ?_ ?_ ?_ ?_ ?_ <;> simp only [hL, hM, hV, e1, e2] <;> simp [hkj, hvv]
/-- No other house pays more. -/
theorem bids_mono_other {hs : List (Int × Int × Int)} (ho : housesOk hs) {j : Nat} (hj : j < hs.length) {p v v' : Int} (h1 : 0 ≤ v) (hvv : v ≤ v') (h2 : v' ≤ 1000) (hk : bidOk hs p = true) {i : Nat} (hij : i ≠ j) :
    (bidPs (revalue hs j v') p).getD i 0 ≤ (bidPs (revalue hs j v) p).getD i 0 := by
  have hm := bids_mono ho hj h1 hvv h2 hk
  have o1 := housesOk_reval ho hj h1 (show v ≤ 1000 by omega)
  have o2 := housesOk_reval ho hj (show 0 ≤ v' by omega) h2
  have k0 := (bidOk_iff ho p).1 hk
  have k1 : bidOk (revalue hs j v) p = true := (bidOk_iff o1 p).2 (by rw [leastSum_revalue _ _ _ hj, mostSum_revalue _ _ _ hj]; exact k0)
  have k2 : bidOk (revalue hs j v') p = true := (bidOk_iff o2 p).2 (by rw [leastSum_revalue _ _ _ hj, mostSum_revalue _ _ _ hj]; exact k0)
  have f1 := bidPs_fits o1 p
  have f2 := bidPs_fits o2 p
  have s1 := bidPs_sum k1
  have s2 := bidPs_sum k2
  have t1 := bidPs_still o1 p
  have t2 := bidPs_still o2 p
  revert hm f1 f2 s1 s2 t1 t2
  generalize bidPs (revalue hs j v) p = P
  generalize bidPs (revalue hs j v') p = Q
  intro hm f1 f2 s1 s2 t1 t2
  by_cases hle : Q.getD i 0 ≤ P.getD i 0
  · exact hle
  · exfalso
    have hne : P ≠ Q := by rintro rfl; omega
    obtain ⟨k, hk⟩ := some_more (by rw [f1.1, f2.1]) (by rw [s1, s2]) hne
    have hkj : k ≠ j := by rintro rfl; omega
    have hkl : k < hs.length := by
      by_cases hh : k < hs.length
      · exact hh
      · rw [fits_out o1 f1 k (by rw [revalue_length]; omega), fits_out o2 f2 k (by rw [revalue_length]; omega)] at hk; omega
    have hil : i < hs.length := by
      by_cases hh : i < hs.length
      · exact hh
      · rw [fits_out o1 f1 i (by rw [revalue_length]; omega), fits_out o2 f2 i (by rw [revalue_length]; omega)] at hle; omega
    have e1 := revalue_getD (hs := hs) hj v
    have e2 := revalue_getD (hs := hs) hj v'
    refine still_cross o1 o2 (by rw [revalue_length, revalue_length]) t1 t2 f1 f2 (i := k) (k := i) (by rw [revalue_length]; exact hkl) (by rw [revalue_length]; exact hil) hk (by omega) ?_ ?_ ?_ ?_ ?_ ?_ <;> simp only [hL, hM, hV, e1, e2] <;> simp [hkj, hij]
end Go.Proofs.YtfojjecnmfkcfaaGreat
namespace Go.Proofs.YtfojjecnmfkcfaaGreat
open Go.RowKit
set_option linter.unusedVariables false
def sumTo (f : Nat → Nat) : Nat → Nat
  | 0 => 0
  | n + 1 => sumTo f n + f n
theorem sumTo_congr {f g : Nat → Nat} {n : Nat} (h : ∀ j, j < n → f j = g j) : sumTo f n = sumTo g n := by
  induction n with
  | zero => rfl
  | succ n ih => simp only [sumTo]; rw [ih (fun j hj => h j (by omega)), h n (by omega)]
theorem sumTo_upd {f g : Nat → Nat} {n i : Nat} (hi : i < n) (h : ∀ j, j ≠ i → f j = g j) : sumTo f n + g i = sumTo g n + f i := by
  induction n with
  | zero => omega
  | succ n ih =>
    simp only [sumTo]
    by_cases e : i = n
    · subst e
      rw [sumTo_congr (f := f) (g := g) (fun j hj => h j (by omega))]
      omega
    · have := ih (by omega)
      rw [h n (fun e' => e e'.symm)]
      omega
def slots : List (Nat × Nat) := (List.range 6).flatMap fun i => (List.range 501).map fun c => (i, c)
theorem mem_slots {i c : Nat} (hi : i < 6) (hc : c < 501) : (i, c) ∈ slots := by
  unfold slots
  simp only [List.mem_flatMap, List.mem_map, List.mem_range]
  exact ⟨i, hi, c, hc, rfl⟩
def rank (hs : List (Int × Int × Int)) (i : Nat) (a : Int) : Nat := slots.countP fun s => decide (slotLt (hV hs s.1) s.1 ((s.2 : Int) + 1) (hV hs i) i a)
theorem countP_lt {α : Type} {p q : α → Bool} (l : List α) (h : ∀ x, p x = true → q x = true) {a : α} (ha : a ∈ l) (hq : q a = true) (hp : p a = false) : l.countP p < l.countP q := by
  induction l with
  | nil => cases ha
  | cons x l ih =>
    have mono : l.countP p ≤ l.countP q := List.countP_mono_left (fun y _ => h y)
    rcases List.mem_cons.1 ha with e | e
    · subst e
      rw [List.countP_cons_of_pos hq, List.countP_cons_of_neg (by rw [hp]; simp)]
      omega
    · have := ih e
      by_cases hx : p x = true
      · rw [List.countP_cons_of_pos hx, List.countP_cons_of_pos (h x hx)]; omega
      · rw [List.countP_cons_of_neg hx]
        by_cases hy : q x = true
        · rw [List.countP_cons_of_pos hy]; omega
        · rw [List.countP_cons_of_neg hy]; omega
theorem rank_lt {hs : List (Int × Int × Int)} (ho : housesOk hs) {i k : Nat} {a b : Int} (hi : i < 6) (h1 : 1 ≤ a) (h2 : a ≤ 501) (hb : 1 ≤ b) (h : slotLt (hV hs i) i a (hV hs k) k b) : rank hs i a < rank hs k b := by
  have e : ((a - 1).toNat : Int) + 1 = a := by omega
  refine countP_lt slots (fun s hs' => ?_) (mem_slots hi (show (a - 1).toNat < 501 by omega)) ?_ ?_
  · rw [decide_eq_true_eq] at hs' ⊢
    exact slot_trans (by omega) h1 hb (hV_nonneg ho _).1 (hV_nonneg ho _).1 (hV_nonneg ho _).1 hs' h
  · rw [decide_eq_true_eq, e]; exact h
  · rw [decide_eq_false_iff_not, e]; exact slot_irrefl _ _ _
def col (hs : List (Int × Int × Int)) (i m : Nat) : Nat := sumTo (fun c => rank hs i ((c : Int) + 1)) m
def phi (hs : List (Int × Int × Int)) (ps : List Int) : Nat := sumTo (fun i => col hs i (ps.getD i 0).toNat) 6
/-- A penny goes from house k to house i. -/
def move (ps : List Int) (i k : Nat) : List Int := (ps.set i (ps.getD i 0 + 1)).set k (ps.getD k 0 - 1)
theorem move_length (ps : List Int) (i k : Nat) : (move ps i k).length = ps.length := by simp [move]
theorem set_getD (ps : List Int) (j i : Nat) (v : Int) (h : j < ps.length) : (ps.set j v).getD i 0 = if i = j then v else ps.getD i 0 := by
  rw [List.getD_eq_getElem?_getD, List.getElem?_set]
  by_cases e : j = i
  · subst e; simp [h]
  · rw [if_neg e, if_neg (fun h => e h.symm)]; simp [List.getD_eq_getElem?_getD]
theorem move_getD (ps : List Int) (i k j : Nat) (hi : i < ps.length) (hk : k < ps.length) : (move ps i k).getD j 0 = if j = k then ps.getD k 0 - 1 else if j = i then ps.getD i 0 + 1 else ps.getD j 0 := by
  unfold move
  rw [set_getD _ _ _ _ (by simpa using hk), set_getD _ _ _ _ hi]
theorem move_sum (ps : List Int) (i k : Nat) (hi : i < ps.length) (hk : k < ps.length) (hne : i ≠ k) : (move ps i k).sum = ps.sum := by
  unfold move
  rw [sum_set _ k _ (by simpa using hk), sum_set _ i _ hi, set_getD _ _ _ _ hi, if_neg (fun e => hne e.symm)]
  omega
theorem phi_move {hs : List (Int × Int × Int)} (ho : housesOk hs) {ps : List Int} {i k : Nat} (hi : i < ps.length) (hk : k < ps.length) (hi6 : i < 6) (hk6 : k < 6) (hne : i ≠ k) (h0 : 0 ≤ ps.getD i 0) (h1 : ps.getD i 0 ≤ 500) (h2 : 1 ≤ ps.getD k 0)
    (h : slotLt (hV hs i) i (ps.getD i 0 + 1) (hV hs k) k (ps.getD k 0)) : phi hs (move ps i k) < phi hs ps := by
  have hr := rank_lt ho hi6 (by omega) (by omega) h2 h
  let f := fun j => col hs j ((move ps i k).getD j 0).toNat
  let g := fun j => col hs j (ps.getD j 0).toNat
  let m := fun j => if j = k then f k else g j
  have e1 : sumTo f 6 + m i = sumTo m 6 + f i := by
    refine sumTo_upd hi6 (fun j hj => ?_)
    show f j = if j = k then f k else g j
    by_cases ek : j = k
    · rw [if_pos ek, ek]
    · rw [if_neg ek]
      show col hs j _ = col hs j _
      rw [move_getD ps i k j hi hk, if_neg ek, if_neg hj]
  have e2 : sumTo m 6 + g k = sumTo g 6 + m k := by
    refine sumTo_upd hk6 (fun j hj => ?_)
    show (if j = k then f k else g j) = g j
    rw [if_neg hj]
  have m1 : m i = g i := if_neg hne
  have m2 : m k = f k := if_pos rfl
  have f1 : f i = g i + rank hs i (ps.getD i 0 + 1) := by
    show col hs i _ = col hs i _ + _
    rw [move_getD ps i k i hi hk, if_neg hne, if_pos rfl, show (ps.getD i 0 + 1).toNat = (ps.getD i 0).toNat + 1 by omega]
    show sumTo _ _ + rank hs i _ = _
    rw [show (((ps.getD i 0).toNat : Nat) : Int) + 1 = ps.getD i 0 + 1 by omega]; rfl
  have f2 : g k = f k + rank hs k (ps.getD k 0) := by
    show col hs k _ = col hs k _ + _
    rw [move_getD ps i k k hi hk, if_pos rfl, show (ps.getD k 0).toNat = (ps.getD k 0 - 1).toNat + 1 by omega]
    show sumTo _ _ + rank hs k _ = _
    rw [show (((ps.getD k 0 - 1).toNat : Nat) : Int) + 1 = ps.getD k 0 by omega]; rfl
  show sumTo f 6 < sumTo g 6
  omega
/-- Shares in a list of as many numbers as houses. -/
def fitsN (hs : List (Int × Int × Int)) (qs : List Int) : Prop := qs.length = hs.length ∧ ∀ i, i < hs.length → hL hs i ≤ qs.getD i 0 ∧ qs.getD i 0 ≤ hM hs i
theorem sum_replicate0 (n : Nat) : (List.replicate n (0 : Int)).sum = 0 := by
  induction n with
  | zero => rfl
  | succ n ih => rw [List.replicate_succ, List.sum_cons, ih]; rfl
theorem pad_getD (qs : List Int) (n i : Nat) : (qs ++ List.replicate n 0).getD i 0 = qs.getD i 0 := by
  rw [List.getD_eq_getElem?_getD, List.getD_eq_getElem?_getD, List.getElem?_append]
  split
  · rfl
  · rename_i h
    rw [List.getElem?_eq_none (l := qs) (by omega), List.getElem?_replicate]
    split <;> rfl
theorem fits_pad {hs : List (Int × Int × Int)} (ho : housesOk hs) {qs : List Int} (h : fitsN hs qs) : fits hs (qs ++ List.replicate (6 - hs.length) 0) := by
  have hl := ho.1
  refine ⟨by rw [List.length_append, List.length_replicate, h.1]; omega, fun i => ?_⟩
  rw [pad_getD]
  by_cases hi : i < hs.length
  · rw [(hL_pad ho i hi).1, (hL_pad ho i hi).2]; exact h.2 i hi
  · rw [pad6_get _ _ _ ho.1, pad6_get _ _ _ ho.1, if_neg hi, if_neg hi, List.getD_eq_getElem?_getD, List.getElem?_eq_none (by rw [h.1]; omega)]
    simp
theorem bids_unique_n {hs : List (Int × Int × Int)} (ho : housesOk hs) {p : Int} (hk : bidOk hs p = true) {qs : List Int} (fQ : fitsN hs qs) (hQ : Still hs qs) (h : qs.sum = p) : qs = (bidPs hs p).take hs.length := by
  have e := bids_unique ho hk (fits_pad ho fQ) (fun i k hi hk' hne => by rw [pad_getD, pad_getD]; exact hQ i k hi hk' hne) (by rw [List.sum_append, sum_replicate0]; omega)
  rw [← e, ← fQ.1, List.take_left]
theorem fitsN_move {hs : List (Int × Int × Int)} {qs : List Int} (h : fitsN hs qs) {i k : Nat} (hi : i < hs.length) (hk : k < hs.length) (hne : i ≠ k) (h1 : qs.getD i 0 < hM hs i) (h2 : hL hs k < qs.getD k 0) : fitsN hs (move qs i k) := by
  refine ⟨by rw [move_length]; exact h.1, fun j hj => ?_⟩
  rw [move_getD qs i k j (by rw [h.1]; exact hi) (by rw [h.1]; exact hk)]
  have := h.2 j hj
  split
  · rename_i e; subst e; omega
  · split
    · rename_i e; subst e; omega
    · exact this
end Go.Proofs.YtfojjecnmfkcfaaGreat
