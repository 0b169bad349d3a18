/- greatest: the halving of a span finds a number at which something is so, and not at the next one. Cost, and the closure of Pounds, at every tariff of at most 1000 steps. Pounds: how many pounds there are for so many pence, or the error, at every tariff of at most 1000 steps. -/
import Derived.Test.YtfojjecnmfkcfaaGreatProg
import Derived.Test.YtfojjecnmfkcfaaGreatP1
import Derived.Laws.EntriesVeiled
namespace Go.Proofs.YtfojjecnmfkcfaaGreat
open Go.RowKit
/-- What 'halve' finds between lo and hi. -/
def Between2 (p : Int → Bool) (lo hi r : Int) : Prop := lo ≤ r ∧ r < hi ∧ (r = lo ∨ p r = true) ∧ (r + 1 = hi ∨ p (r + 1) = false)
def Halved (p : Int → Bool) (lo hi : Int) (W : World) (e : Ending) (w' : World) : Prop := ∃ r : Int, e = .returned (.int .i64 r) ∧ Between2 p lo hi r ∧ Below W.heap.size W w'

set_option maxHeartbeats 400000 in
set_option maxRecDepth 100000 in
theorem halve2_any (c1 c2 : Value) (p : Int → Bool) (B : Nat) (w0 : World) (a h : Addr) (ha : w0.cell? a = some (.func (.func 105) #[] #[c1, c2])) (hab : a.block < B)
    (hh : w0.cell? h = some (.func (.func 123) #[] #[.pointer (some a), .pointer (some h)])) (hhb : h.block < B) (hB : B ≤ w0.heap.size) (hi0 : Int) (hm : hi0 ≤ 1000000000)
    (HP : ∀ (n : Int) (W : World), 0 ≤ n → n < hi0 → Below B w0 W → Calls Tryz.prog 105 #[.int .i64 n, c1, c2] W fun e w' => e = .returned (.bool (p n)) ∧ Below W.heap.size W w') :
    ∀ (k : Nat) (lo hi : Int) (w : World), (hi - lo).toNat ≤ k → 0 ≤ lo → lo < hi → hi ≤ hi0 → Below B w0 w →
    Calls Tryz.prog 123 #[.int .i64 lo, .int .i64 hi, .pointer (some a), .pointer (some h)] w (Halved p lo hi w) := by
  have HP := Lib.hid HP
  intro k
  induction k with
  | zero => intro lo hi w h1 h2 h3; omega
  | succ k ih0 =>
    have ih := Lib.hid ih0
    clear ih0
    intro lo hi w h1 h2 h3 h4 hb
    have ca := (hb.cell hab).trans ha
    have ch := (hb.cell hhb).trans hh
    have hBw := Nat.le_trans hB hb.size
    by_cases hlt : hi - lo < 2
    · go_enter Tryz.func123, Tryz.ntmps123
      go_wp2_with fail
      go_ret
      exact ⟨lo, rfl, ⟨by omega, by omega, .inl rfl, .inl (by omega)⟩, Below.refl _ _⟩
    · by_cases hp : p ((lo + hi) / 2) = true
      · go_enter Tryz.func123, Tryz.ntmps123
        go_wp2_with fail
        refine (HP.out _ w (by omega) (by omega) hb).mono ?_
        rintro e w1 ⟨rfl, hb1⟩
        have hbn := hb.trans (hb1.mono hBw)
        have cn := (hbn.cell hhb).trans hh
        go_wp2_with fail
        refine (ih.out _ hi w1 (by omega) (by omega) (by omega) h4 hbn).mono ?_
        rintro e w2 ⟨r, rfl, hr, hb2⟩
        have Hr := Lib.hid hr
        clear hr
        go_wp2_with fail
        go_ret
        obtain ⟨q1, q2, q3, q4⟩ := Hr.out
        exact ⟨r, rfl, ⟨by omega, by omega, q3.elim (fun e => .inr (e ▸ hp)) .inr, q4⟩, hb1.trans (hb2.mono hb1.size)⟩
      · have hp' : p ((lo + hi) / 2) = false := by simpa using hp
        clear hp
        go_enter Tryz.func123, Tryz.ntmps123
        go_wp2_with fail
        refine (HP.out _ w (by omega) (by omega) hb).mono ?_
        rintro e w1 ⟨rfl, hb1⟩
        have hbn := hb.trans (hb1.mono hBw)
        have cn := (hbn.cell hhb).trans hh
        go_wp2_with fail
        refine (ih.out lo _ w1 (by omega) (by omega) (by omega) (by omega) hbn).mono ?_
        rintro e w2 ⟨r, rfl, hr, hb2⟩
        have Hr := Lib.hid hr
        clear hr
        go_wp2_with fail
        go_ret
        obtain ⟨q1, q2, q3, q4⟩ := Hr.out
        exact ⟨r, rfl, ⟨by omega, by omega, q3, q4.elim (fun e => .inr (e ▸ hp')) .inr⟩, hb1.trans (hb2.mono hb1.size)⟩
theorem greatest2_any (c1 c2 : Value) (p : Int → Bool) (w : World) (lo hi : Int) (h0 : 0 ≤ lo) (h1 : lo < hi) (hm : hi ≤ 1000000000)
    (HP : ∀ (n : Int) (W : World), 0 ≤ n → n < hi → Below w.heap.size w W → Calls Tryz.prog 105 #[.int .i64 n, c1, c2] W fun e w' => e = .returned (.bool (p n)) ∧ Below W.heap.size W w') :
    Calls Tryz.prog 104 #[.int .i64 lo, .int .i64 hi, .func (.func 105) #[] #[c1, c2]] w (Halved p lo hi w) := by
  have H : ∀ w0 : World, Below w.heap.size w w0 → w0.heap.size = w.heap.size + 2 → w0.cell? ⟨w.heap.size, 0, none⟩ = some (.func (.func 105) #[] #[c1, c2]) → w0.cell? ⟨w.heap.size + 1, 0, none⟩ = some (.func (.func 123) #[] #[.pointer (some ⟨w.heap.size, 0, none⟩), .pointer (some ⟨w.heap.size + 1, 0, none⟩)]) →
      Calls Tryz.prog 123 #[.int .i64 lo, .int .i64 hi, .pointer (some ⟨w.heap.size, 0, none⟩), .pointer (some ⟨w.heap.size + 1, 0, none⟩)] w0 (Halved p lo hi w0) := by
    intro w0 hb hs c1' c2'
    exact halve2_any c1 c2 p w0.heap.size w0 ⟨w.heap.size, 0, none⟩ ⟨w.heap.size + 1, 0, none⟩ c1' (by simp; omega) c2' (by simp; omega) (Nat.le_refl _) hi hm (fun n W a b c => HP n W a b (hb.trans (c.mono hb.size))) _ lo hi w0 (Nat.le_refl _) h0 h1 (Int.le_refl _) (Below.refl _ _)
  have H := Lib.hid H
  clear HP
  go_enter Tryz.func104, Tryz.ntmps104
  go_wp2_with fail
  refine (H.out _ ?_ ?_ ?_ ?_).mono ?_
  · go_grown
  · simp
  · simp
  · simp
  rintro e w2 ⟨r, rfl, hr, hb2⟩
  have Hr := Lib.hid hr
  clear hr
  go_wp2_with fail
  go_ret
  exact ⟨r, rfl, Hr.out, Below.trans (by go_grown) (hb2.mono (by simp; omega))⟩

set_option maxHeartbeats 400000 in
set_option maxRecDepth 100000 in
theorem halve3_any (c1 c2 c3 : Value) (p : Int → Bool) (B : Nat) (w0 : World) (a h : Addr) (ha : w0.cell? a = some (.func (.func 109) #[] #[c1, c2, c3])) (hab : a.block < B)
    (hh : w0.cell? h = some (.func (.func 123) #[] #[.pointer (some a), .pointer (some h)])) (hhb : h.block < B) (hB : B ≤ w0.heap.size) (hi0 : Int) (hm : hi0 ≤ 1000000000)
    (HP : ∀ (n : Int) (W : World), 0 ≤ n → n < hi0 → Below B w0 W → Calls Tryz.prog 109 #[.int .i64 n, c1, c2, c3] W fun e w' => e = .returned (.bool (p n)) ∧ Below W.heap.size W w') :
    ∀ (k : Nat) (lo hi : Int) (w : World), (hi - lo).toNat ≤ k → 0 ≤ lo → lo < hi → hi ≤ hi0 → Below B w0 w →
    Calls Tryz.prog 123 #[.int .i64 lo, .int .i64 hi, .pointer (some a), .pointer (some h)] w (Halved p lo hi w) := by
  have HP := Lib.hid HP
  intro k
  induction k with
  | zero => intro lo hi w h1 h2 h3; omega
  | succ k ih0 =>
    have ih := Lib.hid ih0
    clear ih0
    intro lo hi w h1 h2 h3 h4 hb
    have ca := (hb.cell hab).trans ha
    have ch := (hb.cell hhb).trans hh
    have hBw := Nat.le_trans hB hb.size
    by_cases hlt : hi - lo < 2
    · go_enter Tryz.func123, Tryz.ntmps123
      go_wp2_with fail
      go_ret
      exact ⟨lo, rfl, ⟨by omega, by omega, .inl rfl, .inl (by omega)⟩, Below.refl _ _⟩
    · by_cases hp : p ((lo + hi) / 2) = true
      · go_enter Tryz.func123, Tryz.ntmps123
        go_wp2_with fail
        refine (HP.out _ w (by omega) (by omega) hb).mono ?_
        rintro e w1 ⟨rfl, hb1⟩
        have hbn := hb.trans (hb1.mono hBw)
        have cn := (hbn.cell hhb).trans hh
        go_wp2_with fail
        refine (ih.out _ hi w1 (by omega) (by omega) (by omega) h4 hbn).mono ?_
        rintro e w2 ⟨r, rfl, hr, hb2⟩
        have Hr := Lib.hid hr
        clear hr
        go_wp2_with fail
        go_ret
        obtain ⟨q1, q2, q3, q4⟩ := Hr.out
        exact ⟨r, rfl, ⟨by omega, by omega, q3.elim (fun e => .inr (e ▸ hp)) .inr, q4⟩, hb1.trans (hb2.mono hb1.size)⟩
      · have hp' : p ((lo + hi) / 2) = false := by simpa using hp
        clear hp
        go_enter Tryz.func123, Tryz.ntmps123
        go_wp2_with fail
        refine (HP.out _ w (by omega) (by omega) hb).mono ?_
        rintro e w1 ⟨rfl, hb1⟩
        have hbn := hb.trans (hb1.mono hBw)
        have cn := (hbn.cell hhb).trans hh
        go_wp2_with fail
        refine (ih.out lo _ w1 (by omega) (by omega) (by omega) (by omega) hbn).mono ?_
        rintro e w2 ⟨r, rfl, hr, hb2⟩
        have Hr := Lib.hid hr
        clear hr
        go_wp2_with fail
        go_ret
        obtain ⟨q1, q2, q3, q4⟩ := Hr.out
        exact ⟨r, rfl, ⟨by omega, by omega, q3, q4.elim (fun e => .inr (e ▸ hp')) .inr⟩, hb1.trans (hb2.mono hb1.size)⟩
theorem greatest3_any (c1 c2 c3 : Value) (p : Int → Bool) (w : World) (lo hi : Int) (h0 : 0 ≤ lo) (h1 : lo < hi) (hm : hi ≤ 1000000000)
    (HP : ∀ (n : Int) (W : World), 0 ≤ n → n < hi → Below w.heap.size w W → Calls Tryz.prog 109 #[.int .i64 n, c1, c2, c3] W fun e w' => e = .returned (.bool (p n)) ∧ Below W.heap.size W w') :
    Calls Tryz.prog 104 #[.int .i64 lo, .int .i64 hi, .func (.func 109) #[] #[c1, c2, c3]] w (Halved p lo hi w) := by
  have H : ∀ w0 : World, Below w.heap.size w w0 → w0.heap.size = w.heap.size + 2 → w0.cell? ⟨w.heap.size, 0, none⟩ = some (.func (.func 109) #[] #[c1, c2, c3]) → w0.cell? ⟨w.heap.size + 1, 0, none⟩ = some (.func (.func 123) #[] #[.pointer (some ⟨w.heap.size, 0, none⟩), .pointer (some ⟨w.heap.size + 1, 0, none⟩)]) →
      Calls Tryz.prog 123 #[.int .i64 lo, .int .i64 hi, .pointer (some ⟨w.heap.size, 0, none⟩), .pointer (some ⟨w.heap.size + 1, 0, none⟩)] w0 (Halved p lo hi w0) := by
    intro w0 hb hs c1' c2'
    exact halve3_any c1 c2 c3 p w0.heap.size w0 ⟨w.heap.size, 0, none⟩ ⟨w.heap.size + 1, 0, none⟩ c1' (by simp; omega) c2' (by simp; omega) (Nat.le_refl _) hi hm (fun n W a b c => HP n W a b (hb.trans (c.mono hb.size))) _ lo hi w0 (Nat.le_refl _) h0 h1 (Int.le_refl _) (Below.refl _ _)
  have H := Lib.hid H
  clear HP
  go_enter Tryz.func104, Tryz.ntmps104
  go_wp2_with fail
  refine (H.out _ ?_ ?_ ?_ ?_).mono ?_
  · go_grown
  · simp
  · simp
  · simp
  rintro e w2 ⟨r, rfl, hr, hb2⟩
  have Hr := Lib.hid hr
  clear hr
  go_wp2_with fail
  go_ret
  exact ⟨r, rfl, Hr.out, Below.trans (by go_grown) (hb2.mono (by simp; omega))⟩
end Go.Proofs.YtfojjecnmfkcfaaGreat
namespace Go.Proofs.YtfojjecnmfkcfaaGreat
open Go.RowKit
theorem keep2 {w0 w1 w2 : World} {b1 o1 b2 o2 : Nat} {v1 v2 : Value} (hB : b1 < w0.heap.size) (hB2 : b2 < w0.heap.size) (h : w1.cell? ⟨b1, o1, none⟩ = some v1 ∧ w1.cell? ⟨b2, o2, none⟩ = some v2 ∧ Below w0.heap.size w0 w1)
    (hb : Below w1.heap.size w1 w2) : w2.cell? ⟨b1, o1, none⟩ = some v1 ∧ w2.cell? ⟨b2, o2, none⟩ = some v2 ∧ Below w0.heap.size w0 w2 := by
  obtain ⟨h1, h2, h5⟩ := h
  exact ⟨(hb.cell (p := ⟨b1, o1, none⟩) (Nat.lt_of_lt_of_le hB h5.size)).trans h1, (hb.cell (p := ⟨b2, o2, none⟩) (Nat.lt_of_lt_of_le hB2 h5.size)).trans h2, h5.trans (hb.mono h5.size)⟩
theorem and3 {a b c : Prop} (h : a ∧ b ∧ c) : c := h.2.2
def costCode (t : List (Int × Int)) (p : Int) : Int := if ckTariff t = 0 then (if 0 ≤ p ∧ p ≤ 20000 then 0 else 4) else ckTariff t
def costRes (t : List (Int × Int)) (p : Int) : Int := if costCode t p = 0 then costF t p else 0
theorem ckTariff_ok {t : List (Int × Int)} (h : ckTariff t = 0) : 1 ≤ t.length ∧ t.length ≤ 4 ∧ stepsOk t ∧ risesB 1 (t.map (·.1)) = true := by
  unfold ckTariff at h
  split at h
  · omega
  · split at h
    · omega
    · split at h
      · rename_i h1 h2 h3
        exact ⟨by omega, by omega, stepsOk_of (by simpa using h2), h3⟩
      · omega
theorem ckTariff_ne {t : List (Int × Int)} : ckTariff t = 0 ∨ ckTariff t = 3 ∨ ckTariff t = 4 ∨ ckTariff t = 6 := by
  unfold ckTariff
  split
  · omega
  · split
    · omega
    · split <;> omega
set_option maxHeartbeats 400000 in
theorem Cost_any (A : Option Addr) (c : Nat) (t : List (Int × Int)) (p : Int) (w : World) (hr : Rd w w.heap.size A (pairs t)) (hl : t.length ≤ 1000) (hc : t.length ≤ c) :
    Calls Tryz.prog 50 #[.slice A t.length c, .int .i64 p] w fun e w' => e = .returned (.tuple #[.int .i64 (costRes t p), .int .i64 (costCode t p)]) ∧ Below w.heap.size w w' := by
  have H1 := Lib.hid (checkTariff_any A c t w hr hl hc)
  by_cases h0 : ckTariff t = 0
  · obtain ⟨o1, o2, o3, o4⟩ := ckTariff_ok h0
    rw [h0] at H1
    by_cases hp : inB p 0 20000 = true
    · have hp' := inB_iff.1 hp
      have hF : costCode t p = 0 := by unfold costCode; rw [if_pos h0, if_pos hp']
      have HF := Lib.hid hF
      clear hF
      have H2 := fun w1 (hb : Below w.heap.size w w1) => Lib.hid (cost_any A c t p w1 (hr.next hb) hl o3 hp'.1 hp'.2)
      clear h0 o4
      go_enter Tryz.func50, Tryz.ntmps50
      go_wp2_with fail
      refine H1.out.mono ?_
      rintro e w1 ⟨rfl, hb1⟩
      go_wp2_with fail
      refine (in_any _ _ _ _).mono ?_
      rintro e w2 ⟨rfl, rfl⟩
      go_wp2_with fail
      refine (H2 _ hb1).out.mono ?_
      rintro e w3 ⟨rfl, hb3⟩
      go_wp2_with fail
      go_ret2
      exact ⟨by rw [costRes, HF.out]; rfl, hb1.trans (hb3.mono hb1.size)⟩
    · have hp' : ¬(0 ≤ p ∧ p ≤ 20000) := fun h => hp (inB_iff.2 h)
      have hF : costCode t p = 4 := by unfold costCode; rw [if_pos h0, if_neg hp']
      have HF := Lib.hid hF
      clear hF
      clear h0 o4 hp'
      go_enter Tryz.func50, Tryz.ntmps50
      go_wp2_with fail
      refine H1.out.mono ?_
      rintro e w1 ⟨rfl, hb1⟩
      go_wp2_with fail
      refine (in_any _ _ _ _).mono ?_
      rintro e w2 ⟨rfl, rfl⟩
      go_wp2_with fail
      go_ret2
      exact ⟨by rw [costRes, HF.out]; rfl, hb1⟩
  · have hF : costCode t p = ckTariff t := by unfold costCode; rw [if_neg h0]
    have HF := Lib.hid hF
    clear hF
    have h0' : (ckTariff t == 0) = false := by simpa using h0
    have h0'' : (ckTariff t != 0) = true := by simpa using h0
    have H0 := Lib.hid h0
    clear h0
    go_enter Tryz.func50, Tryz.ntmps50
    go_wp2_with fail
    refine H1.out.mono ?_
    rintro e w1 ⟨rfl, hb1⟩
    go_wp2_with fail
    go_ret2
    exact ⟨by rw [costRes, HF.out, if_neg H0.out]; rfl, hb1⟩
set_option maxHeartbeats 400000 in
theorem poundsSo_any (A : Option Addr) (c : Nat) (t : List (Int × Int)) (p n : Int) (b1 b2 : Nat) (w : World) (h1 : w.cell? ⟨b1, 0, none⟩ = some (.slice A t.length c)) (h2 : w.cell? ⟨b2, 0, none⟩ = some (.int .i64 p)) (hb1 : b1 < w.heap.size) (hb2 : b2 < w.heap.size)
    (hr : Rd w w.heap.size A (pairs t)) (hl : t.length ≤ 1000) (hs : stepsOk t) (h0 : 0 ≤ n) (hn : n ≤ 20000) :
    Calls Tryz.prog 105 #[.int .i64 n, .pointer (some ⟨b1, 0, none⟩), .pointer (some ⟨b2, 0, none⟩)] w fun e w' => e = .returned (.bool (decide (costF t n ≤ p))) ∧ Below w.heap.size w w' := by
  go_enter Tryz.func105, Tryz.ntmps105
  go_wp2_with fail
  go_region_held3 (fun w' => w'.cell? ⟨b1, 0, none⟩ = some (.slice A t.length c) ∧ w'.cell? ⟨b2, 0, none⟩ = some (.int .i64 p) ∧ Below w.heap.size w w') (first | exact ⟨h1, h2, (Below.refl _ _).drew⟩ | exact keep2 hb1 hb2 (by assumption) (by assumption))
    (first | (go_at_call 102; refine (cost_any A c t n _ ?_ hl hs h0 hn).mono ?_; exact hr.next (and3 (by assumption)); rintro e w' ⟨rfl, hb⟩))
  all_goals go_wp2_with fail
  all_goals go_ret
  all_goals exact ⟨rfl, and3 (by assumption)⟩
end Go.Proofs.YtfojjecnmfkcfaaGreat
namespace Go.Proofs.YtfojjecnmfkcfaaGreat
open Go.RowKit
theorem costK_snd (t : List (Int × Int)) (p q : Int) : ∀ k, (costK t p k).2 = (costK t q k).2 := by
  intro k; cases k <;> rfl
theorem costK_mono (t : List (Int × Int)) (hs : stepsOk t) (p q : Int) (hpq : p ≤ q) : ∀ k, k ≤ t.length → (costK t p k).1 ≤ (costK t q k).1 := by
  intro k
  induction k with
  | zero => intro _; exact Int.le_refl _
  | succ k ih =>
    intro hk
    have h1 := ih (by omega)
    have h2 := costK_snd t p q k
    have hm : t.getD k (0, 0) ∈ t := by rw [List.getD_eq_getElem?_getD, List.getElem?_eq_getElem (by omega)]; exact List.getElem_mem _
    obtain ⟨e, f, g, h⟩ := hs _ hm
    simp only [costK]
    rw [h2]
    generalize t.getD k (0, 0) = s at *
    have hle : (if k + 1 = t.length then p else min p s.1) ≤ (if k + 1 = t.length then q else min q s.1) := by split <;> omega
    generalize (if k + 1 = t.length then p else min p s.1) = x at *
    generalize (if k + 1 = t.length then q else min q s.1) = y at *
    have : max 0 (x - (costK t q k).2) * s.2 ≤ max 0 (y - (costK t q k).2) * s.2 := Int.mul_le_mul_of_nonneg_right (by omega) g
    omega
theorem costF_mono (t : List (Int × Int)) (hs : stepsOk t) (p q : Int) (hpq : p ≤ q) : costF t p ≤ costF t q := by
  have := costK_mono t hs p q hpq t.length (Nat.le_refl _)
  unfold costF; omega
/-- The last number up to k of which something is so, of those that are so from 0 on. -/
def lastOk (q : Int → Bool) : Nat → Int
  | 0 => 0
  | k + 1 => if q (k + 1 : Nat) then (k + 1 : Nat) else lastOk q k
theorem lastOk_bd (q : Int → Bool) (k : Nat) : 0 ≤ lastOk q k ∧ lastOk q k ≤ k := by
  induction k with
  | zero => simp [lastOk]
  | succ k ih => simp only [lastOk]; split <;> omega
theorem lastOk_of (q : Int → Bool) (hm : ∀ a b, a ≤ b → q b = true → q a = true) (r : Int) : ∀ (k : Nat), Between2 q 0 (k + 1) r → lastOk q k = r := by
  intro k
  induction k with
  | zero => intro ⟨a, b, _, _⟩; simp only [lastOk]; omega
  | succ k ih =>
    intro ⟨a, b, c, d⟩
    simp only [lastOk]
    by_cases hq : q (k + 1 : Nat) = true
    · rw [if_pos hq]
      rcases d with d | d
      · omega
      · have : r + 1 ≤ (k + 1 : Nat) ∨ r = (k + 1 : Nat) := by omega
        rcases this with h | h
        · have := hm _ _ h hq; rw [this] at d; cases d
        · omega
    · rw [if_neg hq]
      have hr : r < (k + 1 : Nat) := by
        rcases c with c | c
        · omega
        · rcases Int.lt_or_le r (k + 1 : Nat) with h | h
          · exact h
          · exact absurd (hm _ _ h c) hq
      refine ih ⟨a, by omega, c, ?_⟩
      rcases d with d | d
      · exfalso; omega
      · exact .inr d
def poundsF (t : List (Int × Int)) (p : Int) : Int := lastOk (fun n => decide (costF t n ≤ p)) 20000
theorem poundsF_of {t : List (Int × Int)} (hs : stepsOk t) {p r : Int} (h : Between2 (fun n => decide (costF t n ≤ p)) 0 20001 r) : r = poundsF t p :=
  (lastOk_of _ (fun a b hab hb => by simp only [decide_eq_true_eq] at *; have := costF_mono t hs a b hab; omega) r 20000 h).symm
def poundsCode (t : List (Int × Int)) (p : Int) : Int := if ckTariff t = 0 then (if p < 0 then 4 else 0) else ckTariff t
def poundsRes (t : List (Int × Int)) (p : Int) : Int := if poundsCode t p = 0 then poundsF t p else 0
set_option maxHeartbeats 400000 in
theorem Pounds_any (A : Option Addr) (c : Nat) (t : List (Int × Int)) (p : Int) (w : World) (hr : Rd w w.heap.size A (pairs t)) (hl : t.length ≤ 1000) (hc : t.length ≤ c) :
    Calls Tryz.prog 52 #[.slice A t.length c, .int .i64 p] w fun e w' => e = .returned (.tuple #[.int .i64 (poundsRes t p), .int .i64 (poundsCode t p)]) ∧ Below w.heap.size w w' := by
  have H1 : ∀ w1, Below w.heap.size w w1 → Hid (Calls Tryz.prog 13 #[.slice A t.length c] w1 fun e w' => e = .returned (.int .i64 (ckTariff t)) ∧ Below w1.heap.size w1 w') := fun w1 hb => checkTariff_any A c t w1 (hr.next hb) hl hc
  by_cases h0 : ckTariff t = 0
  · obtain ⟨o1, o2, o3, o4⟩ := ckTariff_ok h0
    by_cases hp : p < 0
    · have hF : poundsCode t p = 4 := by unfold poundsCode; rw [if_pos h0, if_pos hp]
      have HF := Lib.hid hF
      clear hF
      rw [h0] at H1
      clear h0 o4
      go_enter Tryz.func52, Tryz.ntmps52
      go_wp2_with fail
      refine (H1 _ (by go_grown)).out.mono ?_
      rintro e w1 ⟨rfl, hb1⟩
      have hbw : Below w.heap.size w w1 := Below.trans (by go_grown) (hb1.mono (by simp; omega))
      have hcl := hb1.cell (p := ⟨w.heap.size + 1, 0, none⟩) (by simp)
      simp at hcl
      go_wp2_with fail
      go_ret2
      exact ⟨by rw [poundsRes, HF.out]; rfl, hbw⟩
    · have hF : poundsCode t p = 0 := by unfold poundsCode; rw [if_pos h0, if_neg hp]
      have HF := Lib.hid hF
      clear hF
      rw [h0] at H1
      clear h0 o4
      have H2 : ∀ w1, Below w.heap.size w w1 → w1.cell? ⟨w.heap.size, 0, none⟩ = some (.slice A t.length c) → w1.cell? ⟨w.heap.size + 1, 0, none⟩ = some (.int .i64 p) → w.heap.size + 1 < w1.heap.size →
          Hid (Calls Tryz.prog 104 #[.int .i64 0, .int .i64 20001, .func (.func 105) #[] #[.pointer (some ⟨w.heap.size, 0, none⟩), .pointer (some ⟨w.heap.size + 1, 0, none⟩)]] w1 (Halved (fun n => decide (costF t n ≤ p)) 0 20001 w1)) := by
        intro w1 hb1 c1 c2 hz
        refine greatest2_any _ _ (fun n => decide (costF t n ≤ p)) w1 0 20001 (by omega) (by omega) (by omega) ?_
        intro n W a b hbW
        exact poundsSo_any A c t p n _ _ W ((hbW.cell (p := ⟨w.heap.size, 0, none⟩) (by simp; omega)).trans c1) ((hbW.cell (p := ⟨w.heap.size + 1, 0, none⟩) (by simp; omega)).trans c2) (by have := hbW.size; omega) (by have := hbW.size; omega) ((hr.next hb1).next hbW) hl o3 a (by omega)
      go_enter Tryz.func52, Tryz.ntmps52
      go_wp2_with fail
      refine (H1 _ (by go_grown)).out.mono ?_
      rintro e w1 ⟨rfl, hb1⟩
      have hbw : Below w.heap.size w w1 := Below.trans (by go_grown) (hb1.mono (by simp; omega))
      have hcl := hb1.cell (p := ⟨w.heap.size + 1, 0, none⟩) (by simp)
      simp at hcl
      have hcl2 := hb1.cell (p := ⟨w.heap.size, 0, none⟩) (by simp; omega)
      have hcl2' : w1.cell? ⟨w.heap.size, 0, none⟩ = some (.slice A t.length c) := by rw [hcl2]; simp
      clear hcl2
      have hz := hb1.size
      simp at hz
      go_wp2_with fail
      refine (H2 w1 hbw hcl2' hcl (by omega)).out.mono ?_
      rintro e w2 ⟨r, rfl, hr2, hb2⟩
      have hr3 := Lib.hid (poundsF_of o3 hr2)
      clear hr2
      go_wp2_with fail
      go_ret2
      exact ⟨by rw [poundsRes, HF.out, if_pos rfl, ← hr3.out]; rfl, hbw.trans (hb2.mono hbw.size)⟩
  · have hF : poundsCode t p = ckTariff t := by unfold poundsCode; rw [if_neg h0]
    have HF := Lib.hid hF
    clear hF
    have h0' : (ckTariff t == 0) = false := by simpa using h0
    have h0'' : (ckTariff t != 0) = true := by simpa using h0
    have H0 := Lib.hid h0
    clear h0
    go_enter Tryz.func52, Tryz.ntmps52
    go_wp2_with fail
    refine (H1 _ (by go_grown)).out.mono ?_
    rintro e w1 ⟨rfl, hb1⟩
    have hbw : Below w.heap.size w w1 := Below.trans (by go_grown) (hb1.mono (by simp; omega))
    go_wp2_with fail
    go_ret2
    exact ⟨by rw [poundsRes, HF.out, if_neg H0.out]; rfl, hbw⟩
end Go.Proofs.YtfojjecnmfkcfaaGreat
