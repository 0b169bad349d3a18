/- Pounds: how many pounds there are for so many pence, or the error, at every tariff of at most 1000 steps. -/
import Derived.Test.YtfojjecnmfkcfaaPounds
namespace Go.Proofs.Ytfojjecnmfkcfaa
open Go.RowKit
theorem costK_snd (t : List (Int × Int)) (p q : Int) : ∀ k, (costK t p k).2 = (costK t q k).2 := by
  intro k; cases k <;> rfl
theorem costK_mono (t : List (Int × Int)) (hs : stepsOk t) (p q : Int) (hpq : p ≤ q) : ∀ k, k ≤ t.length → (costK t p k).1 ≤ (costK t q k).1 := by
  intro k
  induction k with
  | zero => intro _; exact Int.le_refl _
  | succ k ih =>
    intro hk
    have h1 := ih (by omega)
    have h2 := costK_snd t p q k
    have hm : t.getD k (0, 0) ∈ t := by rw [List.getD_eq_getElem?_getD, List.getElem?_eq_getElem (by omega)]; exact List.getElem_mem _
    obtain ⟨e, f, g, h⟩ := hs _ hm
    simp only [costK]
    rw [h2]
    generalize t.getD k (0, 0) = s at *
    have hle : (if k + 1 = t.length then p else min p s.1) ≤ (if k + 1 = t.length then q else min q s.1) := by split <;> omega
    generalize (if k + 1 = t.length then p else min p s.1) = x at *
    generalize (if k + 1 = t.length then q else min q s.1) = y at *
    have : max 0 (x - (costK t q k).2) * s.2 ≤ max 0 (y - (costK t q k).2) * s.2 := Int.mul_le_mul_of_nonneg_right (by omega) g
    omega
theorem costF_mono (t : List (Int × Int)) (hs : stepsOk t) (p q : Int) (hpq : p ≤ q) : costF t p ≤ costF t q := by
  have := costK_mono t hs p q hpq t.length (Nat.le_refl _)
  unfold costF; omega
/-- The last number up to k of which something is so, of those that are so from 0 on. -/
def lastOk (q : Int → Bool) : Nat → Int
  | 0 => 0
  | k + 1 => if q (k + 1 : Nat) then (k + 1 : Nat) else lastOk q k
theorem lastOk_bd (q : Int → Bool) (k : Nat) : 0 ≤ lastOk q k ∧ lastOk q k ≤ k := by
  induction k with
  | zero => simp [lastOk]
  | succ k ih => simp only [lastOk]; split <;> omega
theorem lastOk_of (q : Int → Bool) (hm : ∀ a b, a ≤ b → q b = true → q a = true) (r : Int) : ∀ (k : Nat), Between2 q 0 (k + 1) r → lastOk q k = r := by
  intro k
  induction k with
  | zero => intro ⟨a, b, _, _⟩; simp only [lastOk]; omega
  | succ k ih =>
    intro ⟨a, b, c, d⟩
    simp only [lastOk]
    by_cases hq : q (k + 1 : Nat) = true
    · rw [if_pos hq]
      rcases d with d | d
      · omega
      · have : r + 1 ≤ (k + 1 : Nat) ∨ r = (k + 1 : Nat) := by omega
        rcases this with h | h
        · have := hm _ _ h hq; rw [this] at d; cases d
        · omega
    · rw [if_neg hq]
      have hr : r < (k + 1 : Nat) := by
        rcases c with c | c
        · omega
        · rcases Int.lt_or_le r (k + 1 : Nat) with h | h
          · exact h
          · exact absurd (hm _ _ h c) hq
      refine ih ⟨a, by omega, c, ?_⟩
      rcases d with d | d
      · exfalso; omega
      · exact .inr d
def poundsF (t : List (Int × Int)) (p : Int) : Int := lastOk (fun n => decide (costF t n ≤ p)) 20000
theorem poundsF_of {t : List (Int × Int)} (hs : stepsOk t) {p r : Int} (h : Between2 (fun n => decide (costF t n ≤ p)) 0 20001 r) : r = poundsF t p :=
  (lastOk_of _ (fun a b hab hb => by simp only [decide_eq_true_eq] at *; have := costF_mono t hs a b hab; omega) r 20000 h).symm
def poundsCode (t : List (Int × Int)) (p : Int) : Int := if ckTariff t = 0 then (if p < 0 then 4 else 0) else ckTariff t
def poundsRes (t : List (Int × Int)) (p : Int) : Int := if poundsCode t p = 0 then poundsF t p else 0
set_option maxHeartbeats 400000 in
theorem Pounds_any (A : Option Addr) (c : Nat) (t : List (Int × Int)) (p : Int) (w : World) (hr : Rd w w.heap.size A (pairs t)) (hl : t.length ≤ 1000) (hc : t.length ≤ c) :
    Calls Try.prog 23 #[.slice A t.length c, .int .i64 p] w fun e w' => e = .returned (.tuple #[.int .i64 (poundsRes t p), .int .i64 (poundsCode t p)]) ∧ Below w.heap.size w w' := by
  have H1 : ∀ w1, Below w.heap.size w w1 → Hid (Calls Try.prog 19 #[.slice A t.length c] w1 fun e w' => e = .returned (.int .i64 (ckTariff t)) ∧ Below w1.heap.size w1 w') := fun w1 hb => checkTariff_any A c t w1 (hr.next hb) hl hc
  by_cases h0 : ckTariff t = 0
  · obtain ⟨o1, o2, o3, o4⟩ := ckTariff_ok h0
    by_cases hp : p < 0
    · have hF : poundsCode t p = 4 := by unfold poundsCode; rw [if_pos h0, if_pos hp]
      have HF := Lib.hid hF
      clear hF
      rw [h0] at H1
      clear h0 o4
      go_enter Try.func23, Try.ntmps23
      go_wp2_with fail
      refine (H1 _ (by go_grown)).out.mono ?_
      rintro e w1 ⟨rfl, hb1⟩
      have hbw : Below w.heap.size w w1 := Below.trans (by go_grown) (hb1.mono (by simp; omega))
      have hcl := hb1.cell (p := ⟨w.heap.size + 1, 0, none⟩) (by simp)
      simp at hcl
      go_wp2_with fail
      go_ret2
      exact ⟨by rw [poundsRes, HF.out]; rfl, hbw⟩
    · have hF : poundsCode t p = 0 := by unfold poundsCode; rw [if_pos h0, if_neg hp]
      have HF := Lib.hid hF
      clear hF
      rw [h0] at H1
      clear h0 o4
      have H2 : ∀ w1, Below w.heap.size w w1 → w1.cell? ⟨w.heap.size, 0, none⟩ = some (.slice A t.length c) → w1.cell? ⟨w.heap.size + 1, 0, none⟩ = some (.int .i64 p) → w.heap.size + 1 < w1.heap.size →
          Hid (Calls Try.prog 92 #[.int .i64 0, .int .i64 20001, .func (.func 93) #[] #[.pointer (some ⟨w.heap.size, 0, none⟩), .pointer (some ⟨w.heap.size + 1, 0, none⟩)]] w1 (Halved (fun n => decide (costF t n ≤ p)) 0 20001 w1)) := by
        intro w1 hb1 c1 c2 hz
        refine greatest2_any _ _ (fun n => decide (costF t n ≤ p)) w1 0 20001 (by omega) (by omega) (by omega) ?_
        intro n W a b hbW
        exact poundsSo_any A c t p n _ _ W ((hbW.cell (p := ⟨w.heap.size, 0, none⟩) (by simp; omega)).trans c1) ((hbW.cell (p := ⟨w.heap.size + 1, 0, none⟩) (by simp; omega)).trans c2) (by have := hbW.size; omega) (by have := hbW.size; omega) ((hr.next hb1).next hbW) hl o3 a (by omega)
      go_enter Try.func23, Try.ntmps23
      go_wp2_with fail
      refine (H1 _ (by go_grown)).out.mono ?_
      rintro e w1 ⟨rfl, hb1⟩
      have hbw : Below w.heap.size w w1 := Below.trans (by go_grown) (hb1.mono (by simp; omega))
      have hcl := hb1.cell (p := ⟨w.heap.size + 1, 0, none⟩) (by simp)
      simp at hcl
      have hcl2 := hb1.cell (p := ⟨w.heap.size, 0, none⟩) (by simp; omega)
      have hcl2' : w1.cell? ⟨w.heap.size, 0, none⟩ = some (.slice A t.length c) := by rw [hcl2]; simp
      clear hcl2
      have hz := hb1.size
      simp at hz
      go_wp2_with fail
      refine (H2 w1 hbw hcl2' hcl (by omega)).out.mono ?_
      rintro e w2 ⟨r, rfl, hr2, hb2⟩
      have hr3 := Lib.hid (poundsF_of o3 hr2)
      clear hr2
      go_wp2_with fail
      go_ret2
      exact ⟨by rw [poundsRes, HF.out, if_pos rfl, ← hr3.out]; rfl, hbw.trans (hb2.mono hbw.size)⟩
  · have hF : poundsCode t p = ckTariff t := by unfold poundsCode; rw [if_neg h0]
    have HF := Lib.hid hF
    clear hF
    have h0' : (ckTariff t == 0) = false := by simpa using h0
    have h0'' : (ckTariff t != 0) = true := by simpa using h0
    have H0 := Lib.hid h0
    clear h0
    go_enter Try.func23, Try.ntmps23
    go_wp2_with fail
    refine (H1 _ (by go_grown)).out.mono ?_
    rintro e w1 ⟨rfl, hb1⟩
    have hbw : Below w.heap.size w w1 := Below.trans (by go_grown) (hb1.mono (by simp; omega))
    go_wp2_with fail
    go_ret2
    exact ⟨by rw [poundsRes, HF.out, if_neg H0.out]; rfl, hbw⟩
end Go.Proofs.Ytfojjecnmfkcfaa
