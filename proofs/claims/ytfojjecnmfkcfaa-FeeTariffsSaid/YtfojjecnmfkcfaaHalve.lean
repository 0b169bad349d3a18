/- greatest: the halving of a span finds a number at which something is so, and not at the next one. -/
import Derived.Test.YtfojjecnmfkcfaaProg
import Derived.Test.YtfojjecnmfkcfaaBase
import Derived.Laws.EntriesVeiled
namespace Go.Proofs.Ytfojjecnmfkcfaa
open Go.RowKit
/-- What 'halve' finds between lo and hi. -/
def Between2 (p : Int → Bool) (lo hi r : Int) : Prop := lo ≤ r ∧ r < hi ∧ (r = lo ∨ p r = true) ∧ (r + 1 = hi ∨ p (r + 1) = false)
def Halved (p : Int → Bool) (lo hi : Int) (W : World) (e : Ending) (w' : World) : Prop := ∃ r : Int, e = .returned (.int .i64 r) ∧ Between2 p lo hi r ∧ Below W.heap.size W w'

set_option maxHeartbeats 400000 in
set_option maxRecDepth 100000 in
theorem halve2_any (c1 c2 : Value) (p : Int → Bool) (B : Nat) (w0 : World) (a h : Addr) (ha : w0.cell? a = some (.func (.func 93) #[] #[c1, c2])) (hab : a.block < B)
    (hh : w0.cell? h = some (.func (.func 139) #[] #[.pointer (some a), .pointer (some h)])) (hhb : h.block < B) (hB : B ≤ w0.heap.size) (hi0 : Int) (hm : hi0 ≤ 1000000000)
    (HP : ∀ (n : Int) (W : World), 0 ≤ n → n < hi0 → Below B w0 W → Calls Try.prog 93 #[.int .i64 n, c1, c2] W fun e w' => e = .returned (.bool (p n)) ∧ Below W.heap.size W w') :
    ∀ (k : Nat) (lo hi : Int) (w : World), (hi - lo).toNat ≤ k → 0 ≤ lo → lo < hi → hi ≤ hi0 → Below B w0 w →
    Calls Try.prog 139 #[.int .i64 lo, .int .i64 hi, .pointer (some a), .pointer (some h)] w (Halved p lo hi w) := by
  have HP := Lib.hid HP
  intro k
  induction k with
  | zero => intro lo hi w h1 h2 h3; omega
  | succ k ih0 =>
    have ih := Lib.hid ih0
    clear ih0
    intro lo hi w h1 h2 h3 h4 hb
    have ca := (hb.cell hab).trans ha
    have ch := (hb.cell hhb).trans hh
    have hBw := Nat.le_trans hB hb.size
    by_cases hlt : hi - lo < 2
    · go_enter Try.func139, Try.ntmps139
      go_wp2_with fail
      go_ret
      exact ⟨lo, rfl, ⟨by omega, by omega, .inl rfl, .inl (by omega)⟩, Below.refl _ _⟩
    · by_cases hp : p ((lo + hi) / 2) = true
      · go_enter Try.func139, Try.ntmps139
        go_wp2_with fail
        refine (HP.out _ w (by omega) (by omega) hb).mono ?_
        rintro e w1 ⟨rfl, hb1⟩
        have hbn := hb.trans (hb1.mono hBw)
        have cn := (hbn.cell hhb).trans hh
        go_wp2_with fail
        refine (ih.out _ hi w1 (by omega) (by omega) (by omega) h4 hbn).mono ?_
        rintro e w2 ⟨r, rfl, hr, hb2⟩
        have Hr := Lib.hid hr
        clear hr
        go_wp2_with fail
        go_ret
        obtain ⟨q1, q2, q3, q4⟩ := Hr.out
        exact ⟨r, rfl, ⟨by omega, by omega, q3.elim (fun e => .inr (e ▸ hp)) .inr, q4⟩, hb1.trans (hb2.mono hb1.size)⟩
      · have hp' : p ((lo + hi) / 2) = false := by simpa using hp
        clear hp
        go_enter Try.func139, Try.ntmps139
        go_wp2_with fail
        refine (HP.out _ w (by omega) (by omega) hb).mono ?_
        rintro e w1 ⟨rfl, hb1⟩
        have hbn := hb.trans (hb1.mono hBw)
        have cn := (hbn.cell hhb).trans hh
        go_wp2_with fail
        refine (ih.out lo _ w1 (by omega) (by omega) (by omega) (by omega) hbn).mono ?_
        rintro e w2 ⟨r, rfl, hr, hb2⟩
        have Hr := Lib.hid hr
        clear hr
        go_wp2_with fail
        go_ret
        obtain ⟨q1, q2, q3, q4⟩ := Hr.out
        exact ⟨r, rfl, ⟨by omega, by omega, q3, q4.elim (fun e => .inr (e ▸ hp')) .inr⟩, hb1.trans (hb2.mono hb1.size)⟩
theorem greatest2_any (c1 c2 : Value) (p : Int → Bool) (w : World) (lo hi : Int) (h0 : 0 ≤ lo) (h1 : lo < hi) (hm : hi ≤ 1000000000)
    (HP : ∀ (n : Int) (W : World), 0 ≤ n → n < hi → Below w.heap.size w W → Calls Try.prog 93 #[.int .i64 n, c1, c2] W fun e w' => e = .returned (.bool (p n)) ∧ Below W.heap.size W w') :
    Calls Try.prog 92 #[.int .i64 lo, .int .i64 hi, .func (.func 93) #[] #[c1, c2]] w (Halved p lo hi w) := by
  have H : ∀ w0 : World, Below w.heap.size w w0 → w0.heap.size = w.heap.size + 2 → w0.cell? ⟨w.heap.size, 0, none⟩ = some (.func (.func 93) #[] #[c1, c2]) → w0.cell? ⟨w.heap.size + 1, 0, none⟩ = some (.func (.func 139) #[] #[.pointer (some ⟨w.heap.size, 0, none⟩), .pointer (some ⟨w.heap.size + 1, 0, none⟩)]) →
      Calls Try.prog 139 #[.int .i64 lo, .int .i64 hi, .pointer (some ⟨w.heap.size, 0, none⟩), .pointer (some ⟨w.heap.size + 1, 0, none⟩)] w0 (Halved p lo hi w0) := by
    intro w0 hb hs c1' c2'
    exact halve2_any c1 c2 p w0.heap.size w0 ⟨w.heap.size, 0, none⟩ ⟨w.heap.size + 1, 0, none⟩ c1' (by simp; omega) c2' (by simp; omega) (Nat.le_refl _) hi hm (fun n W a b c => HP n W a b (hb.trans (c.mono hb.size))) _ lo hi w0 (Nat.le_refl _) h0 h1 (Int.le_refl _) (Below.refl _ _)
  have H := Lib.hid H
  clear HP
  go_enter Try.func92, Try.ntmps92
  go_wp2_with fail
  refine (H.out _ ?_ ?_ ?_ ?_).mono ?_
  · go_grown
  · simp
  · simp
  · simp
  rintro e w2 ⟨r, rfl, hr, hb2⟩
  have Hr := Lib.hid hr
  clear hr
  go_wp2_with fail
  go_ret
  exact ⟨r, rfl, Hr.out, Below.trans (by go_grown) (hb2.mono (by simp; omega))⟩

set_option maxHeartbeats 400000 in
set_option maxRecDepth 100000 in
theorem halve3_any (c1 c2 c3 : Value) (p : Int → Bool) (B : Nat) (w0 : World) (a h : Addr) (ha : w0.cell? a = some (.func (.func 101) #[] #[c1, c2, c3])) (hab : a.block < B)
    (hh : w0.cell? h = some (.func (.func 139) #[] #[.pointer (some a), .pointer (some h)])) (hhb : h.block < B) (hB : B ≤ w0.heap.size) (hi0 : Int) (hm : hi0 ≤ 1000000000)
    (HP : ∀ (n : Int) (W : World), 0 ≤ n → n < hi0 → Below B w0 W → Calls Try.prog 101 #[.int .i64 n, c1, c2, c3] W fun e w' => e = .returned (.bool (p n)) ∧ Below W.heap.size W w') :
    ∀ (k : Nat) (lo hi : Int) (w : World), (hi - lo).toNat ≤ k → 0 ≤ lo → lo < hi → hi ≤ hi0 → Below B w0 w →
    Calls Try.prog 139 #[.int .i64 lo, .int .i64 hi, .pointer (some a), .pointer (some h)] w (Halved p lo hi w) := by
  have HP := Lib.hid HP
  intro k
  induction k with
  | zero => intro lo hi w h1 h2 h3; omega
  | succ k ih0 =>
    have ih := Lib.hid ih0
    clear ih0
    intro lo hi w h1 h2 h3 h4 hb
    have ca := (hb.cell hab).trans ha
    have ch := (hb.cell hhb).trans hh
    have hBw := Nat.le_trans hB hb.size
    by_cases hlt : hi - lo < 2
    · go_enter Try.func139, Try.ntmps139
      go_wp2_with fail
      go_ret
      exact ⟨lo, rfl, ⟨by omega, by omega, .inl rfl, .inl (by omega)⟩, Below.refl _ _⟩
    · by_cases hp : p ((lo + hi) / 2) = true
      · go_enter Try.func139, Try.ntmps139
        go_wp2_with fail
        refine (HP.out _ w (by omega) (by omega) hb).mono ?_
        rintro e w1 ⟨rfl, hb1⟩
        have hbn := hb.trans (hb1.mono hBw)
        have cn := (hbn.cell hhb).trans hh
        go_wp2_with fail
        refine (ih.out _ hi w1 (by omega) (by omega) (by omega) h4 hbn).mono ?_
        rintro e w2 ⟨r, rfl, hr, hb2⟩
        have Hr := Lib.hid hr
        clear hr
        go_wp2_with fail
        go_ret
        obtain ⟨q1, q2, q3, q4⟩ := Hr.out
        exact ⟨r, rfl, ⟨by omega, by omega, q3.elim (fun e => .inr (e ▸ hp)) .inr, q4⟩, hb1.trans (hb2.mono hb1.size)⟩
      · have hp' : p ((lo + hi) / 2) = false := by simpa using hp
        clear hp
        go_enter Try.func139, Try.ntmps139
        go_wp2_with fail
        refine (HP.out _ w (by omega) (by omega) hb).mono ?_
        rintro e w1 ⟨rfl, hb1⟩
        have hbn := hb.trans (hb1.mono hBw)
        have cn := (hbn.cell hhb).trans hh
        go_wp2_with fail
        refine (ih.out lo _ w1 (by omega) (by omega) (by omega) (by omega) hbn).mono ?_
        rintro e w2 ⟨r, rfl, hr, hb2⟩
        have Hr := Lib.hid hr
        clear hr
        go_wp2_with fail
        go_ret
        obtain ⟨q1, q2, q3, q4⟩ := Hr.out
        exact ⟨r, rfl, ⟨by omega, by omega, q3, q4.elim (fun e => .inr (e ▸ hp')) .inr⟩, hb1.trans (hb2.mono hb1.size)⟩
theorem greatest3_any (c1 c2 c3 : Value) (p : Int → Bool) (w : World) (lo hi : Int) (h0 : 0 ≤ lo) (h1 : lo < hi) (hm : hi ≤ 1000000000)
    (HP : ∀ (n : Int) (W : World), 0 ≤ n → n < hi → Below w.heap.size w W → Calls Try.prog 101 #[.int .i64 n, c1, c2, c3] W fun e w' => e = .returned (.bool (p n)) ∧ Below W.heap.size W w') :
    Calls Try.prog 92 #[.int .i64 lo, .int .i64 hi, .func (.func 101) #[] #[c1, c2, c3]] w (Halved p lo hi w) := by
  have H : ∀ w0 : World, Below w.heap.size w w0 → w0.heap.size = w.heap.size + 2 → w0.cell? ⟨w.heap.size, 0, none⟩ = some (.func (.func 101) #[] #[c1, c2, c3]) → w0.cell? ⟨w.heap.size + 1, 0, none⟩ = some (.func (.func 139) #[] #[.pointer (some ⟨w.heap.size, 0, none⟩), .pointer (some ⟨w.heap.size + 1, 0, none⟩)]) →
      Calls Try.prog 139 #[.int .i64 lo, .int .i64 hi, .pointer (some ⟨w.heap.size, 0, none⟩), .pointer (some ⟨w.heap.size + 1, 0, none⟩)] w0 (Halved p lo hi w0) := by
    intro w0 hb hs c1' c2'
    exact halve3_any c1 c2 c3 p w0.heap.size w0 ⟨w.heap.size, 0, none⟩ ⟨w.heap.size + 1, 0, none⟩ c1' (by simp; omega) c2' (by simp; omega) (Nat.le_refl _) hi hm (fun n W a b c => HP n W a b (hb.trans (c.mono hb.size))) _ lo hi w0 (Nat.le_refl _) h0 h1 (Int.le_refl _) (Below.refl _ _)
  have H := Lib.hid H
  clear HP
  go_enter Try.func92, Try.ntmps92
  go_wp2_with fail
  refine (H.out _ ?_ ?_ ?_ ?_).mono ?_
  · go_grown
  · simp
  · simp
  · simp
  rintro e w2 ⟨r, rfl, hr, hb2⟩
  have Hr := Lib.hid hr
  clear hr
  go_wp2_with fail
  go_ret
  exact ⟨r, rfl, Hr.out, Below.trans (by go_grown) (hb2.mono (by simp; omega))⟩
end Go.Proofs.Ytfojjecnmfkcfaa
