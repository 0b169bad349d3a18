/- The reference: a bill with another value for a house, at every bill of one to six houses. Bills copied, made ones of the reference, and compared. A region that draws its order, of operations that only read or make memory, ahead of a tail: one proof serves every order. Two bills of their own, made in whatever order: what a region leaves that makes a copy of a bill, and one of the reference. -/
import Derived.Test.YtfojjecnmfkcfaaGreatP12
import Derived.Test.YtfojjecnmfkcfaaGreatP3
import Derived.Test.YtfojjecnmfkcfaaGreatP6
import Derived.Test.YtfojjecnmfkcfaaGreatP11
import Derived.Deep.AppendLies
import Derived.Deep.RegionHeld3
import Derived.Test.YtfojjecnmfkcfaaGreatP4
import Derived.Test.YtfojjecnmfkcfaaGreatP1
import Derived.RegionTactic
namespace Go.Proofs.YtfojjecnmfkcfaaGreat
open Go.RowKit
set_option linter.unusedVariables false
theorem infoRHouse : (Tryz.prog.info? 130).map (fun i => (i.zero, i.size, i.bytes)) = some (some (.agg #[.int .i64 0, .int .i64 0, .int .i64 0]), 3, 24) := by kernel_rfl
theorem keepW {W1 w' : World} {a : Nat} {v0 v1 : Value} (r0 : a < W1.heap.size) (k0 : W1.cell? ⟨a, 0, none⟩ = some v0) (k1 : W1.cell? ⟨a, 1, none⟩ = some v1) (hb : Below W1.heap.size W1 w') : w'.cell? ⟨a, 0, none⟩ = some v0 ∧ w'.cell? ⟨a, 1, none⟩ = some v1 ∧ Below W1.heap.size W1 w' :=
  ⟨hb.at_ r0 k0, hb.at_ r0 k1, hb⟩
theorem farBill {W w1 : World} {q : Nat} {row : Option Nat} {u0 u1 : Value} (hg : W.grownBy w1 row) (hlt : q < W.heap.size) (hne : some q ≠ row) (h0 : W.cell? ⟨q, 0, none⟩ = some u0) (h1 : W.cell? ⟨q, 1, none⟩ = some u1) (f0 : W.frozen? ⟨q, 0, none⟩ = false) (f1 : W.frozen? ⟨q, 1, none⟩ = false) :
    w1.cell? ⟨q, 0, none⟩ = some u0 ∧ w1.cell? ⟨q, 1, none⟩ = some u1 ∧ w1.frozen? ⟨q, 0, none⟩ = false ∧ w1.frozen? ⟨q, 1, none⟩ = false ∧ q < w1.heap.size :=
  ⟨(World.grownBy.cell_far hg ⟨q, 0, none⟩ hlt hne).trans h0, (World.grownBy.cell_far hg ⟨q, 1, none⟩ hlt hne).trans h1, (World.grownBy.frozen_far hg ⟨q, 0, none⟩ hlt hne).trans f0, (World.grownBy.frozen_far hg ⟨q, 1, none⟩ hlt hne).trans f1, Nat.lt_of_lt_of_le hlt hg.size⟩
def RWith (p : Int) (hs : List (Int × Int × Int)) (W : World) (e : Ending) (w' : World) : Prop :=
  ∃ A c, e = .returned (.agg #[.int .i64 p, .slice A hs.length c]) ∧ hs.length ≤ c ∧ Rd w' w'.heap.size A (trips hs) ∧ Below W.heap.size W w'
/-- Where the rest of the call stands: the bill lies in block q, its houses in block g. -/
structure WithMid (w W : World) (q g : Nat) (p : Int) (cap j : Nat) (hs : List (Int × Int × Int)) (x : Int) : Prop where
  d0 : W.cell? ⟨q, 0, none⟩ = some (.int .i64 p)
  d1 : W.cell? ⟨q, 1, none⟩ = some (.slice (some ⟨g, 0, none⟩) hs.length cap)
  t0 : W.cell? ⟨w.heap.size + 1, 0, none⟩ = some (.int .i64 0)
  t1 : W.cell? ⟨w.heap.size + 1, 1, none⟩ = some (.slice none 0 0)
  t2 : W.frozen? ⟨w.heap.size + 1, 0, none⟩ = false
  t3 : W.frozen? ⟨w.heap.size + 1, 1, none⟩ = false
  u0 : W.cell? ⟨g, j * 3, none⟩ = some (.int .i64 x)
  u1 : W.frozen? ⟨g, j * 3, none⟩ = false
  rd : ∀ i u, (trips hs)[i]? = some u → W.cell? ⟨g, i, none⟩ = some u
  hb : Below w.heap.size w W
  gq : ¬ g = q
  qw : ¬ q = w.heap.size + 1
  gw : ¬ g = w.heap.size + 1
  lg : g < W.heap.size
  gB : w.heap.size ≤ g
  cp : hs.length ≤ cap
theorem cell_far {w : World} {b o : Nat} {v : Value} {b' o' : Nat} (h : ¬ b' = b) : (w.setCell ⟨b, o, none⟩ v).cell? ⟨b', o', none⟩ = w.cell? ⟨b', o', none⟩ :=
  World.cell?_setCell_other _ _ _ _ (by intro e; injection e with e _; exact h e.symm)
theorem cell_far' {w : World} {b o : Nat} {v : Value} {b' o' : Nat} (h : ¬ o' = o) : (w.setCell ⟨b, o, none⟩ v).cell? ⟨b', o', none⟩ = w.cell? ⟨b', o', none⟩ :=
  World.cell?_setCell_other _ _ _ _ (by intro e; injection e with _ e; exact h e.symm)
theorem own_cells {w : World} {B : Nat} {E : TypeId} {size n cap g : Nat} {xs : List Value} (h : w.ownsRow B E size (.slice (some ⟨g, 0, none⟩) n cap) n xs) : ∀ i u, xs[i]? = some u → w.cell? ⟨g, i, none⟩ = some u := by
  intro i u hu
  have := h.cells (g := g) rfl i u hu
  rw [addr_add, Nat.zero_add] at this
  exact this
theorem own_cap {w : World} {B : Nat} {E : TypeId} {size n cap g : Nat} {xs : List Value} (h : w.ownsRow B E size (.slice (some ⟨g, 0, none⟩) n cap) n xs) : n ≤ cap := by
  obtain ⟨A, c, h1, h2, _⟩ := own_slice h
  injection h1 with _ _ h1
  omega
theorem mid_end {w W : World} {q g : Nat} {p : Int} {cap j : Nat} {hs : List (Int × Int × Int)} {x : Int} (M : WithMid w W q g p cap j hs x) (hj : j < hs.length) (v : Int) :
    RWith p (revalue hs j v) w (.returned (.agg #[.int .i64 p, .slice (some ⟨g, 0, none⟩) hs.length cap])) (((W.setCell ⟨g, j * 3, none⟩ (.int .i64 v)).setCell ⟨w.heap.size + 1, 0, none⟩ (.int .i64 p)).setCell ⟨w.heap.size + 1, 1, none⟩ (.slice (some ⟨g, 0, none⟩) hs.length cap)) := by
  refine ⟨some ⟨g, 0, none⟩, cap, by rw [revalue_length], by rw [revalue_length]; exact M.cp, fun _ => ⟨g, 0, rfl, by simpa [World.setCell] using M.lg, fun i u hu => ?_⟩, ?_⟩
  · rw [trips_revalue hs j v hj] at hu
    rw [Nat.zero_add, cell_far M.gw, cell_far M.gw]
    by_cases e : i = j * 3
    · subst e
      rw [List.getElem?_set_self (by rw [trips_length]; omega)] at hu
      injection hu with hu
      rw [← hu]
      exact World.cell?_setCell_same _ _ _ M.u0
    · rw [List.getElem?_set_ne (fun h => e h.symm)] at hu
      rw [cell_far' e]
      exact M.rd i u hu
  · have hB := M.gB
    exact ((M.hb.setCell (p := ⟨g, j * 3, none⟩) hB _).setCell (p := ⟨w.heap.size + 1, 0, none⟩) (Nat.le_succ _) _).setCell (p := ⟨w.heap.size + 1, 1, none⟩) (Nat.le_succ _) _
theorem mid_sets {w w1 : World} {q g B : Nat} {p : Int} {E : TypeId} {cap j : Nat} {hs : List (Int × Int × Int)} (hj : j < hs.length) (hown : w1.ownsRow B E 3 (.slice (some ⟨g, 0, none⟩) hs.length cap) hs.length (trips hs)) (hB : w.heap.size + 2 ≤ B) (hb : Below w.heap.size w w1)
    (s0 : w1.cell? ⟨w.heap.size + 1, 0, none⟩ = some (.int .i64 0)) (s1 : w1.cell? ⟨w.heap.size + 1, 1, none⟩ = some (.slice none 0 0)) (s2 : w1.frozen? ⟨w.heap.size + 1, 0, none⟩ = false) (s3 : w1.frozen? ⟨w.heap.size + 1, 1, none⟩ = false)
    (hgq : ¬ g = q) (hq : w.heap.size + 2 ≤ q) (q1 : w1.cell? ⟨q, 0, none⟩ = some (.int .i64 0)) (q2 : w1.cell? ⟨q, 1, none⟩ = some (.slice none 0 0)) :
    WithMid w ((w1.setCell ⟨q, 0, none⟩ (.int .i64 p)).setCell ⟨q, 1, none⟩ (.slice (some ⟨g, 0, none⟩) hs.length cap)) q g p cap j hs hs[j].1 := by
  obtain ⟨l1, l2⟩ := hown.lt g rfl
  have hc := own_cells hown
  have hf := hown.frozenAt
  refine ⟨?_, ?_, ?_, ?_, ?_, ?_, ?_, ?_, ?_, ?_, hgq, by omega, by omega, ?_, by omega, own_cap hown⟩
  · rw [cell_far' (by omega)]; exact World.cell?_setCell_same _ _ _ q1
  · exact World.cell?_setCell_same _ _ _ ((cell_far' (by omega)).trans q2)
  · rw [cell_far (by omega), cell_far (by omega)]; exact s0
  · rw [cell_far (by omega), cell_far (by omega)]; exact s1
  · simpa using s2
  · simpa using s3
  · rw [cell_far hgq, cell_far hgq]; exact hc _ _ (trips_get hs j hj).1
  · simpa using hf (j * 3)
  · intro i u hu
    rw [cell_far hgq, cell_far hgq]; exact hc _ _ hu
  · exact (hb.setCell (p := ⟨q, 0, none⟩) (by show w.heap.size ≤ q; omega) _).setCell (p := ⟨q, 1, none⟩) (by show w.heap.size ≤ q; omega) _
  · simpa [World.setCell] using l2
theorem mid_alloc {w w1 : World} {g B : Nat} {p : Int} {E : TypeId} {t : TypeId} {cap j : Nat} {hs : List (Int × Int × Int)} (hj : j < hs.length) (hown : w1.ownsRow B E 3 (.slice (some ⟨g, 0, none⟩) hs.length cap) hs.length (trips hs)) (hB : w.heap.size + 2 ≤ B) (hb : Below w.heap.size w w1)
    (s0 : w1.cell? ⟨w.heap.size + 1, 0, none⟩ = some (.int .i64 0)) (s1 : w1.cell? ⟨w.heap.size + 1, 1, none⟩ = some (.slice none 0 0)) (s2 : w1.frozen? ⟨w.heap.size + 1, 0, none⟩ = false) (s3 : w1.frozen? ⟨w.heap.size + 1, 1, none⟩ = false) :
    WithMid w (w1.alloc (.cells #[.int .i64 p, .slice (some ⟨g, 0, none⟩) hs.length cap] t)) w1.heap.size g p cap j hs hs[j].1 := by
  obtain ⟨l1, l2⟩ := hown.lt g rfl
  have hc := own_cells hown
  have hf := hown.frozenAt
  have hbs := hb.size
  have hn := below_new w1 (.cells #[.int .i64 p, .slice (some ⟨g, 0, none⟩) hs.length cap] t)
  refine ⟨by simp, by simp, hn.at_ (by omega) s0, hn.at_ (by omega) s1, ?_, ?_, hn.at_ l2 (hc _ _ (trips_get hs j hj).1), ?_, fun i u hu => hn.at_ l2 (hc _ _ hu), ?_, by omega, by omega, by omega, by simp; omega, by omega, own_cap hown⟩
  · exact (hn.frozen (p := ⟨w.heap.size + 1, 0, none⟩) (by show w.heap.size + 1 < _; omega)).trans s2
  · exact (hn.frozen (p := ⟨w.heap.size + 1, 1, none⟩) (by show w.heap.size + 1 < _; omega)).trans s3
  · exact (hn.frozen (p := ⟨g, j * 3, none⟩) l2).trans (hf (j * 3))
  · exact hb.alloc hb.size _
set_option maxRecDepth 100000 in
set_option maxHeartbeats 4000000 in
theorem rWith_any (A : Option Addr) (c : Nat) (p : Int) (hs : List (Int × Int × Int)) (j : Nat) (v : Int) (w : World) (hr : Rd w w.heap.size A (trips hs)) (hl : hs.length ≤ 6) (hj : j < hs.length) :
    Calls Tryz.prog 108 #[.agg #[.int .i64 p, .slice A hs.length c], .int .i64 j, .int .i64 v] w (RWith p (revalue hs j v) w) := by
  obtain ⟨i0, hi, hz0, hz1, hz2⟩ := info_parts infoRHouse
  obtain ⟨b, off, rfl, hbb, _⟩ := hr.trip hj
  have hjl : (j : Int) < hs.length := by omega
  have hj0 : (0 : Int) ≤ (j : Int) := by omega
  have hN : ∀ W', Below w.heap.size w W' → ∀ j u, (trips hs)[j]? = some u → W'.cell? ((⟨b, off, none⟩ : Addr).add j) = some u := fun W' hb' => ((hr.below hb').more (B' := w.heap.size) (Nat.le_refl _)).news
  have HN := Lib.hid hN
  have hO1 : ∀ (W : World) (B H : Nat), W.heap.size = H → B ≤ H → (W.alloc (.cells #[] 130)).ownsRow B 130 3 (.slice (some ⟨H, 0, none⟩) 0 0) 0 [] := fun W B H hH hW => by subst hH; exact World.ownsRow_made W #[] 0 hW (by simp [maxLen]) (by simp)
  have HO1 := Lib.hid hO1
  clear hN hO1
  go_enter Tryz.func108, Tryz.ntmps108
  go_wp2_with fail
  obtain ⟨W1, hW1⟩ : ∃ W1, W1 = (w.alloc (.cells #[.int .i64 p, .slice (some ⟨b, off, none⟩) hs.length c] 56)).alloc (.cells #[.int .i64 0, .slice none 0 0] 56) := ⟨_, rfl⟩
  rw [← hW1]
  have bw : Below w.heap.size w W1 := by rw [hW1]; go_grown
  have z1 : W1.heap.size = w.heap.size + 2 := by rw [hW1]; simp
  have k0 : W1.cell? ⟨w.heap.size, 0, none⟩ = some (.int .i64 p) := by rw [hW1]; simp
  have k1 : W1.cell? ⟨w.heap.size, 1, none⟩ = some (.slice (some ⟨b, off, none⟩) hs.length c) := by rw [hW1]; simp
  have r0 : w.heap.size < W1.heap.size := by omega
  have r1 : w.heap.size + 1 < W1.heap.size := by omega
  have r2 : w.heap.size + 2 ≤ W1.heap.size := by omega
  have k2 : W1.cell? ⟨w.heap.size + 1, 0, none⟩ = some (.int .i64 0) := by rw [hW1]; simp
  have k3 : W1.cell? ⟨w.heap.size + 1, 1, none⟩ = some (.slice none 0 0) := by rw [hW1]; simp
  have k4 : W1.frozen? ⟨w.heap.size + 1, 0, none⟩ = false := by rw [hW1]; simp
  have k5 : W1.frozen? ⟨w.heap.size + 1, 1, none⟩ = false := by rw [hW1]; simp
  have HZ := Lib.hid z1
  clear hW1 z1
  go_region_held3 (fun w' => w'.cell? ⟨w.heap.size, 0, none⟩ = some (.int .i64 p) ∧ w'.cell? ⟨w.heap.size, 1, none⟩ = some (.slice (some ⟨b, off, none⟩) hs.length c) ∧ Below W1.heap.size W1 w')
    (first | exact keepW r0 k0 k1 (by assumption) | exact keepW r0 k0 k1 (Below.alloc (by assumption) (Below.size (by assumption)) _) | exact keepW r0 k0 k1 (by go_grown))
    ((refine step_append_lies _ (by rfl) _ _ _ (by rfl) W1.heap.size 130 i0 _ 3 24 Tryz.underlying54 hi hz0 hz1 hz2 rfl (by omega) _ 0 [] (by rfl) (by first | exact HO1.out W1 W1.heap.size W1.heap.size rfl (Nat.le_refl _) | exact (HO1.out W1 W1.heap.size W1.heap.size rfl (Nat.le_refl _)).alloc _ | exact HO1.out (W1.alloc (.cells #[.int .i64 0, .slice none 0 0] 56)) W1.heap.size (W1.heap.size + 1) (by simp) (by omega)) ⟨b, off, none⟩ hs.length c (trips hs) (by rfl) (trips_length hs) (HN.out _ (bw.trans (Below.mono (by go_grown) bw.size))) (trips_one hs) (by omega) (by simp only [maxLen]; omega) (by omega) (by simp <;> omega) _ rfl ?_; intro g cap w1 hown1 hgrow hat hlt; have hbk : Below W1.heap.size W1 w1 := Below.grown (by go_grown) hgrow (by simp <;> omega) (fun k hk => by first | (have hk' : some W1.heap.size = some k := hk; injection hk' with hk'; omega) | (have hk' : some (W1.heap.size + 1) = some k := hk; injection hk' with hk'; omega)); (first
      | (have hx := farBill (W := ((W1.alloc (.cells #[.int .i64 0, .slice none 0 0] 56)).alloc (.cells #[] 130)).drew) (q := W1.heap.size) (row := some (W1.heap.size + 1)) (u0 := .int .i64 0) (u1 := .slice none 0 0) hgrow (by simp <;> omega) (by simp) (by simp) (by simp) (by simp) (by simp); obtain ⟨q1, q2, q3, q4, q5⟩ := hx)
      | (have hx := farBill (W := ((W1.alloc (.cells #[] 130)).alloc (.cells #[.int .i64 0, .slice none 0 0] 56)).drew) (q := W1.heap.size + 1) (row := some W1.heap.size) (u0 := .int .i64 0) (u1 := .slice none 0 0) hgrow (by simp <;> omega) (by simp) (by simp) (by simp) (by simp) (by simp); obtain ⟨q1, q2, q3, q4, q5⟩ := hx)
      | skip)))
  · simp only [Nat.zero_add, List.nil_append] at hown1
    have s0 := hbk.at_ r1 k2
    have s1 := hbk.at_ r1 k3
    have s2 := (hbk.frozen (p := ⟨w.heap.size + 1, 0, none⟩) r1).trans k4
    have s3 := (hbk.frozen (p := ⟨w.heap.size + 1, 1, none⟩) r1).trans k5
    obtain ⟨hg1, hg2⟩ := hown1.lt g rfl
    have hbw1 := bw.trans (hbk.mono bw.size)
    have M := mid_alloc (p := p) (t := 56) hj hown1 r2 hbw1 s0 s1 s2 s3
    generalize w1.alloc (.cells #[.int .i64 p, .slice (some ⟨g, 0, none⟩) hs.length cap] 56) = W3 at M ⊢
    generalize hq : w1.heap.size = q at M ⊢
    clear hq s0 s1 s2 s3
    have d0 := M.d0
    have d1 := M.d1
    have t0 := M.t0
    have t1 := M.t1
    have t2 := M.t2
    have t3 := M.t3
    have u0 := M.u0
    have u1 := M.u1
    have n1 := M.gq
    have n2 := M.qw
    have n3 := M.gw
    have n4 : ¬ q = g := fun h => n1 h.symm
    have n5 : ¬ w.heap.size + 1 = q := fun h => n2 h.symm
    have n6 : ¬ w.heap.size + 1 = g := fun h => n3 h.symm
    clear hbk hbw1
    go_wp2_with fail
    exact bodyPost_ret (v := .agg #[.int .i64 p, .slice (some ⟨g, 0, none⟩) hs.length cap]) (by simp [results, Tryz.results108, go_sem, t0, t1]) rfl (mid_end M hj v)
  · simp only [Nat.zero_add, List.nil_append] at hown1
    have s0 := hbk.at_ r1 k2
    have s1 := hbk.at_ r1 k3
    have s2 := (hbk.frozen (p := ⟨w.heap.size + 1, 0, none⟩) r1).trans k4
    have s3 := (hbk.frozen (p := ⟨w.heap.size + 1, 1, none⟩) r1).trans k5
    obtain ⟨hg1, hg2⟩ := hown1.lt g rfl
    have hbw1 := bw.trans (hbk.mono bw.size)
    have hgq : ¬ g = (W1.heap.size + 1) := by
      rcases hat with h | h
      · have h' : some (W1.heap.size) = some g := h
        injection h' with h'; omega
      · simp at h; omega
    have M := mid_sets (p := p) hj hown1 r2 hbw1 s0 s1 s2 s3 hgq (by omega) q1 q2
    generalize (w1.setCell ⟨(W1.heap.size + 1), 0, none⟩ (.int .i64 p)).setCell ⟨(W1.heap.size + 1), 1, none⟩ (.slice (some ⟨g, 0, none⟩) hs.length cap) = W3 at M ⊢
    generalize hq : (W1.heap.size + 1) = q at M q1 q2 q3 q4 q5 ⊢
    clear hq q1 q2 q3 q4 q5 s0 s1 s2 s3
    have d0 := M.d0
    have d1 := M.d1
    have t0 := M.t0
    have t1 := M.t1
    have t2 := M.t2
    have t3 := M.t3
    have u0 := M.u0
    have u1 := M.u1
    have n1 := M.gq
    have n2 := M.qw
    have n3 := M.gw
    have n4 : ¬ q = g := fun h => n1 h.symm
    have n5 : ¬ w.heap.size + 1 = q := fun h => n2 h.symm
    have n6 : ¬ w.heap.size + 1 = g := fun h => n3 h.symm
    clear hbk hbw1
    go_wp2_with fail
    exact bodyPost_ret (v := .agg #[.int .i64 p, .slice (some ⟨g, 0, none⟩) hs.length cap]) (by simp [results, Tryz.results108, go_sem, t0, t1]) rfl (mid_end M hj v)
  · simp only [Nat.zero_add, List.nil_append] at hown1
    have s0 := hbk.at_ r1 k2
    have s1 := hbk.at_ r1 k3
    have s2 := (hbk.frozen (p := ⟨w.heap.size + 1, 0, none⟩) r1).trans k4
    have s3 := (hbk.frozen (p := ⟨w.heap.size + 1, 1, none⟩) r1).trans k5
    obtain ⟨hg1, hg2⟩ := hown1.lt g rfl
    have hbw1 := bw.trans (hbk.mono bw.size)
    have hgq : ¬ g = W1.heap.size := by
      rcases hat with h | h
      · have h' : some (W1.heap.size + 1) = some g := h
        injection h' with h'; omega
      · simp at h; omega
    have M := mid_sets (p := p) hj hown1 r2 hbw1 s0 s1 s2 s3 hgq (by omega) q1 q2
    generalize (w1.setCell ⟨W1.heap.size, 0, none⟩ (.int .i64 p)).setCell ⟨W1.heap.size, 1, none⟩ (.slice (some ⟨g, 0, none⟩) hs.length cap) = W3 at M ⊢
    generalize hq : W1.heap.size = q at M q1 q2 q3 q4 q5 ⊢
    clear hq q1 q2 q3 q4 q5 s0 s1 s2 s3
    have d0 := M.d0
    have d1 := M.d1
    have t0 := M.t0
    have t1 := M.t1
    have t2 := M.t2
    have t3 := M.t3
    have u0 := M.u0
    have u1 := M.u1
    have n1 := M.gq
    have n2 := M.qw
    have n3 := M.gw
    have n4 : ¬ q = g := fun h => n1 h.symm
    have n5 : ¬ w.heap.size + 1 = q := fun h => n2 h.symm
    have n6 : ¬ w.heap.size + 1 = g := fun h => n3 h.symm
    clear hbk hbw1
    go_wp2_with fail
    exact bodyPost_ret (v := .agg #[.int .i64 p, .slice (some ⟨g, 0, none⟩) hs.length cap]) (by simp [results, Tryz.results108, go_sem, t0, t1]) rfl (mid_end M hj v)
end Go.Proofs.YtfojjecnmfkcfaaGreat
namespace Go.Proofs.YtfojjecnmfkcfaaGreat
open Go.RowKit
set_option linter.unusedVariables false
/-- The call returns a bill whose houses are a row of its own. -/
def OwnBill (E : TypeId) (p : Int) (hs : List (Int × Int × Int)) (W : World) (e : Ending) (w' : World) : Prop :=
  ∃ v, e = .returned (.agg #[.int .i64 p, v]) ∧ w'.ownsRow W.heap.size E 3 v hs.length (trips hs) ∧ Below W.heap.size W w'
theorem own_far {w : World} {B n b o : Nat} {E : TypeId} {size : Nat} {v : Value} {xs : List Value} {u : Value} (h : w.ownsRow B E size v n xs) (hb : b < B) : (w.setCell ⟨b, o, none⟩ u).ownsRow B E size v n xs := by
  refine h.kept (grownBy_setCell _ _ _ _) (.inr fun e => ?_)
  have := (h.lt b e).1
  omega
set_option maxHeartbeats 1000000 in
theorem own_any (A : Option Addr) (c : Nat) (p : Int) (hs : List (Int × Int × Int)) (w : World) (hr : Rd w w.heap.size A (trips hs)) (hl : hs.length ≤ 1000) :
    Calls Tryz.prog 17 #[.agg #[.int .i64 p, .slice A hs.length c]] w (OwnBill 37 p hs w) := by
  go_enter Tryz.func17, Tryz.ntmps17
  go_wp2_with fail
  obtain ⟨W1, hW1⟩ : ∃ x, x = (w.alloc (.cells #[.int .i64 p, .slice A hs.length c] 27)).alloc (.cells #[.int .i64 0, .slice none 0 0] 27) := ⟨_, rfl⟩
  rw [← hW1]
  have bw : Below w.heap.size w W1 := by rw [hW1]; go_grown
  have hz : W1.heap.size = w.heap.size + 2 := by rw [hW1]; simp
  have k0 : W1.cell? ⟨w.heap.size, 0, none⟩ = some (.int .i64 p) := by rw [hW1]; simp
  have k1 : W1.cell? ⟨w.heap.size, 1, none⟩ = some (.slice A hs.length c) := by rw [hW1]; simp
  have k2 : W1.cell? ⟨w.heap.size + 1, 0, none⟩ = some (.int .i64 0) := by rw [hW1]; simp
  have k3 : W1.cell? ⟨w.heap.size + 1, 1, none⟩ = some (.slice none 0 0) := by rw [hW1]; simp
  have k4 : W1.frozen? ⟨w.heap.size + 1, 0, none⟩ = false := by rw [hW1]; simp
  have k5 : W1.frozen? ⟨w.heap.size + 1, 1, none⟩ = false := by rw [hW1]; simp
  have k6 : W1.frozen? ⟨w.heap.size, 1, none⟩ = false := by rw [hW1]; simp
  have hr1 := hr.next bw
  have r0 : w.heap.size < W1.heap.size := by omega
  have r1 : w.heap.size + 1 < W1.heap.size := by omega
  clear hW1 hz
  refine (copyHouse_any A c hs W1 hr1 (by omega)).mono ?_
  rintro e w1 ⟨v1, rfl, ho1, hb1⟩
  have b0 := hb1.at_ r0 k0
  have b1 := hb1.at_ r0 k1
  have b2 := hb1.at_ r1 k2
  have b3 := hb1.at_ r1 k3
  have b4 := (hb1.frozen (p := ⟨w.heap.size + 1, 0, none⟩) r1).trans k4
  have b5 := (hb1.frozen (p := ⟨w.heap.size + 1, 1, none⟩) r1).trans k5
  have b6 := (hb1.frozen (p := ⟨w.heap.size, 1, none⟩) r0).trans k6
  have HB := Lib.hid (bw.trans (hb1.mono bw.size))
  obtain ⟨B, cb, rfl, hcb, hB⟩ := own_slice ho1
  clear k0 k1 k2 k3 k4 k5 k6 hr hr1 bw
  go_wp2_with fail
  refine bodyPost_ret (v := .agg #[.int .i64 p, .slice B hs.length cb]) (by simp [results, Tryz.results17, go_sem, b2, b3]) rfl ⟨_, rfl, ?_, ?_⟩
  · exact (own_far (own_far (own_far ho1 (by omega)) (by omega)) (by omega)).base_ (by omega)
  · exact ((HB.out.setCell (p := ⟨w.heap.size, 1, none⟩) (Nat.le_refl _) _).setCell (p := ⟨w.heap.size + 1, 0, none⟩) (Nat.le_succ _) _).setCell (p := ⟨w.heap.size + 1, 1, none⟩) (Nat.le_succ _) _
theorem infoRHouseO : (Tryz.prog.info? 130).map (fun i => (i.zero, i.size, i.bytes)) = some (some (.agg #[.int .i64 0, .int .i64 0, .int .i64 0]), 3, 24) := by kernel_rfl
theorem trips_snoc (t : List (Int × Int × Int)) (k : Nat) (h : k < t.length) : trips (t.take (k + 1)) = trips (t.take k) ++ [.int .i64 t[k].1, .int .i64 t[k].2.1, .int .i64 t[k].2.2] := by
  unfold trips; rw [List.take_succ_eq_append_getElem h, List.flatMap_append]; simp
/-- Where 'theirs' stands: the houses gathered so far are a row of the call's own. -/
structure ThSt (w wr : World) (E : TypeId) (p : Int) (hs : List (Int × Int × Int)) (k : Nat) (v : Value) : Prop where
  own : wr.ownsRow (w.heap.size + 3) E 3 v k (trips (hs.take k))
  hb : Below w.heap.size w wr
  lz : w.heap.size + 3 ≤ wr.heap.size
  o0 : wr.cell? ⟨w.heap.size + 1 + 1, 0, none⟩ = some (.int .i64 p)
  o1 : wr.cell? ⟨w.heap.size + 1 + 1, 1, none⟩ = some v
  of : wr.frozen? ⟨w.heap.size + 1 + 1, 1, none⟩ = false
  t0 : wr.cell? ⟨w.heap.size + 1, 0, none⟩ = some (.int .i64 0)
  t1 : wr.cell? ⟨w.heap.size + 1, 1, none⟩ = some (.slice none 0 0)
  f0 : wr.frozen? ⟨w.heap.size + 1, 0, none⟩ = false
  f1 : wr.frozen? ⟨w.heap.size + 1, 1, none⟩ = false
theorem th_start (w : World) (E : TypeId) (p : Int) (hs : List (Int × Int × Int)) (x : Array Value) (t1 t2 t3 : TypeId) : ThSt w (((w.alloc (.cells x t1)).alloc (.cells #[.int .i64 0, .slice none 0 0] t2)).alloc (.cells #[.int .i64 p, .slice none 0 0] t3)) E p hs 0 (.slice none 0 0) := by
  have e0 := below_new w (.cells x t1)
  have e1 := below_new (w.alloc (.cells x t1)) (.cells #[.int .i64 0, .slice none 0 0] t2)
  have e2 := below_new ((w.alloc (.cells x t1)).alloc (.cells #[.int .i64 0, .slice none 0 0] t2)) (.cells #[.int .i64 p, .slice none 0 0] t3)
  have hf : ∀ (W : World) (H o : Nat) (y : Array Value) (t : TypeId), W.heap.size = H → (W.alloc (.cells y t)).frozen? ⟨H, o, none⟩ = false := by
    intro W H o y t h; subst h; simp
  refine ⟨World.ownsRow_nil _ _ _ _, by go_grown, by simp, news_new _ [.int .i64 p, .slice none 0 0] t3 (by simp) 0 _ rfl, news_new _ [.int .i64 p, .slice none 0 0] t3 (by simp) 1 _ rfl, hf _ _ _ _ _ (by simp),
    e2.at_ (by simp) (news_new _ [.int .i64 0, .slice none 0 0] t2 (by simp) 0 _ rfl), e2.at_ (by simp) (news_new _ [.int .i64 0, .slice none 0 0] t2 (by simp) 1 _ rfl),
    (e2.frozen (p := ⟨w.heap.size + 1, 0, none⟩) (by simp)).trans (hf _ _ _ _ _ (by simp)), (e2.frozen (p := ⟨w.heap.size + 1, 1, none⟩) (by simp)).trans (hf _ _ _ _ _ (by simp))⟩
theorem ThSt.alloc {w wr : World} {E : TypeId} {p : Int} {hs : List (Int × Int × Int)} {k : Nat} {v : Value} (h : ThSt w wr E p hs k v) (o : Obj) : ThSt w (wr.alloc o) E p hs k v := by
  have hn := below_new wr o
  have hz := h.lz
  exact ⟨h.own.alloc _, h.hb.alloc h.hb.size _, by simp; omega, hn.at_ (by omega) h.o0, hn.at_ (by omega) h.o1, (hn.frozen (p := ⟨w.heap.size + 1 + 1, 1, none⟩) (by show w.heap.size + 1 + 1 < _; omega)).trans h.of, hn.at_ (by omega) h.t0, hn.at_ (by omega) h.t1,
    (hn.frozen (p := ⟨w.heap.size + 1, 0, none⟩) (by show w.heap.size + 1 < _; omega)).trans h.f0, (hn.frozen (p := ⟨w.heap.size + 1, 1, none⟩) (by show w.heap.size + 1 < _; omega)).trans h.f1⟩
/-- Behind the append, ahead of the store. -/
structure ThMid (w w1 : World) (E : TypeId) (p : Int) (hs : List (Int × Int × Int)) (k : Nat) (v1 : Value) : Prop where
  o1 : ∃ u, w1.cell? ⟨w.heap.size + 1 + 1, 1, none⟩ = some u
  of : w1.frozen? ⟨w.heap.size + 1 + 1, 1, none⟩ = false
  st : ThSt w (w1.setCell ⟨w.heap.size + 1 + 1, 1, none⟩ v1) E p hs (k + 1) v1
theorem ThSt.app {w wr w1 : World} {E : TypeId} {p : Int} {hs : List (Int × Int × Int)} {k : Nat} {v v1 : Value} (h : ThSt w wr E p hs k v) (hk : k < hs.length) (ho : w1.ownsRow (w.heap.size + 3) E 3 v1 (k + 1) (trips (hs.take k) ++ [.int .i64 hs[k].1, .int .i64 hs[k].2.1, .int .i64 hs[k].2.2]))
    (hg : wr.grownBy w1 v.ownBlock) : ThMid w w1 E p hs k v1 := by
  have hz := h.lz
  have hne : ∀ b, b < w.heap.size + 3 → some b ≠ v.ownBlock := fun b hb e => by have := (h.own.lt b e.symm).1; omega
  have c : ∀ b o u, b < w.heap.size + 3 → wr.cell? ⟨b, o, none⟩ = some u → w1.cell? ⟨b, o, none⟩ = some u := fun b o u hb hu => (World.grownBy.cell_far hg ⟨b, o, none⟩ (by show b < _; omega) (hne b hb)).trans hu
  have f : ∀ b o u, b < w.heap.size + 3 → wr.frozen? ⟨b, o, none⟩ = u → w1.frozen? ⟨b, o, none⟩ = u := fun b o u hb hu => (World.grownBy.frozen_far hg ⟨b, o, none⟩ (by show b < _; omega) (hne b hb)).trans hu
  have hb1 : Below w.heap.size w w1 := h.hb.grown hg h.hb.size (fun b e => by have := (h.own.lt b e).1; omega)
  refine ⟨⟨_, c _ _ _ (by omega) h.o1⟩, f _ _ _ (by omega) h.of, ?_⟩
  refine ⟨?_, hb1.setCell (p := ⟨w.heap.size + 1 + 1, 1, none⟩) (by show w.heap.size ≤ w.heap.size + 1 + 1; omega) _, ?_, ?_, ?_, ?_, ?_, ?_, ?_, ?_⟩
  · rw [trips_snoc hs k hk]
    exact own_far ho (by omega)
  · have := hg.size
    simp [World.setCell]; omega
  · rw [World.cell?_setCell_other _ _ _ _ (by intro e; injection e with _ e; omega)]
    exact c _ _ _ (by omega) h.o0
  · exact World.cell?_setCell_same _ _ _ (c _ _ _ (by omega) h.o1)
  · simpa using f _ _ _ (by omega) h.of
  · rw [World.cell?_setCell_other _ _ _ _ (by intro e; injection e with e _; omega)]
    exact c _ _ _ (by omega) h.t0
  · rw [World.cell?_setCell_other _ _ _ _ (by intro e; injection e with e _; omega)]
    exact c _ _ _ (by omega) h.t1
  · simpa using f _ _ _ (by omega) h.f0
  · simpa using f _ _ _ (by omega) h.f1
set_option maxRecDepth 100000 in
set_option maxHeartbeats 1000000 in
theorem theirs_any (A : Option Addr) (c : Nat) (p : Int) (hs : List (Int × Int × Int)) (w : World) (hr : Rd w w.heap.size A (trips hs)) (hl : hs.length ≤ 1000) :
    Calls Tryz.prog 18 #[.agg #[.int .i64 p, .slice A hs.length c]] w (OwnBill 130 p hs w) := by
  obtain ⟨i0, hi, hz0, hz1, hz2⟩ := info_parts infoRHouseO
  go_enter Tryz.func18, Tryz.ntmps18
  go_wp2_with fail
  go_loopw [12] (fun iv wr => ∃ (k : Nat) (v : Value), iv = .int .i64 k ∧ k ≤ hs.length ∧ Hid (ThSt w wr 130 p hs k v)) (fun i _ => hs.length - (intOf i).toNat)
  case atStart =>
    refine ⟨0, .slice none 0 0, rfl, Nat.zero_le _, ?_⟩
    exact th_start w _ p hs _ _ _ _
  case round =>
    obtain ⟨k, v, rfl, hk, HS⟩ := hrel
    by_cases hlt : k < hs.length
    · obtain ⟨b, off, rfl, hbb, x1, x2, x3⟩ := (hr.below HS.out.hb).trip hlt
      have hkz : (k : Int) < hs.length := by omega
      have hbr : b < wr.heap.size := Nat.lt_of_lt_of_le hbb HS.out.hb.size
      have o1 := HS.out.o1
      have lz := HS.out.lz
      have lz2 : w.heap.size + 1 + 1 < wr.heap.size := by omega
      have HA := Lib.hid (fun x y => (HS.out.alloc x).alloc y)
      go_wp2_with (at_builtin; refine wpList_append_own_at _ rfl _ _ 54 rfl (w.heap.size + 3) 130 i0 _ 3 24 Tryz.underlying54 hi hz0 hz1 hz2 rfl (by decide) _ _ _ rfl (HA.out _ _).own ⟨wr.heap.size + 1, 0, none⟩ 1 1 [.int .i64 hs[k].1, .int .i64 hs[k].2.1, .int .i64 hs[k].2.2] rfl rfl (news_new _ _ _ (by simp)) (by simp [Value.oneCell']) (by simp only [maxLen]; omega) (by omega) (by simp; omega) ?_; intro v1 w1 hown1 hgrow1 _ hat1; obtain ⟨B1, cc1, rfl, _, _⟩ := own_slice hown1; have M := ThSt.app (HA.out _ _) hlt hown1 hgrow1; obtain ⟨u1, m1⟩ := M.o1; have m2 := M.of; have M2 := Lib.hid M.st; clear M hown1 hgrow1 hat1)
      go_roundw
      case rel => exact ⟨k + 1, _, by go_num, by omega, M2⟩
      case measure => simp [intOf]; omega
    · obtain rfl : k = hs.length := by omega
      have t0 := HS.out.t0
      have t1 := HS.out.t1
      have t2 := HS.out.f0
      have t3 := HS.out.f1
      have o0 := HS.out.o0
      have o1 := HS.out.o1
      have lz := HS.out.lz
      have lz2 : w.heap.size + 1 + 1 < wr.heap.size := by omega
      have hown := HS.out.own
      rw [List.take_of_length_le (Nat.le_refl _)] at hown
      obtain ⟨B, cb, rfl, hcb, hB⟩ := own_slice hown
      have HO := Lib.hid hown
      clear hown
      go_wp2_with fail
      refine bodyPost_ret (v := .agg #[.int .i64 p, .slice B hs.length cb]) (by simp [results, Tryz.results18, go_sem, t0, t1]) rfl ⟨_, rfl, ?_, ?_⟩
      · exact (own_far (own_far HO.out (by omega)) (by omega)).base_ (by omega)
      · exact (HS.out.hb.setCell (p := ⟨w.heap.size + 1, 0, none⟩) (Nat.le_succ _) _).setCell (p := ⟨w.heap.size + 1, 1, none⟩) (Nat.le_succ _) _
/-- Two bills are the same. -/
theorem same_any (A B : Option Addr) (c d : Nat) (p q : Int) (a b : List (Int × Int × Int)) (w : World) (hr : Rd w w.heap.size A (trips a)) (hs : Rd w w.heap.size B (trips b)) (hl : a.length ≤ 1000) :
    Calls Tryz.prog 27 #[.agg #[.int .i64 p, .slice A a.length c], .agg #[.int .i64 q, .slice B b.length d]] w fun e w' => e = .returned (.bool (decide (p = q) && decide (a = b))) ∧ Below w.heap.size w w' := by
  by_cases h : p = q
  · subst h
    have C := fun W hr hs => Lib.hid (alikeHouse_any A B c d a b W hr hs (by omega))
    go_enter Tryz.func27, Tryz.ntmps27
    go_wp2_with fail
    refine (C _ ((hr.alloc _).alloc _) ((hs.alloc _).alloc _)).out.mono ?_
    rintro e w1 ⟨rfl, hb1⟩
    go_wp2_with fail
    go_ret
    exact ⟨ret_bool (by simp), Below.trans (by go_grown) (hb1.mono (by simp; omega))⟩
  · have h' : (p == q) = false := by rw [beq_eq_false_iff_ne]; exact h
    have H := Lib.hid h
    clear h
    go_enter Tryz.func27, Tryz.ntmps27
    go_wp2_with fail
    go_ret
    exact ⟨ret_bool (by simp [H.out]), by go_grown⟩
end Go.Proofs.YtfojjecnmfkcfaaGreat
namespace Go.Proofs.YtfojjecnmfkcfaaGreat
open Go.RowKit
def dstOf (ops : Array Oper) (i : Nat) : Option Tmp := (ops[i]?).bind (·.dst)
/-- The first n operations have each a place of its own, no guard, and edges to earlier ones alone. -/
def headOk (ops : Array Oper) (n size : Nat) : Bool :=
  (List.range n).all fun i => match ops[i]? with
    | none => false
    | some o => o.guard.isNone && o.after.all (fun e => decide (e.on < i)) && (match o.dst with | none => false | some d => decide (d < size) && (List.range i).all fun j => dstOf ops j != some d)
/-- Operation i waits for operation j, directly or through others of the first n. -/
def waitsB (ops : Array Oper) (n : Nat) : Nat → Nat → Nat → Bool
  | 0, _, _ => false
  | f + 1, i, j => match ops[i]? with
    | none => false
    | some o => o.after.any fun e => Region.binds .any e && (e.on == j || decide (e.on < n) && waitsB ops n f e.on j)
/-- Operation i waits for one that is not among the first n. -/
def waitsTail (ops : Array Oper) (n i : Nat) : Bool := match ops[i]? with
  | none => false
  | some o => o.after.any fun e => Region.binds .any e && decide (n ≤ e.on)
theorem waitsTail_no {ops : Array Oper} {n i : Nat} {o : Oper} {listed : Array Bool} (ho : ops[i]? = some o) (hr : ∀ j, n ≤ j → listed.getD j false = false) (he : ∀ e ∈ o.after, Region.binds .any e = true → listed.getD e.on false = true) (h : waitsTail ops n i = true) : False := by
  unfold waitsTail at h
  rw [ho] at h
  have h' : (o.after.any fun e => Region.binds .any e && decide (n ≤ e.on)) = true := h
  rw [← Array.any_toList] at h'
  obtain ⟨e, h1, h2⟩ := List.any_eq_true.1 h'
  simp only [Bool.and_eq_true, decide_eq_true_eq] at h2
  have h3 := he e (by simpa using h1) h2.1
  rw [hr _ h2.2] at h3
  cases h3
/-- The others wait for all of them. -/
def tailOkW (ops : Array Oper) (n : Nat) : Bool := (List.range ops.size).all fun i => decide (i < n) || (waitsTail ops n i || (List.range n).all fun j => waitsB ops n (n + 1) i j)
def maskOf (size n : Nat) : Array Bool := ((List.range size).map fun i => decide (i < n)).toArray
/-- What the first k operations have left. -/
def putAll (ops : Array Oper) (vals : Nat → Value) (a0 : Act) (k : Nat) : Act := (List.range k).foldl (fun a i => a.put (dstOf ops i) (vals i)) a0
structure ActAt (ops : Array Oper) (n : Nat) (a0 a : Act) (listed : Array Bool) (vals : Nat → Value) : Prop where
  defers : a.defers = a0.defers
  size : a.tmps.size = a0.tmps.size
  done : ∀ i d, i < n → listed.getD i false = true → dstOf ops i = some d → a.tmps[d]? = some (vals i)
  rest : ∀ t, (∀ i, i < n → listed.getD i false = true → dstOf ops i ≠ some t) → a.tmps[t]? = a0.tmps[t]?
structure Mk (F : Nat → Value → Nat → Nat → World → Prop) (n B0 : Nat) (listed : Array Bool) (vals : Nat → Value) (lo hi : Nat → Nat) (w : World) : Prop where
  ge : ∀ i, i < n → listed.getD i false = true → B0 ≤ lo i ∧ lo i ≤ hi i ∧ hi i ≤ w.heap.size
  apart : ∀ i j, i < n → j < n → i ≠ j → listed.getD i false = true → listed.getD j false = true → hi i ≤ lo j ∨ hi j ≤ lo i
  fact : ∀ i, i < n → listed.getD i false = true → F i (vals i) (lo i) (hi i) w
def cnt (listed : Array Bool) : Nat → Nat
  | 0 => 0
  | k + 1 => cnt listed k + (if listed.getD k false = true then 0 else 1)
theorem getD_set (l : Array Bool) (i j : Nat) (hi : i < l.size) : (l.setIfInBounds i true).getD j false = if j = i then true else l.getD j false := by
  simp only [Array.getD_eq_getD_getElem?, Array.getElem?_setIfInBounds]
  by_cases e : i = j
  · subst e; simp [hi]
  · simp [e, Ne.symm e]
theorem cnt_set (l : Array Bool) (i : Nat) (hi : i < l.size) (h : l.getD i false = false) : ∀ k, cnt (l.setIfInBounds i true) k + (if i < k then 1 else 0) = cnt l k
  | 0 => by simp [cnt]
  | k + 1 => by
    have ih := cnt_set l i hi h k
    simp only [cnt, getD_set l i k hi]
    by_cases e : k = i
    · subst e
      rw [if_pos rfl, h]
      simp at ih ⊢
      omega
    · rw [if_neg e]
      by_cases h1 : i < k
      · rw [if_pos h1] at ih; rw [if_pos (show i < k + 1 by omega)]; omega
      · rw [if_neg h1] at ih; rw [if_neg (show ¬ i < k + 1 by omega)]; omega
theorem cnt_zero (l : Array Bool) : ∀ k, cnt l k = 0 → ∀ i, i < k → l.getD i false = true
  | 0, _, i, h => by omega
  | k + 1, h, i, hi => by
    simp only [cnt] at h
    by_cases e : i = k
    · subst e
      by_cases h1 : l.getD i false = true
      · exact h1
      · rw [if_neg h1] at h; omega
    · exact cnt_zero l k (by omega) i (by omega)
theorem cnt_pos (l : Array Bool) : ∀ k, 0 < cnt l k → ∃ i, i < k ∧ l.getD i false = false ∧ ∀ j, j < i → l.getD j false = true
  | 0, h => by simp [cnt] at h
  | k + 1, h => by
    by_cases h1 : 0 < cnt l k
    · obtain ⟨i, h2, h3, h4⟩ := cnt_pos l k h1
      exact ⟨i, by omega, h3, h4⟩
    · simp only [cnt] at h
      by_cases h2 : l.getD k false = true
      · rw [if_pos h2] at h; omega
      · exact ⟨k, by omega, by simpa using h2, fun j hj => cnt_zero l k (by omega) j hj⟩
theorem head_at {ops : Array Oper} {n size : Nat} (h : headOk ops n size = true) {i : Nat} (hi : i < n) : ∃ o d, ops[i]? = some o ∧ o.guard = none ∧ (∀ e ∈ o.after, e.on < i) ∧ o.dst = some d ∧ d < size ∧ ∀ j, j < i → dstOf ops j ≠ some d := by
  have h1 := List.all_eq_true.1 h i (List.mem_range.2 hi)
  cases ho : ops[i]? with
  | none => rw [ho] at h1; simp at h1
  | some o =>
    rw [ho] at h1
    simp only [Bool.and_eq_true] at h1
    obtain ⟨⟨g1, g2⟩, g3⟩ := h1
    cases hd : o.dst with
    | none => rw [hd] at g3; simp at g3
    | some d =>
      rw [hd] at g3
      simp only [Bool.and_eq_true, decide_eq_true_eq, List.all_eq_true, List.mem_range, bne_iff_ne] at g3
      refine ⟨o, d, rfl, by simpa using g1, fun e he => ?_, hd, g3.1, g3.2⟩
      have := Array.all_eq_true_iff_forall_mem.1 g2 e he
      simpa using this
theorem dst_inj {ops : Array Oper} {n size : Nat} (h : headOk ops n size = true) {i j : Nat} (hi : i < n) (hj : j < n) {d : Tmp} (h1 : dstOf ops i = some d) (h2 : dstOf ops j = some d) : i = j := by
  have key : ∀ i j, i < n → j < n → i < j → dstOf ops i = some d → dstOf ops j = some d → False := by
    intro i j hi hj hij h1 h2
    obtain ⟨o, d', ho, _, _, hd, _, hx⟩ := head_at h hj
    have : d' = d := by
      have h3 : dstOf ops j = some d' := by unfold dstOf; rw [ho]; exact hd
      rw [h3] at h2; injection h2
    subst this
    exact hx i hij h1
  rcases Nat.lt_trichotomy i j with h3 | h3 | h3
  · exact (key i j hi hj h3 h1 h2).elim
  · exact h3
  · exact (key j i hj hi h3 h2 h1).elim
theorem put_at (a : Act) (d t : Tmp) (v : Value) (h : d < a.tmps.size) : (a.put (some d) v).tmps[t]? = if t = d then some v else a.tmps[t]? := by
  simp only [Act.put, Array.getElem?_setIfInBounds]
  by_cases e : d = t
  · subst e; simp [h]
  · simp [e, Ne.symm e]
theorem putAll_at {ops : Array Oper} {n : Nat} {a0 : Act} (h : headOk ops n a0.tmps.size = true) (vals : Nat → Value) : ∀ k, k ≤ n →
    (putAll ops vals a0 k).defers = a0.defers ∧ (putAll ops vals a0 k).tmps.size = a0.tmps.size ∧ (∀ i d, i < k → dstOf ops i = some d → (putAll ops vals a0 k).tmps[d]? = some (vals i)) ∧
    (∀ t, (∀ i, i < k → dstOf ops i ≠ some t) → (putAll ops vals a0 k).tmps[t]? = a0.tmps[t]?)
  | 0, _ => ⟨rfl, rfl, fun i d hi => by omega, fun _ _ => rfl⟩
  | k + 1, hk => by
    obtain ⟨i1, i2, i3, i4⟩ := putAll_at h vals k (by omega)
    obtain ⟨o, d, ho, _, _, hd, hs, hx⟩ := head_at h (show k < n by omega)
    have hdk : dstOf ops k = some d := by unfold dstOf; rw [ho]; exact hd
    have e : putAll ops vals a0 (k + 1) = (putAll ops vals a0 k).put (some d) (vals k) := by
      unfold putAll; rw [List.range_succ, List.foldl_append]; simp only [List.foldl_cons, List.foldl_nil]; rw [hdk]
    rw [e]
    refine ⟨i1, by simp [Act.put, i2], fun i d' hi hd' => ?_, fun t ht => ?_⟩
    · rw [put_at _ _ _ _ (by rw [i2]; exact hs)]
      by_cases e2 : d' = d
      · have : i = k := dst_inj h (by omega) (by omega) (e2 ▸ hd') hdk
        rw [if_pos e2, this]
      · rw [if_neg e2]
        refine i3 i d' ?_ hd'
        have : i ≠ k := by
          rintro rfl
          rw [hdk] at hd'; injection hd' with hd'; exact e2 hd'.symm
        omega
    · rw [put_at _ _ _ _ (by rw [i2]; exact hs), if_neg (by rintro rfl; exact ht k (by omega) hdk)]
      exact i4 t fun i hi => ht i (by omega)
theorem act_eq {ops : Array Oper} {n : Nat} {a0 a : Act} (h : headOk ops n a0.tmps.size = true) {listed : Array Bool} {vals : Nat → Value} (hA : ActAt ops n a0 a listed vals) (hl : ∀ i, i < n → listed.getD i false = true) : a = putAll ops vals a0 n := by
  obtain ⟨i1, i2, i3, i4⟩ := putAll_at h vals n (Nat.le_refl _)
  have e1 : a.tmps = (putAll ops vals a0 n).tmps := by
    refine Array.ext_getElem? fun t => ?_
    by_cases hx : ∃ i, i < n ∧ dstOf ops i = some t
    · obtain ⟨i, hi, hd⟩ := hx
      rw [hA.done i t hi (hl i hi) hd, i3 i t hi hd]
    · have hx' : ∀ i, i < n → dstOf ops i ≠ some t := fun i hi hd => hx ⟨i, hi, hd⟩
      rw [hA.rest t fun i hi _ => hx' i hi, i4 t hx']
  have e2 : a.defers = (putAll ops vals a0 n).defers := by rw [hA.defers, i1]
  cases a; cases hp : putAll ops vals a0 n
  rw [hp] at e1 e2
  simp_all
theorem mem_ready {ops : Array Oper} {listed : Array Bool} {i : Nat} : i ∈ Region.ready .any ops listed ↔ i < ops.size ∧ listed.getD i true = false ∧ ∃ o, ops[i]? = some o ∧ ∀ e ∈ o.after, Region.binds .any e = true → listed.getD e.on false = true := by
  unfold Region.ready
  simp only [List.mem_filter, List.mem_range, Bool.and_eq_true, Bool.not_eq_true']
  constructor
  · rintro ⟨h1, h2, h3⟩
    refine ⟨h1, h2, ?_⟩
    cases ho : ops[i]? with
    | none => rw [ho] at h3; simp at h3
    | some o =>
      rw [ho] at h3
      refine ⟨o, rfl, fun e he hb => ?_⟩
      have := Array.all_eq_true_iff_forall_mem.1 (by simpa using h3 : (o.after.all fun e => !Region.binds .any e || listed.getD e.on false) = true) e he
      simpa [hb] using this
  · rintro ⟨h1, h2, o, ho, h3⟩
    refine ⟨h1, h2, ?_⟩
    rw [ho]
    simp only [Option.map_some, Option.getD_some]
    refine Array.all_eq_true_iff_forall_mem.2 fun e he => ?_
    cases hb : Region.binds .any e with
    | false => rfl
    | true => simp [h3 e he hb]
def freeSlot (ops : Array Oper) (n t : Nat) : Bool := (List.range n).all fun i => dstOf ops i != some t
theorem ActAt.slot {ops : Array Oper} {n : Nat} {a0 a : Act} {listed : Array Bool} {vals : Nat → Value} (hA : ActAt ops n a0 a listed vals) (t : Nat) {v : Value} (h : freeSlot ops n t = true) (hv : a0.tmps[t]? = some v) : a.tmps[t]? = some v ∧ a.tmps.getD t undef = v := by
  have e : a.tmps[t]? = some v := (hA.rest t fun i hi _ => by
    have := List.all_eq_true.1 h i (List.mem_range.2 hi)
    simpa using this).trans hv
  exact ⟨e, by rw [Array.getD_eq_getD_getElem?, e]; rfl⟩
theorem ActAt.dep {ops : Array Oper} {n : Nat} {a0 a : Act} {listed : Array Bool} {vals : Nat → Value} (hA : ActAt ops n a0 a listed vals) (i : Nat) {d : Nat} {v : Value} (hi : i < n) (hl : listed.getD i false = true) (hd : dstOf ops i = some d) (hv : vals i = v) : a.tmps[d]? = some v ∧ a.tmps.getD d undef = v := by
  have e : a.tmps[d]? = some v := (hA.done i d hi hl hd).trans (by rw [hv])
  exact ⟨e, by rw [Array.getD_eq_getD_getElem?, e]; rfl⟩
theorem waits_listed {ops : Array Oper} {n : Nat} {listed : Array Bool} (hcl : ∀ k o, k < n → listed.getD k false = true → ops[k]? = some o → ∀ e ∈ o.after, Region.binds .any e = true → listed.getD e.on false = true) :
    ∀ f i j, (∀ o, ops[i]? = some o → ∀ e ∈ o.after, Region.binds .any e = true → listed.getD e.on false = true) → waitsB ops n f i j = true → listed.getD j false = true
  | 0, _, _, _, h => by simp [waitsB] at h
  | f + 1, i, j, hd, h => by
    simp only [waitsB] at h
    cases ho : ops[i]? with
    | none => rw [ho] at h; cases h
    | some o =>
      rw [ho] at h
      have h' : (o.after.any fun e => Region.binds .any e && (e.on == j || decide (e.on < n) && waitsB ops n f e.on j)) = true := h
      rw [← Array.any_toList] at h'
      obtain ⟨e, he, h1⟩ := List.any_eq_true.1 h'
      simp only [Bool.and_eq_true, Bool.or_eq_true, decide_eq_true_eq, beq_iff_eq] at h1
      obtain ⟨h2, h3⟩ := h1
      have hl := hd o ho e (by simpa using he) h2
      rcases h3 with h3 | ⟨h3, h4⟩
      · rw [← h3]; exact hl
      · exact waits_listed hcl f e.on j (fun o2 ho2 => hcl e.on o2 h3 hl ho2) h4
theorem makers {P : Program} {ops : Array Oper} {Q : Exit → Act → World → Prop} {n B0 : Nat} {a0 : Act} {W1 : World} (hh : headOk ops n a0.tmps.size = true) (ht : tailOkW ops n = true) (hn : n ≤ ops.size)
    (F : Nat → Value → Nat → Nat → World → Prop) (hF : ∀ i v l h w w', F i v l h w → (∀ b, l ≤ b → b < h → w'.heap[b]? = w.heap[b]?) → F i v l h w')
    (step : ∀ i o, i < n → ops[i]? = some o → ∀ listed vals lo hi a w, (∀ e ∈ o.after, Region.binds .any e = true → listed.getD e.on false = true) → Mk F n B0 listed vals lo hi w → Below B0 W1 w → B0 ≤ w.heap.size → ActAt ops n a0 a listed vals →
      ∀ K : Act → World → Prop, (∀ v w', Below w.heap.size w w' → F i v w.heap.size w'.heap.size w' → K (a.put o.dst v) w') → o.wp P a w K Q)
    (tail : ∀ vals lo hi w, Mk F n B0 (maskOf ops.size n) vals lo hi w → Below B0 W1 w → wpAny P .any ops Q (ops.size - n) (maskOf ops.size n) (putAll ops vals a0 n) w) :
    ∀ (m : Nat) (listed : Array Bool) (vals : Nat → Value) (lo hi : Nat → Nat) (a : Act) (w : World), listed.size = ops.size → (∀ i, n ≤ i → listed.getD i false = false) → (∀ k o, k < n → listed.getD k false = true → ops[k]? = some o → ∀ e ∈ o.after, Region.binds .any e = true → listed.getD e.on false = true) → cnt listed n = m → Mk F n B0 listed vals lo hi w → Below B0 W1 w → B0 ≤ w.heap.size → ActAt ops n a0 a listed vals →
      wpAny P .any ops Q (m + (ops.size - n)) listed a w
  | 0, listed, vals, lo, hi, a, w, hs, hr, hcl, hc, hM, hB, hBw, hA => by
    have hl := cnt_zero listed n hc
    have e : listed = maskOf ops.size n := by
      refine Array.ext_getElem? fun i => ?_
      by_cases h1 : i < ops.size
      · have h2 : i < listed.size := by omega
        have h3 : (maskOf ops.size n)[i]? = some (decide (i < n)) := by simp [maskOf, h1]
        rw [h3, Array.getElem?_eq_getElem h2]
        by_cases h4 : i < n
        · have := hl i h4
          rw [Array.getD_eq_getD_getElem?, Array.getElem?_eq_getElem h2] at this
          simpa [h4] using this
        · have := hr i (by omega)
          rw [Array.getD_eq_getD_getElem?, Array.getElem?_eq_getElem h2] at this
          simpa [h4] using this
      · rw [Array.getElem?_eq_none (by omega), Array.getElem?_eq_none (by simp [maskOf]; omega)]
    rw [act_eq hh hA hl, Nat.zero_add]
    subst e
    exact tail vals lo hi w hM hB
  | m + 1, listed, vals, lo, hi, a, w, hs, hr, hcl, hc, hM, hB, hBw, hA => by
    obtain ⟨x, hx, hx1, hx2⟩ := cnt_pos listed n (by omega)
    have hxd : listed.getD x true = false := by
      rw [Array.getD_eq_getD_getElem?] at hx1 ⊢
      rw [Array.getElem?_eq_getElem (by omega)] at hx1 ⊢
      exact hx1
    rw [Nat.add_right_comm]
    refine ⟨fun h0 => ?_, fun i hi' => ?_⟩
    · obtain ⟨o, d, ho, _, he, _⟩ := head_at hh hx
      have : x ∈ Region.ready .any ops listed := mem_ready.2 ⟨by omega, hxd, o, ho, fun e hm _ => hx2 _ (he e hm)⟩
      rw [h0] at this; cases this
    · obtain ⟨hi1, hi2, o, ho, he⟩ := mem_ready.1 hi'
      have hi3 : listed.getD i false = false := by
        rw [Array.getD_eq_getD_getElem?] at hi2 ⊢
        rw [Array.getElem?_eq_getElem (by omega)] at hi2 ⊢
        exact hi2
      have hin : i < n := by
        rcases Nat.lt_or_ge i n with h | h
        · exact h
        · have h1 := List.all_eq_true.1 ht i (List.mem_range.2 hi1)
          simp only [Bool.or_eq_true, decide_eq_true_eq, List.all_eq_true, List.mem_range] at h1
          rcases h1 with h1 | h1 | h1
          · omega
          · exact (waitsTail_no ho hr he h1).elim
          · have := waits_listed hcl (n + 1) i x (fun o2 ho2 => by rw [ho] at ho2; injection ho2 with ho2; subst ho2; exact he) (h1 x hx)
            rw [hx1] at this; cases this
      obtain ⟨o', d, ho', hg, _, hd, hds, _⟩ := head_at hh hin
      rw [ho] at ho'; injection ho' with ho'; subst ho'
      have hdi : dstOf ops i = some d := by unfold dstOf; rw [ho]; exact hd
      unfold wpOp
      rw [ho]
      show if Region.wanted o (yielded ops a.tmps) = true then _ else _
      rw [if_pos (by simp [Region.wanted, hg])]
      refine .inl (step i o hin ho listed vals lo hi a w he hM hB hBw hA _ fun v w' hb hf => ?_)
      have hsz := hb.size
      refine makers hh ht hn F hF step tail m _ (fun j => if j = i then v else vals j) (fun j => if j = i then w.heap.size else lo j) (fun j => if j = i then w'.heap.size else hi j) _ _ (by simpa using hs) (fun j hj => ?_) (fun k o3 hk hl ho3 e3 he3 hb3 => ?_) ?_ ?_ (hB.trans (hb.mono hBw)) (by omega) ?_
      · rw [getD_set _ _ _ (by omega), if_neg (by omega)]; exact hr j hj
      · have key : listed.getD e3.on false = true := by
          rw [getD_set _ _ _ (by omega)] at hl
          by_cases e : k = i
          · subst e
            rw [ho] at ho3; injection ho3 with ho3; subst ho3
            exact he e3 he3 hb3
          · rw [if_neg e] at hl
            exact hcl k o3 hk hl ho3 e3 he3 hb3
        rw [getD_set _ _ _ (by omega)]
        by_cases e : e3.on = i
        · rw [if_pos e]
        · rw [if_neg e]; exact key
      · have := cnt_set listed i (by omega) hi3 n
        rw [if_pos hin] at this; omega
      · refine ⟨fun j hj hl => ?_, fun j k hj hk hjk hlj hlk => ?_, fun j hj hl => ?_⟩
        · rw [getD_set _ _ _ (by omega)] at hl
          by_cases e : j = i
          · simp only [if_pos e]; omega
          · rw [if_neg e] at hl
            simp only [if_neg e]
            have := hM.ge j hj hl
            omega
        · rw [getD_set _ _ _ (by omega)] at hlj hlk
          by_cases e1 : j = i
          · have e2 : ¬ k = i := by omega
            rw [if_neg e2] at hlk
            simp only [if_pos e1, if_neg e2]
            have := hM.ge k hk hlk
            omega
          · rw [if_neg e1] at hlj
            have g1 := hM.ge j hj hlj
            by_cases e2 : k = i
            · simp only [if_neg e1, if_pos e2]; omega
            · rw [if_neg e2] at hlk
              simp only [if_neg e1, if_neg e2]
              exact hM.apart j k hj hk hjk hlj hlk
        · rw [getD_set _ _ _ (by omega)] at hl
          by_cases e : j = i
          · subst e; simpa using hf
          · rw [if_neg e] at hl
            simp only [if_neg e]
            have g1 := hM.ge j hj hl
            exact hF _ _ _ _ _ _ (hM.fact j hj hl) fun b _ hb2 => hb.block b (by omega)
      · have hsd : d < a.tmps.size := by rw [hA.size]; exact hds
        refine ⟨by rw [hd]; exact hA.defers, by rw [hd]; simpa [Act.put] using hA.size, fun j d' hj hl hd' => ?_, fun t htt => ?_⟩
        · rw [hd, put_at _ _ _ _ hsd]
          rw [getD_set _ _ _ (by omega)] at hl
          by_cases e : j = i
          · subst e
            rw [hdi] at hd'; injection hd' with hd'
            simp [hd']
          · rw [if_neg e] at hl
            rw [if_neg (by rintro rfl; exact e (dst_inj hh hj hin hd' hdi)), if_neg e]
            exact hA.done j d' hj hl hd'
        · have hti : t ≠ d := by
            rintro rfl
            exact htt i hin (by rw [getD_set _ _ _ (by omega), if_pos rfl]) hdi
          rw [hd, put_at _ _ _ _ hsd, if_neg hti]
          refine hA.rest t fun j hj hl => htt j hj ?_
          rw [getD_set _ _ _ (by omega)]
          by_cases e : j = i
          · rw [if_pos e]
          · rw [if_neg e]; exact hl
/-- A step of the tail, where one operation alone is ready. -/
theorem tail_step {P : Program} {ops : Array Oper} {Q : Exit → Act → World → Prop} {fuel : Nat} {listed : Array Bool} {a : Act} {w : World} (i : Nat) (o : Oper) (hr : Region.ready .any ops listed = [i]) (ho : ops[i]? = some o) (hg : o.guard = none)
    (h : ∀ K : Act → World → Prop, (∀ a w, wpAny P .any ops Q fuel (listed.setIfInBounds i true) a w → K a w) → o.wp P a w K Q) : wpAny P .any ops Q (fuel + 1) listed a w :=
  wpAny_ready hr (by simp) (AllReady.cons ho (fun K hK => by rw [if_pos (by simp [Region.wanted, hg])]; exact h K hK) AllReady.nil)
/-- The rule. -/
theorem wp_makers {P : Program} {id : Nat} {ops : Array Oper} {Q : Exit → Act → World → Prop} {a0 : Act} {W1 : World} (n : Nat) (hm : P.follows .mixedOrders = true) (hh : headOk ops n a0.tmps.size = true) (ht : tailOkW ops n = true) (hn : n ≤ ops.size)
    (F : Nat → Value → Nat → Nat → World → Prop) (hF : ∀ i v l h w w', F i v l h w → (∀ b, l ≤ b → b < h → w'.heap[b]? = w.heap[b]?) → F i v l h w')
    (step : ∀ i o, i < n → ops[i]? = some o → ∀ listed vals lo hi a w, (∀ e ∈ o.after, Region.binds .any e = true → listed.getD e.on false = true) → Mk F n W1.heap.size listed vals lo hi w → Below W1.heap.size W1 w → W1.heap.size ≤ w.heap.size → ActAt ops n a0 a listed vals →
      ∀ K : Act → World → Prop, (∀ v w', Below w.heap.size w w' → F i v w.heap.size w'.heap.size w' → K (a.put o.dst v) w') → o.wp P a w K Q)
    (tail : ∀ vals lo hi w, Mk F n W1.heap.size (maskOf ops.size n) vals lo hi w → Below W1.heap.size W1 w → wpAny P .any ops Q (ops.size - n) (maskOf ops.size n) (putAll ops vals a0 n) w) : (Code.region id ops true).wp P Q a0 W1 := by
  refine wp_region_any hm ?_
  have hz : ∀ i, (Array.replicate ops.size false).getD i false = false := by
    intro i
    rw [Array.getD_eq_getD_getElem?]
    by_cases h : i < ops.size
    · simp [h]
    · simp [h]
  have hc : ∀ k, cnt (Array.replicate ops.size false) k = k := by
    intro k
    induction k with
    | zero => rfl
    | succ k ih => simp only [cnt, ih, hz]; simp
  have := makers (Q := Q) (a0 := a0) (W1 := W1) hh ht hn F hF step tail n (Array.replicate ops.size false) (fun _ => undef) (fun _ => W1.heap.size) (fun _ => W1.heap.size) a0 W1.drew (by simp) (fun i _ => hz i) (fun k _ _ h => (by rw [hz] at h; cases h)) (hc n)
    ⟨fun i _ h => (by rw [hz] at h; cases h), fun i _ _ _ _ h => (by rw [hz] at h; cases h), fun i _ h => (by rw [hz] at h; cases h)⟩ ((Below.refl _ _).drew) (Nat.le_refl _)
    ⟨rfl, rfl, fun i _ _ h => (by rw [hz] at h; cases h), fun _ _ => rfl⟩
  rw [show n + (ops.size - n) = ops.size by omega] at this
  exact this
end Go.Proofs.YtfojjecnmfkcfaaGreat
namespace Go.Proofs.YtfojjecnmfkcfaaGreat
open Go.RowKit
set_option linter.unusedVariables false
/-- A slice that reads as the cells, in blocks from l to h. -/
def RdI (w : World) (l h : Nat) (A : Option Addr) (xs : List Value) : Prop :=
  xs ≠ [] → ∃ b off, A = some ⟨b, off, none⟩ ∧ l ≤ b ∧ b < h ∧ ∀ j u, xs[j]? = some u → w.cell? ⟨b, off + j, none⟩ = some u
theorem RdI.keep {w w' : World} {l h : Nat} {A : Option Addr} {xs : List Value} (hr : RdI w l h A xs) (hk : ∀ b, l ≤ b → b < h → w'.heap[b]? = w.heap[b]?) : RdI w' l h A xs := fun hn => by
  obtain ⟨b, off, e, h1, h2, hc⟩ := hr hn
  exact ⟨b, off, e, h1, h2, fun j u hu => (World.cell?_of_block (a := ⟨b, off + j, none⟩) (hk b h1 h2)).trans (hc j u hu)⟩
theorem RdI.rd {w : World} {l h B : Nat} {A : Option Addr} {xs : List Value} (hr : RdI w l h A xs) (hB : h ≤ B) : Rd w B A xs := fun hn => by
  obtain ⟨b, off, e, h1, h2, hc⟩ := hr hn
  exact ⟨b, off, e, by omega, hc⟩
theorem own_sliceI {w : World} {base : Nat} {E : TypeId} {size n : Nat} {v : Value} {xs : List Value} (h : w.ownsRow base E size v n xs) : ∃ A c, v = .slice A n c ∧ n ≤ c ∧ RdI w base w.heap.size A xs := by
  rcases h.2 with ⟨rfl, rfl⟩ | ⟨g, cap, cur, rfl, hb, hg, hn, hm, hs, ht⟩
  · have hx : xs = [] := List.eq_nil_of_length_eq_zero (by simpa using h.1)
    subst hx
    exact ⟨none, 0, rfl, Nat.le_refl _, fun h => absurd rfl h⟩
  · refine ⟨_, _, rfl, hn, fun _ => ⟨g, 0, rfl, hb, (Array.getElem?_eq_some_iff.1 hg).1, fun j u hu => ?_⟩⟩
    have := h.cells (g := g) rfl j u hu
    rwa [addr_add] at this
/-- A bill of its own; a block for one. -/
def FBill (p : Int) (hs : List (Int × Int × Int)) (v : Value) (l h : Nat) (w : World) : Prop := ∃ A c, v = .agg #[.int .i64 p, .slice A hs.length c] ∧ hs.length ≤ c ∧ RdI w l h A (trips hs)
def FNew (z : Array Value) (t : TypeId) (v : Value) (l h : Nat) (w : World) : Prop := v = .pointer (some ⟨l, 0, none⟩) ∧ h = l + 1 ∧ w.heap[l]? = some (.cells z t (0, 0))
def FTwo (X : Value) (p : Int) (hs : List (Int × Int × Int)) (t1 t2 : TypeId) : Nat → Value → Nat → Nat → World → Prop
  | 0, v, _, _, _ => v = X
  | 1, v, l, h, w => FBill p hs v l h w
  | 2, v, _, _, _ => v = X
  | 3, v, l, h, w => FBill p hs v l h w
  | 4, v, l, h, w => FNew #[.int .i64 0, .slice none 0 0] t1 v l h w
  | 5, v, l, h, w => FNew #[.int .i64 0, .slice none 0 0] t2 v l h w
  | _, _, _, _, _ => True
theorem FBill.keep {p : Int} {hs : List (Int × Int × Int)} {v : Value} {l h : Nat} {w w' : World} (H : FBill p hs v l h w) (hk : ∀ b, l ≤ b → b < h → w'.heap[b]? = w.heap[b]?) : FBill p hs v l h w' := by
  obtain ⟨A, c, e, hc, hr⟩ := H
  exact ⟨A, c, e, hc, hr.keep hk⟩
theorem FNew.keep {z : Array Value} {t : TypeId} {v : Value} {l h : Nat} {w w' : World} (H : FNew z t v l h w) (hk : ∀ b, l ≤ b → b < h → w'.heap[b]? = w.heap[b]?) : FNew z t v l h w' := by
  obtain ⟨e, hh, hc⟩ := H
  exact ⟨e, hh, (hk l (Nat.le_refl _) (by omega)).trans hc⟩
theorem FTwo.keep {X : Value} {p : Int} {hs : List (Int × Int × Int)} {t1 t2 : TypeId} : ∀ i v l h w w', FTwo X p hs t1 t2 i v l h w → (∀ b, l ≤ b → b < h → w'.heap[b]? = w.heap[b]?) → FTwo X p hs t1 t2 i v l h w'
  | 0, _, _, _, _, _, H, _ => H
  | 1, _, _, _, _, _, H, hk => FBill.keep H hk
  | 2, _, _, _, _, _, H, _ => H
  | 3, _, _, _, _, _, H, hk => FBill.keep H hk
  | 4, _, _, _, _, _, H, hk => FNew.keep H hk
  | 5, _, _, _, _, _, H, hk => FNew.keep H hk
  | _ + 6, _, _, _, _, _, _, _ => trivial
/-- What such a region leaves: two bills in blocks of their own. -/
def TwoBills (w : World) (p : Int) (hs : List (Int × Int × Int)) (s9 s10 : Value) (wx : World) : Prop :=
  ∃ g9 g10 A1 c1 A2 c2, s9 = .pointer (some ⟨g9, 0, none⟩) ∧ s10 = .pointer (some ⟨g10, 0, none⟩) ∧ w.heap.size ≤ g9 ∧ g9 < wx.heap.size ∧ w.heap.size ≤ g10 ∧ g10 < wx.heap.size ∧ wx.cell? ⟨g9, 0, none⟩ = some (.int .i64 p) ∧ wx.cell? ⟨g9, 1, none⟩ = some (.slice A1 hs.length c1) ∧
    wx.cell? ⟨g10, 0, none⟩ = some (.int .i64 p) ∧ wx.cell? ⟨g10, 1, none⟩ = some (.slice A2 hs.length c2) ∧ hs.length ≤ c1 ∧ hs.length ≤ c2 ∧ Rd wx wx.heap.size A1 (trips hs) ∧ Rd wx wx.heap.size A2 (trips hs) ∧ Below w.heap.size w wx
theorem heap_far {w : World} {g o b : Nat} {v : Value} (h : b ≠ g) : (w.setCell ⟨g, o, none⟩ v).heap[b]? = w.heap[b]? := by
  simp only [World.setCell, Array.getElem?_modify]
  rw [if_neg (by intro e; exact h e.symm)]
theorem FNew.cells {z : Array Value} {t : TypeId} {v : Value} {l h : Nat} {w : World} (H : FNew z t v l h w) : (∀ j u, z[j]? = some u → w.cell? ⟨l, j, none⟩ = some u) ∧ ∀ o, w.frozen? ⟨l, o, none⟩ = false := by
  obtain ⟨_, _, hc⟩ := H
  refine ⟨fun j u hu => ?_, fun o => ?_⟩
  · rw [cell_of_row w l j _ _ _ hc]; exact hu
  · simp [World.frozen?, hc]
/-- The state behind the makers. -/
structure TwoMid (W1 w : World) (p : Int) (hs : List (Int × Int × Int)) (g9 g10 : Nat) (A1 A2 : Option Addr) (c1 c2 : Nat) : Prop where
  a0 : w.cell? ⟨g9, 0, none⟩ = some (.int .i64 0)
  a1 : w.cell? ⟨g9, 1, none⟩ = some (.slice none 0 0)
  a2 : w.frozen? ⟨g9, 0, none⟩ = false
  a3 : w.frozen? ⟨g9, 1, none⟩ = false
  b0 : w.cell? ⟨g10, 0, none⟩ = some (.int .i64 0)
  b1 : w.cell? ⟨g10, 1, none⟩ = some (.slice none 0 0)
  b2 : w.frozen? ⟨g10, 0, none⟩ = false
  b3 : w.frozen? ⟨g10, 1, none⟩ = false
  ne : ¬ g9 = g10
  ge : W1.heap.size ≤ g9 ∧ g9 < w.heap.size ∧ W1.heap.size ≤ g10 ∧ g10 < w.heap.size
  k1 : hs.length ≤ c1
  k2 : hs.length ≤ c2
  fin : Below W1.heap.size W1 w ∧ ∀ wf : World, wf.heap.size = w.heap.size → (∀ b, b ≠ g9 → b ≠ g10 → wf.heap[b]? = w.heap[b]?) → Rd wf wf.heap.size A1 (trips hs) ∧ Rd wf wf.heap.size A2 (trips hs)
theorem two_mid {X : Value} {p : Int} {hs : List (Int × Int × Int)} {t1 t2 : TypeId} {B0 : Nat} {listed : Array Bool} {vals : Nat → Value} {lo hi : Nat → Nat} {W1 w : World} (hB0 : B0 = W1.heap.size) (hl : ∀ i, i < 6 → listed.getD i false = true) (hM : Mk (FTwo X p hs t1 t2) 6 B0 listed vals lo hi w) (hb : Below B0 W1 w) :
    ∃ g9 g10 A1 c1 A2 c2, vals 0 = X ∧ vals 1 = .agg #[.int .i64 p, .slice A1 hs.length c1] ∧ vals 2 = X ∧ vals 3 = .agg #[.int .i64 p, .slice A2 hs.length c2] ∧ vals 4 = .pointer (some ⟨g9, 0, none⟩) ∧ vals 5 = .pointer (some ⟨g10, 0, none⟩) ∧ TwoMid W1 w p hs g9 g10 A1 A2 c1 c2 := by
  subst hB0
  obtain ⟨A1, c1, e1, k1, r1⟩ := hM.fact 1 (by omega) (hl 1 (by omega))
  obtain ⟨A2, c2, e3, k2, r2⟩ := hM.fact 3 (by omega) (hl 3 (by omega))
  have f4 := hM.fact 4 (by omega) (hl 4 (by omega))
  have f5 := hM.fact 5 (by omega) (hl 5 (by omega))
  obtain ⟨x4, y4⟩ := FNew.cells f4
  obtain ⟨x5, y5⟩ := FNew.cells f5
  obtain ⟨e4, z4, _⟩ := f4
  obtain ⟨e5, z5, _⟩ := f5
  have g1 := hM.ge 1 (by omega) (hl 1 (by omega))
  have g3 := hM.ge 3 (by omega) (hl 3 (by omega))
  have g4 := hM.ge 4 (by omega) (hl 4 (by omega))
  have g5 := hM.ge 5 (by omega) (hl 5 (by omega))
  have p14 := hM.apart 1 4 (by omega) (by omega) (by omega) (hl 1 (by omega)) (hl 4 (by omega))
  have p15 := hM.apart 1 5 (by omega) (by omega) (by omega) (hl 1 (by omega)) (hl 5 (by omega))
  have p34 := hM.apart 3 4 (by omega) (by omega) (by omega) (hl 3 (by omega)) (hl 4 (by omega))
  have p35 := hM.apart 3 5 (by omega) (by omega) (by omega) (hl 3 (by omega)) (hl 5 (by omega))
  have p45 := hM.apart 4 5 (by omega) (by omega) (by omega) (hl 4 (by omega)) (hl 5 (by omega))
  refine ⟨lo 4, lo 5, A1, c1, A2, c2, hM.fact 0 (by omega) (hl 0 (by omega)), e1, hM.fact 2 (by omega) (hl 2 (by omega)), e3, e4, e5, ?_⟩
  refine ⟨x4 0 _ rfl, x4 1 _ rfl, y4 0, y4 1, x5 0 _ rfl, x5 1 _ rfl, y5 0, y5 1, by omega, by omega, k1, k2, hb, fun wf hz hf => ⟨?_, ?_⟩⟩
  · exact RdI.rd (r1.keep fun b h1 h2 => hf b (by omega) (by omega)) (by omega)
  · exact RdI.rd (r2.keep fun b h1 h2 => hf b (by omega) (by omega)) (by omega)
theorem two_fin {w W1 w2 : World} {p : Int} {hs : List (Int × Int × Int)} {g9 g10 : Nat} {A1 A2 : Option Addr} {c1 c2 : Nat} (hw : Below w.heap.size w W1) (M : TwoMid W1 w2 p hs g9 g10 A1 A2 c1 c2) :
    TwoBills w p hs (.pointer (some ⟨g9, 0, none⟩)) (.pointer (some ⟨g10, 0, none⟩)) ((((w2.setCell ⟨g9, 0, none⟩ (.int .i64 p)).setCell ⟨g9, 1, none⟩ (.slice A1 hs.length c1)).setCell ⟨g10, 0, none⟩ (.int .i64 p)).setCell ⟨g10, 1, none⟩ (.slice A2 hs.length c2)) := by
  obtain ⟨hb, hf⟩ := M.fin
  have hz := hw.size
  have ne := M.ne
  obtain ⟨q1, q2, q3, q4⟩ := M.ge
  have ne' : ¬ g10 = g9 := fun h => ne h.symm
  obtain ⟨h1, h2⟩ := hf ((((w2.setCell ⟨g9, 0, none⟩ (.int .i64 p)).setCell ⟨g9, 1, none⟩ (.slice A1 hs.length c1)).setCell ⟨g10, 0, none⟩ (.int .i64 p)).setCell ⟨g10, 1, none⟩ (.slice A2 hs.length c2)) (by simp [World.setCell]) (fun b n1 n2 => by rw [heap_far n2, heap_far n2, heap_far n1, heap_far n1])
  refine ⟨g9, g10, A1, c1, A2, c2, rfl, rfl, by omega, by simpa [World.setCell] using q2, by omega, by simpa [World.setCell] using q4, ?_, ?_, ?_, ?_, M.k1, M.k2, h1, h2, ?_⟩
  · rw [cell_far ne, cell_far ne, cell_far' (by omega)]; exact World.cell?_setCell_same _ _ _ M.a0
  · rw [cell_far ne, cell_far ne]; exact World.cell?_setCell_same _ _ _ ((cell_far' (by omega)).trans M.a1)
  · rw [cell_far' (by omega)]; exact World.cell?_setCell_same _ _ _ ((cell_far ne').trans ((cell_far ne').trans M.b0))
  · exact World.cell?_setCell_same _ _ _ ((cell_far' (by omega)).trans ((cell_far ne').trans ((cell_far ne').trans M.b1)))
  · have b1 := hw.trans (hb.mono hw.size)
    exact (((b1.setCell (p := ⟨g9, 0, none⟩) (by show w.heap.size ≤ g9; omega) _).setCell (p := ⟨g9, 1, none⟩) (by show w.heap.size ≤ g9; omega) _).setCell (p := ⟨g10, 0, none⟩) (by show w.heap.size ≤ g10; omega) _).setCell (p := ⟨g10, 1, none⟩) (by show w.heap.size ≤ g10; omega) _
end Go.Proofs.YtfojjecnmfkcfaaGreat
