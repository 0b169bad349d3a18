/- OwnAccount: a copy of an account, its rows in blocks of their own. Mathematics of payments that are more, or earlier, of a charge more, and of days that are later. -/
import Derived.Test.YtfojjecnmfkcfaaGreatP20
import Derived.Test.YtfojjecnmfkcfaaGreatP13
import Derived.Test.YtfojjecnmfkcfaaGreatP3
namespace Go.Proofs.YtfojjecnmfkcfaaGreat
open Go.RowKit
set_option linter.unusedVariables false
theorem own_block {w w' : World} {base : Nat} {E : TypeId} {size n : Nat} {v : Value} {xs : List Value} (h : w.ownsRow base E size v n xs) (hk : ∀ k, v.ownBlock = some k → w'.heap[k]? = w.heap[k]?) : w'.ownsRow base E size v n xs := by
  refine ⟨h.1, ?_⟩
  rcases h.2 with h2 | ⟨g, cap, cur, e, hb, hg, hr⟩
  · exact .inl h2
  · exact .inr ⟨g, cap, cur, e, hb, (hk g (by rw [e]; rfl)).trans hg, hr⟩
/-- A row of entries of its own in the blocks from l to h. -/
def FRow (t : List (Int × Int)) (v : Value) (l h : Nat) (w : World) : Prop := w.ownsRow l 39 2 v t.length (pairs t) ∧ ∀ k, v.ownBlock = some k → l ≤ k ∧ k < h
theorem FRow.keep {t : List (Int × Int)} {v : Value} {l h : Nat} {w w' : World} (H : FRow t v l h w) (hk : ∀ b, l ≤ b → b < h → w'.heap[b]? = w.heap[b]?) : FRow t v l h w' :=
  ⟨own_block H.1 fun k e => by have := H.2 k e; exact hk k this.1 this.2, H.2⟩
def FAcc (X0 X1 X3 X4 X6 : Value) (cs ps : List (Int × Int)) : Nat → Value → Nat → Nat → World → Prop
  | 0, v, _, _, _ => v = X0
  | 1, v, _, _, _ => v = X1
  | 2, v, l, h, w => FRow cs v l h w
  | 3, v, _, _, _ => v = X3
  | 4, v, _, _, _ => v = X4
  | 5, v, l, h, w => FRow ps v l h w
  | 6, v, _, _, _ => v = X6
  | _, _, _, _, _ => True
theorem FAcc.keep {X0 X1 X3 X4 X6 : Value} {cs ps : List (Int × Int)} : ∀ i v l h w w', FAcc X0 X1 X3 X4 X6 cs ps i v l h w → (∀ b, l ≤ b → b < h → w'.heap[b]? = w.heap[b]?) → FAcc X0 X1 X3 X4 X6 cs ps i v l h w'
  | 0, _, _, _, _, _, H, _ => H
  | 1, _, _, _, _, _, H, _ => H
  | 2, _, _, _, _, _, H, hk => FRow.keep H hk
  | 3, _, _, _, _, _, H, _ => H
  | 4, _, _, _, _, _, H, _ => H
  | 5, _, _, _, _, _, H, hk => FRow.keep H hk
  | 6, _, _, _, _, _, H, _ => H
  | _ + 7, _, _, _, _, _, _, _ => trivial
/-- The call returns an account whose rows are its own. -/
def OwnAcc (cs ps : List (Int × Int)) (g l : Int) (W : World) (e : Ending) (w' : World) : Prop :=
  ∃ v u, e = .returned (.agg #[v, u, .int .i64 g, .int .i64 l]) ∧ w'.ownsRow W.heap.size 39 2 v cs.length (pairs cs) ∧ w'.ownsRow W.heap.size 39 2 u ps.length (pairs ps) ∧ (v.ownBlock = none ∨ v.ownBlock ≠ u.ownBlock) ∧ Below W.heap.size W w'
set_option maxRecDepth 100000 in
set_option maxHeartbeats 2000000 in
theorem ownAcc_any (A B : Option Addr) (c d : Nat) (cs ps : List (Int × Int)) (g l : Int) (w : World) (hA : Ent w A c cs) (hB : Ent w B d ps) (hl : cs.length ≤ 1000) (hl2 : ps.length ≤ 1000) :
    Calls Tryz.prog 33 #[.agg #[.slice A cs.length c, .slice B ps.length d, .int .i64 g, .int .i64 l]] w (OwnAcc cs ps g l w) := by
  go_enter Tryz.func33, Tryz.ntmps33
  go_wp2_with fail
  obtain ⟨W, hW⟩ : ∃ x, x = (w.alloc (.cells #[.slice A cs.length c, .slice B ps.length d, .int .i64 g, .int .i64 l] 31)).alloc (.cells #[.slice none 0 0, .slice none 0 0, .int .i64 0, .int .i64 0] 31) := ⟨_, rfl⟩
  rw [← hW]
  have bw : Below w.heap.size w W := by rw [hW]; go_grown
  have hz : W.heap.size = w.heap.size + 2 := by rw [hW]; simp
  obtain ⟨c0, c1, c2, c3⟩ := accBox w (.slice A cs.length c) (.slice B ps.length d) (.int .i64 g) (.int .i64 l) 31
  have b1 := below_new (w.alloc (.cells #[.slice A cs.length c, .slice B ps.length d, .int .i64 g, .int .i64 l] 31)) (.cells #[.slice none 0 0, .slice none 0 0, .int .i64 0, .int .i64 0] 31)
  have k0 : W.cell? ⟨w.heap.size, 0, none⟩ = some (.slice A cs.length c) := by rw [hW]; exact b1.at_ (by simp) c0
  have k1 : W.cell? ⟨w.heap.size, 1, none⟩ = some (.slice B ps.length d) := by rw [hW]; exact b1.at_ (by simp) c1
  have k2 : W.cell? ⟨w.heap.size, 2, none⟩ = some (.int .i64 g) := by rw [hW]; exact b1.at_ (by simp) c2
  have k3 : W.cell? ⟨w.heap.size, 3, none⟩ = some (.int .i64 l) := by rw [hW]; exact b1.at_ (by simp) c3
  have m0 : W.cell? ⟨w.heap.size + 1, 0, none⟩ = some (.slice none 0 0) := by rw [hW]; simp
  have m1 : W.cell? ⟨w.heap.size + 1, 1, none⟩ = some (.slice none 0 0) := by rw [hW]; simp
  have m2 : W.cell? ⟨w.heap.size + 1, 2, none⟩ = some (.int .i64 0) := by rw [hW]; simp
  have m3 : W.cell? ⟨w.heap.size + 1, 3, none⟩ = some (.int .i64 0) := by rw [hW]; simp
  have f1 : ∀ o, W.frozen? ⟨w.heap.size + 1, o, none⟩ = false := by intro o; rw [hW]; simp
  have f0 : ∀ o, W.frozen? ⟨w.heap.size, o, none⟩ = false := by intro o; rw [hW]; simp
  have r0 : w.heap.size < W.heap.size := by omega
  have r1 : w.heap.size + 1 < W.heap.size := by omega
  have HA := Lib.hid (hA.next bw)
  have HB := Lib.hid (hB.next bw)
  have HF0 := Lib.hid f0
  have HF1 := Lib.hid f1
  have HZ := Lib.hid hz
  clear hW c0 c1 c2 c3 b1 hA hB f0 f1 hz
  refine wp_makers 7 (by kernel_rfl) (by kernel_rfl) (by kernel_rfl) (by decide) (FAcc (.pointer (some ⟨w.heap.size, 0, none⟩)) (.slice A cs.length c) (.pointer (some ⟨w.heap.size, 1, none⟩)) (.slice B ps.length d) (.pointer (some ⟨w.heap.size, 0, none⟩)) cs ps) FAcc.keep ?_ ?_
  · intro i o hi ho listed vals lo hi' a w2 hdep hM hb hBs hAt K hK
    have d0 := hb.at_ r0 k0
    have d1 := hb.at_ r0 k1
    have hz2 : w.heap.size < w2.heap.size := Nat.lt_of_lt_of_le r0 hb.size
    obtain ⟨e1, e1'⟩ := hAt.slot 1 (by kernel_rfl) (by rfl)
    match i, hi with
    | 0, _ =>
      injection ho with ho
      subst ho
      go_simp
      exact hK _ w2 (Below.refl _ _) rfl
    | 1, _ =>
      injection ho with ho
      subst ho
      have l0 := hdep ⟨0, .data⟩ (by simp) rfl
      obtain ⟨e5, e5'⟩ := hAt.dep 0 (d := 3) (by omega) l0 (by rfl) (hM.fact 0 (by omega) l0)
      go_simp
      exact hK _ w2 (Below.refl _ _) rfl
    | 2, _ =>
      injection ho with ho
      subst ho
      have l0 := hdep ⟨1, .data⟩ (by simp) rfl
      obtain ⟨e5, e5'⟩ := hAt.dep 1 (d := 4) (by omega) l0 (by rfl) (hM.fact 1 (by omega) l0)
      go_simp
      refine (copyEntry_any A c cs w2 (HA.out.next hb).rd (by omega)).mono ?_
      rintro e w3 ⟨v1, rfl, ho1, hb1⟩
      exact hK _ w3 hb1 ⟨ho1, fun k hk => ho1.lt k hk⟩
    | 3, _ =>
      injection ho with ho
      subst ho
      go_simp
      exact hK _ w2 (Below.refl _ _) rfl
    | 4, _ =>
      injection ho with ho
      subst ho
      have l0 := hdep ⟨3, .data⟩ (by simp) rfl
      obtain ⟨e5, e5'⟩ := hAt.dep 3 (d := 6) (by omega) l0 (by rfl) (hM.fact 3 (by omega) l0)
      go_simp
      exact hK _ w2 (Below.refl _ _) rfl
    | 5, _ =>
      injection ho with ho
      subst ho
      have l0 := hdep ⟨4, .data⟩ (by simp) rfl
      obtain ⟨e5, e5'⟩ := hAt.dep 4 (d := 7) (by omega) l0 (by rfl) (hM.fact 4 (by omega) l0)
      go_simp
      refine (copyEntry_any B d ps w2 (HB.out.next hb).rd (by omega)).mono ?_
      rintro e w3 ⟨v1, rfl, ho1, hb1⟩
      exact hK _ w3 hb1 ⟨ho1, fun k hk => ho1.lt k hk⟩
    | 6, _ =>
      injection ho with ho
      subst ho
      go_simp
      exact hK _ w2 (Below.refl _ _) rfl
  · intro vals lo hi w2 hM hb
    have hl : ∀ i, i < 7 → (maskOf 10 7).getD i false = true := by decide
    have g0 := hM.fact 0 (by omega) (hl 0 (by omega))
    have g1 := hM.fact 1 (by omega) (hl 1 (by omega))
    have g2 := hM.fact 2 (by omega) (hl 2 (by omega))
    have g3 := hM.fact 3 (by omega) (hl 3 (by omega))
    have g4 := hM.fact 4 (by omega) (hl 4 (by omega))
    have g5 := hM.fact 5 (by omega) (hl 5 (by omega))
    have g6 := hM.fact 6 (by omega) (hl 6 (by omega))
    have hap := hM.apart 2 5 (by omega) (by omega) (by omega) (hl 2 (by omega)) (hl 5 (by omega))
    have q2 := hM.ge 2 (by omega) (hl 2 (by omega))
    have q5 := hM.ge 5 (by omega) (hl 5 (by omega))
    have g0 : vals 0 = .pointer (some ⟨w.heap.size, 0, none⟩) := g0
    have g1 : vals 1 = .slice A cs.length c := g1
    have g3 : vals 3 = .pointer (some ⟨w.heap.size, 1, none⟩) := g3
    have g4 : vals 4 = .slice B ps.length d := g4
    have g6 : vals 6 = .pointer (some ⟨w.heap.size, 0, none⟩) := g6
    obtain ⟨o2, p2⟩ := g2
    obtain ⟨o5, p5⟩ := g5
    obtain ⟨A2, cA2, e2, _, _⟩ := own_slice o2
    obtain ⟨A5, cA5, e5, _, _⟩ := own_slice o5
    rw [e2] at o2 p2
    rw [e5] at o5 p5
    have hne : (Value.slice A2 cs.length cA2).ownBlock = none ∨ (Value.slice A2 cs.length cA2).ownBlock ≠ (Value.slice A5 ps.length cA5).ownBlock := by
      cases hv : (Value.slice A2 cs.length cA2).ownBlock with
      | none => exact .inl rfl
      | some k =>
        refine .inr fun e => ?_
        have a1 := p2 k hv
        have a2 := p5 k e.symm
        omega
    have HNE := Lib.hid hne
    have HO2 := Lib.hid (o2.base_ q2.1)
    have HO5 := Lib.hid (o5.base_ q5.1)
    have d0 := hb.at_ r0 k0
    have d1 := hb.at_ r0 k1
    have d2 := hb.at_ r0 k2
    have d3 := hb.at_ r0 k3
    have n0 := hb.at_ r1 m0
    have n1 := hb.at_ r1 m1
    have n2 := hb.at_ r1 m2
    have n3 := hb.at_ r1 m3
    have x0 := (hb.frozen (p := ⟨w.heap.size, 0, none⟩) r0).trans (HF0.out 0)
    have x1 := (hb.frozen (p := ⟨w.heap.size, 1, none⟩) r0).trans (HF0.out 1)
    have y0 := (hb.frozen (p := ⟨w.heap.size + 1, 0, none⟩) r1).trans (HF1.out 0)
    have y1 := (hb.frozen (p := ⟨w.heap.size + 1, 1, none⟩) r1).trans (HF1.out 1)
    have y2 := (hb.frozen (p := ⟨w.heap.size + 1, 2, none⟩) r1).trans (HF1.out 2)
    have y3 := (hb.frozen (p := ⟨w.heap.size + 1, 3, none⟩) r1).trans (HF1.out 3)
    have HBW := Lib.hid (bw.trans (hb.mono bw.size))
    have HZ2 : Hid (w.heap.size + 2 ≤ w2.heap.size) := by show _ ≤ _; have := hb.size; have := HZ.out; omega
    clear hM k0 k1 k2 k3 m0 m1 m2 m3 hap q2 q5 o2 o5 p2 p5 hne hb hl
    simp only [putAll, List.range, List.range.loop, List.foldl_cons, List.foldl_nil, g0, g1, e2, g3, g4, e5, g6]
    clear g0 g1 g3 g4 g6 e2 e5
    generalize hact : Act.put _ _ _ = act
    simp (maxSteps := 20000) [dstOf, Act.put] at hact
    subst hact
    refine tail_step 7 _ (by kernel_rfl) rfl rfl (fun K' hK => ?_)
    go_simp
    refine hK _ _ ?_
    clear hK K'
    refine tail_step 8 _ (by kernel_rfl) rfl rfl (fun K' hK => ?_)
    go_simp
    refine hK _ _ ?_
    clear hK K'
    refine tail_step 9 _ (by kernel_rfl) rfl rfl (fun K' hK => ?_)
    go_simp
    refine hK _ _ ?_
    clear hK K'
    refine wpAny_done (by kernel_rfl) ?_ _
    go_wp2_with fail
    refine bodyPost_ret (v := .agg #[.slice A2 cs.length cA2, .slice A5 ps.length cA5, .int .i64 g, .int .i64 l]) (by simp [results, Tryz.results33, go_sem, n0, n1, n2, n3]) rfl ⟨_, _, rfl, ?_, ?_, HNE.out, ?_⟩
    · exact (own_far (own_far (own_far (own_far (own_far (own_far HO2.out (by omega)) (by omega)) (by omega)) (by omega)) (by omega)) (by omega)).base_ (by omega)
    · exact (own_far (own_far (own_far (own_far (own_far (own_far HO5.out (by omega)) (by omega)) (by omega)) (by omega)) (by omega)) (by omega)).base_ (by omega)
    · exact (((((HBW.out.setCell (Nat.le_refl _) _).setCell (Nat.le_refl _) _).setCell (Nat.le_succ _) _).setCell (Nat.le_succ _) _).setCell (Nat.le_succ _) _).setCell (Nat.le_succ _) _
end Go.Proofs.YtfojjecnmfkcfaaGreat
namespace Go.Proofs.YtfojjecnmfkcfaaGreat
open Go.RowKit
set_option linter.unusedVariables false
/-- Payments no later: at each day no less is paid. -/
def Sooner (ps qs : List (Int × Int)) : Prop := ∀ d, uptoF ps d ≤ uptoF qs d
theorem sooner_more {ps qs : List (Int × Int)} {x : Int × Int} (hx : 0 ≤ x.2) (h : qs.Perm (ps ++ [x])) : Sooner ps qs := fun d => by
  rw [uptoF_perm h, uptoF_app, uptoF_cons, uptoF_nil]
  split <;> omega
theorem uptoF_set (d : Int) (y : Int × Int) : ∀ (l : List (Int × Int)) (j : Nat) (hj : j < l.length), uptoF (l.set j y) d = uptoF l d - (if l[j].1 ≤ d then l[j].2 else 0) + (if y.1 ≤ d then y.2 else 0)
  | a :: l, 0, _ => by rw [List.set_cons_zero, uptoF_cons, uptoF_cons]; show _ = _ - (if a.1 ≤ d then a.2 else 0) + _; omega
  | a :: l, j + 1, hj => by
    have ih := uptoF_set d y l j (by simpa using hj)
    rw [List.set_cons_succ, uptoF_cons, uptoF_cons, ih]
    have e : (a :: l)[j + 1] = l[j]'(by simpa using hj) := rfl
    rw [e]; omega
theorem sooner_set {ps qs : List (Int × Int)} {j : Nat} (hj : j < ps.length) {q : Int} (hq : 0 ≤ q) (hp : 0 ≤ ps[j].2) (h : qs.Perm (ps.set j (ps[j].1 - q, ps[j].2))) : Sooner ps qs := fun d => by
  rw [uptoF_perm h, uptoF_set d _ ps j hj]
  by_cases h1 : ps[j].1 ≤ d
  · rw [if_pos h1, if_pos (show ps[j].1 - q ≤ d by omega)]; show _ ≤ _ - _ + ps[j].2; omega
  · rw [if_neg h1]; split
    · show _ ≤ _ - 0 + ps[j].2; omega
    · omega
section
variable {cs ps qs : List (Int × Int)} {g l day : Int}
theorem paid_sooner (hc : ∀ e ∈ cs, 0 ≤ e.1 ∧ 1 ≤ e.2) (hps : Up ps) (hqs : Up qs) (hp : ∀ e ∈ ps, 0 ≤ e.2) (hq : ∀ e ∈ qs, 0 ≤ e.2) (h : Sooner ps qs) {i : Nat} (hi : i < cs.length) (h1 : paidAt cs ps i ≠ -1) : paidAt cs qs i ≠ -1 ∧ paidAt cs qs i ≤ paidAt cs ps i := by
  have hge := paidAt_ge hps hi h1
  refine (paidAt_le hc hqs hq hi hge).2 ?_
  have := (paidAt_le hc hps hp hi hge).1 ⟨h1, Int.le_refl _⟩
  have := h (paidAt cs ps i)
  omega
theorem lateB_iff (i : Nat) : lateB cs ps g day i = true ↔ (cs.getD i (0, 0)).1 + g < day ∧ ¬ (paidAt cs ps i ≠ -1 ∧ paidAt cs ps i ≤ (cs.getD i (0, 0)).1 + g) := by
  unfold lateB
  simp only [Bool.and_eq_true, Bool.or_eq_true, decide_eq_true_eq]
  omega
theorem late_sooner (hc : ∀ e ∈ cs, 0 ≤ e.1 ∧ 1 ≤ e.2) (hps : Up ps) (hqs : Up qs) (hp : ∀ e ∈ ps, 0 ≤ e.2) (hq : ∀ e ∈ qs, 0 ≤ e.2) (h : Sooner ps qs) {i : Nat} (hi : i < cs.length) (h1 : lateB cs qs g day i = true) : lateB cs ps g day i = true := by
  rw [lateB_iff] at h1 ⊢
  refine ⟨h1.1, fun h2 => h1.2 ?_⟩
  have := paid_sooner hc hps hqs hp hq h hi h2.1
  exact ⟨this.1, by omega⟩
theorem lateC_le {cs ps qs : List (Int × Int)} (hl : 0 ≤ l) (hc : ∀ e ∈ cs, 0 ≤ e.2) (h : ∀ i, i < cs.length → lateB cs qs g day i = true → lateB cs ps g day i = true) : ∀ k, k ≤ cs.length → lateC cs qs g l day k ≤ lateC cs ps g l day k
  | 0, _ => by simp [lateC]
  | k + 1, hk => by
    have ih := lateC_le hl hc h k (by omega)
    rw [lateC_succ, lateC_succ]
    have hgd : cs.getD k (0, 0) = cs[k] := by simp [List.getD_eq_getElem?_getD, List.getElem?_eq_getElem (show k < cs.length by omega)]
    have hx : 0 ≤ ((cs.getD k (0, 0)).2 * l + 99) / 100 := by
      rw [hgd]
      have := Int.mul_nonneg (hc cs[k] (List.getElem_mem _)) hl
      omega
    by_cases h1 : lateB cs qs g day k = true
    · rw [if_pos h1, if_pos (h k (by omega) h1)]; omega
    · rw [if_neg h1]; split <;> omega
theorem lateK_mem {i : Int} : i ∈ lateK cs ps g day cs.length ↔ ∃ k : Nat, i = k ∧ k < cs.length ∧ lateB cs ps g day k = true := by
  unfold lateK
  simp only [List.mem_map, List.mem_filter, List.mem_range]
  constructor
  · rintro ⟨k, ⟨h1, h2⟩, rfl⟩; exact ⟨k, rfl, h1, h2⟩
  · rintro ⟨k, rfl, h1, h2⟩; exact ⟨k, ⟨h1, h2⟩, rfl⟩
theorem lateK_at {cs ps : List (Int × Int)} {g day : Int} {j : Nat} (h : j < (lateK cs ps g day cs.length).length) : ∃ k : Nat, (lateK cs ps g day cs.length)[j] = (k : Int) ∧ k < cs.length ∧ lateB cs ps g day k = true := by
  obtain ⟨k, e, h1, h2⟩ := lateK_mem.1 (List.getElem_mem h)
  exact ⟨k, e, h1, h2⟩
/-- A charge more. -/
theorem paid_longer (x : Int × Int) {i : Nat} (hi : i < cs.length) : paidAt (cs ++ [x]) ps i = paidAt cs ps i := by
  have e1 : (cs ++ [x]).getD i (0, 0) = cs.getD i (0, 0) := by simp [List.getD_eq_getElem?_getD, List.getElem?_append_left hi]
  have e2 : allOf (cs ++ [x]) (i + 1) = allOf cs (i + 1) := by
    unfold allOf
    rw [List.map_append, List.take_append_of_le_length (by simp; omega)]
  unfold paidAt
  rw [e1, e2]
theorem late_longer (x : Int × Int) {i : Nat} (hi : i < cs.length) : lateB (cs ++ [x]) ps g day i = lateB cs ps g day i := by
  have e1 : (cs ++ [x]).getD i (0, 0) = cs.getD i (0, 0) := by simp [List.getD_eq_getElem?_getD, List.getElem?_append_left hi]
  unfold lateB
  rw [e1, paid_longer x hi]
end
/-- Days that are all as much later. -/
def shiftD (t : List (Int × Int)) (b : Int) : List (Int × Int) := t.map fun e => (e.1 + b, e.2)
theorem shiftD_length (t : List (Int × Int)) (b : Int) : (shiftD t b).length = t.length := by simp [shiftD]
theorem uptoF_shift (b d : Int) : ∀ t : List (Int × Int), uptoF (shiftD t b) (d + b) = uptoF t d
  | [] => rfl
  | a :: t => by
    show uptoF ((a.1 + b, a.2) :: shiftD t b) (d + b) = _
    rw [uptoF_cons, uptoF_cons, uptoF_shift b d t]
    show (if a.1 + b ≤ d + b then a.2 else 0) + _ = _
    by_cases h : a.1 ≤ d
    · rw [if_pos h, if_pos (by omega)]
    · rw [if_neg h, if_neg (by omega)]
theorem payDay_shift (ps : List (Int × Int)) (all c b : Int) (hb : 0 ≤ b) (hc : 0 ≤ c) : ∀ l : List (Int × Int), payDay (shiftD ps b) all (c + b) (shiftD l b) = if payDay ps all c l = -1 then -1 else payDay ps all c l + b
  | [] => by simp [shiftD, payDay]
  | q :: l => by
    show payDay (shiftD ps b) all (c + b) ((q.1 + b, q.2) :: shiftD l b) = _
    have e1 : payDay ps all c (q :: l) = if all ≤ uptoF ps q.1 then max c q.1 else payDay ps all c l := rfl
    have e2 : payDay (shiftD ps b) all (c + b) ((q.1 + b, q.2) :: shiftD l b) = if all ≤ uptoF (shiftD ps b) (q.1 + b) then max (c + b) (q.1 + b) else payDay (shiftD ps b) all (c + b) (shiftD l b) := rfl
    rw [e2, uptoF_shift, payDay_shift ps all c b hb hc l]
    by_cases h : all ≤ uptoF ps q.1
    · rw [if_pos h] at e1
      rw [if_pos h, e1, if_neg (by omega)]; omega
    · rw [if_neg h] at e1
      rw [if_neg h, e1]
theorem allOf_shift (cs : List (Int × Int)) (b : Int) (k : Nat) : allOf (shiftD cs b) k = allOf cs k := by
  unfold allOf shiftD; rw [List.map_map]; rfl
theorem getD_shift (cs : List (Int × Int)) (b : Int) {i : Nat} (hi : i < cs.length) : (shiftD cs b).getD i (0, 0) = ((cs.getD i (0, 0)).1 + b, (cs.getD i (0, 0)).2) := by
  simp [shiftD, List.getD_eq_getElem?_getD, List.getElem?_eq_getElem hi]
theorem paid_shift {cs ps : List (Int × Int)} {b : Int} (hb : 0 ≤ b) (hc : ∀ e ∈ cs, 0 ≤ e.1) {i : Nat} (hi : i < cs.length) : paidAt (shiftD cs b) (shiftD ps b) i = if paidAt cs ps i = -1 then -1 else paidAt cs ps i + b := by
  have hgd : cs.getD i (0, 0) = cs[i] := by simp [List.getD_eq_getElem?_getD, List.getElem?_eq_getElem hi]
  unfold paidAt
  rw [getD_shift cs b hi, allOf_shift]
  exact payDay_shift ps _ _ b hb (by rw [hgd]; exact hc _ (List.getElem_mem _)) ps
theorem late_shift {cs ps : List (Int × Int)} {b g day : Int} (hb : 0 ≤ b) (hc : ∀ e ∈ cs, 0 ≤ e.1) (hps : Up ps) {i : Nat} (hi : i < cs.length) : lateB (shiftD cs b) (shiftD ps b) g (day + b) i = lateB cs ps g day i := by
  rw [Bool.eq_iff_iff, lateB_iff, lateB_iff, getD_shift cs b hi, paid_shift hb hc hi]
  have hgd : cs.getD i (0, 0) = cs[i] := by simp [List.getD_eq_getElem?_getD, List.getElem?_eq_getElem hi]
  rw [hgd]
  by_cases h : paidAt cs ps i = -1
  · rw [if_pos h, h]; simp; omega
  · rw [if_neg h]
    have h1 := paidAt_ge hps hi h
    have h2 := hc cs[i] (List.getElem_mem _)
    show cs[i].1 + b + g < day + b ∧ ¬ (paidAt cs ps i + b ≠ -1 ∧ paidAt cs ps i + b ≤ cs[i].1 + b + g) ↔ _
    omega
theorem lateK_shift {cs ps : List (Int × Int)} {b g day : Int} (hb : 0 ≤ b) (hc : ∀ e ∈ cs, 0 ≤ e.1) (hps : Up ps) : ∀ k, k ≤ cs.length → lateK (shiftD cs b) (shiftD ps b) g (day + b) k = lateK cs ps g day k
  | 0, _ => rfl
  | k + 1, hk => by rw [lateK_succ, lateK_succ, lateK_shift hb hc hps k (by omega), late_shift hb hc hps (by omega)]
theorem lateC_shift {cs ps : List (Int × Int)} {b g l day : Int} (hb : 0 ≤ b) (hc : ∀ e ∈ cs, 0 ≤ e.1) (hps : Up ps) : ∀ k, k ≤ cs.length → lateC (shiftD cs b) (shiftD ps b) g l (day + b) k = lateC cs ps g l day k
  | 0, _ => rfl
  | k + 1, hk => by rw [lateC_succ, lateC_succ, lateC_shift hb hc hps k (by omega), late_shift hb hc hps (by omega), getD_shift cs b (by omega)]
theorem up_shift {t : List (Int × Int)} (h : Up t) (b : Int) : Up (shiftD t b) := by
  unfold Up shiftD
  exact List.pairwise_map.2 (h.imp fun h => by show _ + b ≤ _ + b; omega)
theorem rises_up {t : List (Int × Int)} (h : Up t) : risesB 0 (t.map (·.1)) = true := by
  have key : ∀ l : List Int, l.Pairwise (· ≤ ·) → risesB 0 l = true := by
    intro l
    induction l with
    | nil => intro _; rfl
    | cons a l ih =>
      intro h
      obtain ⟨h1, h2⟩ := List.pairwise_cons.1 h
      cases l with
      | nil => rfl
      | cons b l =>
        simp only [risesB, Bool.and_eq_true, decide_eq_true_eq]
        exact ⟨by have := h1 b List.mem_cons_self; omega, ih h2⟩
  exact key _ (List.pairwise_map.2 h)
end Go.Proofs.YtfojjecnmfkcfaaGreat
