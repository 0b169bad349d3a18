/- 'kept' makes an account of the reference that reads as the one passed in. Two accounts of their own, made in whatever order: a copy, and one of the reference. A region that draws its order, whole: guards are met, operations may store; an invariant of the world, and a fact for each operation that is done; one proof serves every order. -/
import Derived.Test.YtfojjecnmfkcfaaGreatP21
import Derived.Test.YtfojjecnmfkcfaaGreatP13
import Derived.Test.YtfojjecnmfkcfaaGreatP20
import Derived.Test.YtfojjecnmfkcfaaGreatP19
namespace Go.Proofs.YtfojjecnmfkcfaaGreat
open Go.RowKit
set_option linter.unusedVariables false
theorem infoREntryK : (Tryz.prog.info? 151).map (fun i => (i.zero, i.size, i.bytes)) = some (some (.agg #[.int .i64 0, .int .i64 0]), 2, 16) := by kernel_rfl
theorem pairs_snoc2 (t : List (Int × Int)) (k : Nat) (h : k < t.length) : pairs (t.take (k + 1)) = pairs (t.take k) ++ [.int .i64 t[k].1, .int .i64 t[k].2] := by
  unfold pairs; rw [List.take_succ_eq_append_getElem h, List.flatMap_append]; simp
/-- Blocks below wm's, but for one, are as they were. -/
def FarB (wm wr : World) (G : Nat) : Prop := wm.grownBy wr (some G)
theorem FarB.sz {wm wr : World} {G : Nat} (h : FarB wm wr G) : wm.heap.size ≤ wr.heap.size := World.grownBy.size h
theorem FarB.far {wm wr : World} {G : Nat} (h : FarB wm wr G) : ∀ b, b < wm.heap.size → b ≠ G → wr.heap[b]? = wm.heap[b]? := fun b hb hn => World.grownBy.block h b hb (by intro e; injection e with e; exact hn e)
theorem FarB.trans {w1 w2 w3 : World} {G : Nat} (h : FarB w1 w2 G) (h2 : FarB w2 w3 G) : FarB w1 w3 G := grownBy_trans h h2
theorem FarB.cell {wm wr : World} {G b o : Nat} (h : FarB wm wr G) (hb : b < wm.heap.size) (hn : b ≠ G) : wr.cell? ⟨b, o, none⟩ = wm.cell? ⟨b, o, none⟩ := World.cell?_of_block (a := ⟨b, o, none⟩) (h.far b hb hn)
theorem FarB.frozen {wm wr : World} {G b o : Nat} (h : FarB wm wr G) (hb : b < wm.heap.size) (hn : b ≠ G) : wr.frozen? ⟨b, o, none⟩ = wm.frozen? ⟨b, o, none⟩ := World.frozen?_of_block (a := ⟨b, o, none⟩) (h.far b hb hn)
theorem FarB.refl (w : World) (G : Nat) : FarB w w G := grownBy_self _ _
theorem FarB.next {wm wr w' : World} {G : Nat} (h : FarB wm wr G) (hb : Below wr.heap.size wr w') : FarB wm w' G := grownBy_trans h (below_grown _ hb)
theorem RdI.wide {w : World} {l h l' h' : Nat} {A : Option Addr} {xs : List Value} (hr : RdI w l h A xs) (hl : l' ≤ l) (hh : h ≤ h') : RdI w l' h' A xs := fun hn => by
  obtain ⟨b, off, e, h1, h2, hc⟩ := hr hn
  exact ⟨b, off, e, by omega, by omega, hc⟩
/-- Where a loop of 'kept' stands: the entries gathered so far are a row of the loop's own, in a column of the account at G. -/
structure KSt (wm wr : World) (G J : Nat) (f : Nat → Value) (t : List (Int × Int)) (k : Nat) (v : Value) : Prop where
  own : wr.ownsRow wm.heap.size 151 2 v k (pairs (t.take k))
  far : FarB wm wr G
  lt : G < wm.heap.size
  o : ∀ j, j < 4 → wr.cell? ⟨G, j, none⟩ = some (if j = J then v else f j)
  of : ∀ j, j < 4 → wr.frozen? ⟨G, j, none⟩ = false
theorem KSt.alloc {wm wr : World} {G J : Nat} {f : Nat → Value} {t : List (Int × Int)} {k : Nat} {v : Value} (h : KSt wm wr G J f t k v) (x : Obj) : KSt wm (wr.alloc x) G J f t k v := by
  have hn := below_new wr x
  have hz : G < wr.heap.size := Nat.lt_of_lt_of_le h.lt h.far.sz
  exact ⟨h.own.alloc _, h.far.next hn, h.lt, fun j hj => hn.at_ hz (h.o j hj), fun j hj => (hn.frozen (p := ⟨G, j, none⟩) hz).trans (h.of j hj)⟩
/-- Behind the append, ahead of the store. -/
structure KMid (wm w1 : World) (G J : Nat) (f : Nat → Value) (t : List (Int × Int)) (k : Nat) (v1 : Value) : Prop where
  o1 : ∃ u, w1.cell? ⟨G, J, none⟩ = some u
  of : w1.frozen? ⟨G, J, none⟩ = false
  st : KSt wm (w1.setCell ⟨G, J, none⟩ v1) G J f t (k + 1) v1
theorem KSt.app {wm wr w1 : World} {G J : Nat} {f : Nat → Value} {t : List (Int × Int)} {k : Nat} {v v1 : Value} (h : KSt wm wr G J f t k v) (hJ : J < 4) (hk : k < t.length) (ho : w1.ownsRow wm.heap.size 151 2 v1 (k + 1) (pairs (t.take k) ++ [.int .i64 t[k].1, .int .i64 t[k].2]))
    (hg : wr.grownBy w1 v.ownBlock) : KMid wm w1 G J f t k v1 := by
  have hz := h.far.sz
  have hlt := h.lt
  have hne : ∀ b, b < wm.heap.size → some b ≠ v.ownBlock := fun b hb e => by have := (h.own.lt b e.symm).1; omega
  have c : ∀ j, j < 4 → w1.cell? ⟨G, j, none⟩ = some (if j = J then v else f j) := fun j hj => (World.grownBy.cell_far hg ⟨G, j, none⟩ (by show G < _; omega) (hne G hlt)).trans (h.o j hj)
  have fz : ∀ j, j < 4 → w1.frozen? ⟨G, j, none⟩ = false := fun j hj => (World.grownBy.frozen_far hg ⟨G, j, none⟩ (by show G < _; omega) (hne G hlt)).trans (h.of j hj)
  have f1 : FarB wm w1 G := ⟨hg.os.trans h.far.os, hg.tape.trans h.far.tape, hg.output.trans h.far.output, by have := hg.size; omega, fun b hb hn => (hg.block b (by omega) (hne b hb)).trans (h.far.far b hb (by intro e; exact hn (by rw [e])))⟩
  refine ⟨⟨_, c J hJ⟩, fz J hJ, ?_⟩
  refine ⟨?_, grownBy_trans f1 (grownBy_setCell _ _ _ _), hlt, fun j hj => ?_, fun j hj => ?_⟩
  · rw [pairs_snoc2 t k hk]
    exact own_far ho hlt
  · by_cases e : j = J
    · subst e
      rw [if_pos rfl]
      exact World.cell?_setCell_same _ _ _ (c j hj)
    · rw [if_neg e, World.cell?_setCell_other _ _ _ _ (by intro e'; injection e' with _ e'; exact e e'.symm), c j hj, if_neg e]
  · simpa using fz j hj
/-- The call returns an account of the reference that reads as the one passed in, in new blocks. -/
def KeptAcc (cs ps : List (Int × Int)) (g l : Int) (W : World) (e : Ending) (w' : World) : Prop :=
  ∃ A c B d, e = .returned (.agg #[.slice A cs.length c, .slice B ps.length d, .int .i64 g, .int .i64 l]) ∧ RdI w' W.heap.size w'.heap.size A (pairs cs) ∧ RdI w' W.heap.size w'.heap.size B (pairs ps) ∧ Below W.heap.size W w'
theorem k_start (w : World) (g l : Int) (t : List (Int × Int)) (x : Array Value) (t1 t2 t3 : TypeId) (wm : World) (hwm : wm = ((w.alloc (.cells x t1)).alloc (.cells #[.slice none 0 0, .slice none 0 0, .int .i64 0, .int .i64 0] t2)).alloc (.cells #[.slice none 0 0, .slice none 0 0, .int .i64 g, .int .i64 l] t3)) :
    KSt wm wm (w.heap.size + 1 + 1) 0 (fun j => if j = 1 then .slice none 0 0 else if j = 2 then .int .i64 g else .int .i64 l) t 0 (.slice none 0 0) := by
  subst hwm
  have hf : ∀ (W : World) (H o : Nat) (y : Array Value) (t : TypeId), W.heap.size = H → (W.alloc (.cells y t)).frozen? ⟨H, o, none⟩ = false := by
    intro W H o y t h; subst h; simp
  refine ⟨World.ownsRow_nil _ _ _ _, FarB.refl _ _, by simp, fun j hj => ?_, fun j hj => hf _ _ _ _ _ (by simp)⟩
  have := news_new ((w.alloc (.cells x t1)).alloc (.cells #[.slice none 0 0, .slice none 0 0, .int .i64 0, .int .i64 0] t2)) [.slice none 0 0, .slice none 0 0, .int .i64 g, .int .i64 l] t3 (by simp : _ = w.heap.size + 1 + 1)
  match j, hj with
  | 0, _ => exact this 0 _ rfl
  | 1, _ => exact this 1 _ rfl
  | 2, _ => exact this 2 _ rfl
  | 3, _ => exact this 3 _ rfl
set_option maxRecDepth 100000 in
set_option maxHeartbeats 4000000 in
theorem kept_any (A B : Option Addr) (c d : Nat) (cs ps : List (Int × Int)) (g l : Int) (w : World) (hA : Rd w w.heap.size A (pairs cs)) (hB : Rd w w.heap.size B (pairs ps)) (hl : cs.length ≤ 1000) (hl2 : ps.length ≤ 1000) :
    Calls Tryz.prog 34 #[.agg #[.slice A cs.length c, .slice B ps.length d, .int .i64 g, .int .i64 l]] w (KeptAcc cs ps g l w) := by
  obtain ⟨i0, hi, hz0, hz1, hz2⟩ := info_parts infoREntryK
  go_enter Tryz.func34, Tryz.ntmps34
  go_wp2_with fail
  generalize hwm : World.alloc (World.alloc (World.alloc w _) _) _ = wm
  have HK0 := Lib.hid (k_start w g l cs _ _ _ _ wm hwm.symm)
  have hw : wm.heap.size = w.heap.size + 3 := by rw [← hwm]; simp
  have bw : Below w.heap.size w wm := by rw [← hwm]; go_grown
  have e1 := below_new ((w.alloc (.cells #[.slice A cs.length c, .slice B ps.length d, .int .i64 g, .int .i64 l] 31)).alloc (.cells #[.slice none 0 0, .slice none 0 0, .int .i64 0, .int .i64 0] 85)) (.cells #[.slice none 0 0, .slice none 0 0, .int .i64 g, .int .i64 l] 85)
  rw [hwm] at e1
  have e0 := below_new (w.alloc (.cells #[.slice A cs.length c, .slice B ps.length d, .int .i64 g, .int .i64 l] 31)) (.cells #[.slice none 0 0, .slice none 0 0, .int .i64 0, .int .i64 0] 85)
  have k1 : wm.cell? ⟨w.heap.size, 1, none⟩ = some (.slice B ps.length d) := e1.at_ (by simp; omega) (e0.at_ (by simp) (news_new w [.slice A cs.length c, .slice B ps.length d, .int .i64 g, .int .i64 l] 31 rfl 1 _ rfl))
  have t0 : ∀ j u, [Value.slice none 0 0, .slice none 0 0, .int .i64 0, .int .i64 0][j]? = some u → wm.cell? ⟨w.heap.size + 1, j, none⟩ = some u := fun j u hu => e1.at_ (by simp) (by have := news_new (w.alloc (.cells #[.slice A cs.length c, .slice B ps.length d, .int .i64 g, .int .i64 l] 31)) [.slice none 0 0, .slice none 0 0, .int .i64 0, .int .i64 0] 85 (by simp : _ = w.heap.size + 1) j u hu; rwa [addr_add, Nat.zero_add] at this)
  have tf : ∀ j, wm.frozen? ⟨w.heap.size + 1, j, none⟩ = false := fun j => (e1.frozen (p := ⟨w.heap.size + 1, j, none⟩) (by simp)).trans (by
    have : ∀ (W : World) (H o : Nat) (y : Array Value) (t : TypeId), W.heap.size = H → (W.alloc (.cells y t)).frozen? ⟨H, o, none⟩ = false := by
      intro W H o y t h; subst h; simp
    exact this _ _ _ _ _ (by simp))
  have HT0 := Lib.hid t0
  have HTF := Lib.hid tf
  have HW := Lib.hid hw
  have g1 : w.heap.size + 1 + 1 < wm.heap.size := by omega
  clear hwm e0 e1 hw t0 tf
  go_loopw [16] (fun iv wr => ∃ (k : Nat) (v : Value), iv = .int .i64 k ∧ k ≤ cs.length ∧ Hid (KSt wm wr (w.heap.size + 1 + 1) 0 (fun j => if j = 1 then .slice none 0 0 else if j = 2 then .int .i64 g else .int .i64 l) cs k v)) (fun i _ => cs.length - (intOf i).toNat)
  case atStart => exact ⟨0, _, rfl, Nat.zero_le _, HK0.out⟩
  case round =>
    obtain ⟨k, v, rfl, hk, HS⟩ := hrel
    have hbw : FarB wm wr (w.heap.size + 1 + 1) := HS.out.far
    by_cases hlt : k < cs.length
    · have hA1 := (hA.next bw)
      obtain ⟨b, off, rfl, hbb, x1, x2⟩ := hA.pair hlt
      have x1 := (hbw.cell (by have := bw.size; omega) (by omega)).trans ((bw.cell (p := ⟨b, off + k * 2, none⟩) hbb).trans x1)
      have x2 := (hbw.cell (by have := bw.size; omega) (by omega)).trans ((bw.cell (p := ⟨b, off + k * 2 + 1, none⟩) hbb).trans x2)
      have hkz : (k : Int) < cs.length := by omega
      have o1 := HS.out.o 0 (by omega)
      rw [if_pos rfl] at o1
      have sz := hbw.sz
      have hbr : b < wr.heap.size := by have := bw.size; omega
      have lz2 : w.heap.size + 1 + 1 < wr.heap.size := by omega
      have HA := Lib.hid (fun x y => (HS.out.alloc x).alloc y)
      have HSZ := Lib.hid sz
      clear hA1 hbw sz k1
      go_wp2_with (at_builtin; refine wpList_append_own_at _ rfl _ _ 83 rfl wm.heap.size 151 i0 _ 2 16 Tryz.underlying83 hi hz0 hz1 hz2 rfl (by decide) _ _ _ rfl (HA.out _ _).own ⟨wr.heap.size + 1, 0, none⟩ 1 1 [.int .i64 cs[k].1, .int .i64 cs[k].2] rfl rfl (news_new _ _ _ (by simp)) (by simp [Value.oneCell']) (by simp only [maxLen]; omega) (by omega) (by have := HSZ.out; simp; omega) ?_; intro v1 w1 hown1 hgrow1 _ hat1; obtain ⟨B1, cc1, rfl, _, _⟩ := own_slice hown1; have M := KSt.app (HA.out _ _) (by omega) hlt hown1 hgrow1; obtain ⟨u1, m1⟩ := M.o1; have m2 := M.of; have M2 := Lib.hid M.st; clear M hown1 hgrow1 hat1)
      go_roundw
      case rel => exact ⟨k + 1, _, by go_num, by omega, M2⟩
      case measure => simp [intOf]; omega
    · obtain rfl : k = cs.length := by omega
      have hkz : ¬ (cs.length : Int) < cs.length := by omega
      have hown := HS.out.own
      rw [List.take_of_length_le (Nat.le_refl _)] at hown
      obtain ⟨A1, c1, rfl, hc1, hR1⟩ := own_sliceI hown
      have k1 := (hbw.cell (o := 1) (by omega) (by omega)).trans k1
      obtain ⟨wn, hwn⟩ : ∃ x, x = wr := ⟨_, rfl⟩
      have sz := hbw.sz
      have lz2 : w.heap.size + 1 + 1 < wr.heap.size := by omega
      have HK1 : Hid (KSt wn wr (w.heap.size + 1 + 1) 1 (fun j => if j = 0 then .slice A1 cs.length c1 else if j = 2 then .int .i64 g else .int .i64 l) ps 0 (.slice none 0 0)) := by
        show KSt _ _ _ _ _ _ _ _
        rw [hwn]
        refine ⟨World.ownsRow_nil _ _ _ _, FarB.refl _ _, lz2, fun j hj => ?_, HS.out.of⟩
        rw [HS.out.o j hj]
        match j, hj with
        | 0, _ => rfl
        | 1, _ => rfl
        | 2, _ => rfl
        | 3, _ => rfl
      have HF := Lib.hid hbw
      have HR1 := Lib.hid hR1
      subst hwn
      have HSZ := Lib.hid sz
      clear hbw hown hR1 HS HK0 sz
      go_wp2_with fail
      go_loopw [30] (fun iv wy => ∃ (m : Nat) (v : Value), iv = .int .i64 m ∧ m ≤ ps.length ∧ Hid (KSt wn wy (w.heap.size + 1 + 1) 1 (fun j => if j = 0 then .slice A1 cs.length c1 else if j = 2 then .int .i64 g else .int .i64 l) ps m v)) (fun i _ => ps.length - (intOf i).toNat)
      case atStart => exact ⟨0, _, rfl, Nat.zero_le _, HK1.out⟩
      case round =>
        obtain ⟨m, v, rfl, hm, HS⟩ := hrel
        have hbw : FarB wn wr (w.heap.size + 1 + 1) := HS.out.far
        by_cases hlt : m < ps.length
        · obtain ⟨b, off, rfl, hbb, x1, x2⟩ := hB.pair hlt
          have hbm : b < wn.heap.size := by have := HSZ.out; have := bw.size; omega
          have x1 := (hbw.cell hbm (by omega)).trans ((HF.out.cell (by have := bw.size; omega) (by omega)).trans ((bw.cell (p := ⟨b, off + m * 2, none⟩) hbb).trans x1))
          have x2 := (hbw.cell hbm (by omega)).trans ((HF.out.cell (by have := bw.size; omega) (by omega)).trans ((bw.cell (p := ⟨b, off + m * 2 + 1, none⟩) hbb).trans x2))
          have hmz : (m : Int) < ps.length := by omega
          have o1 := HS.out.o 1 (by omega)
          rw [if_pos rfl] at o1
          have sz := hbw.sz
          have hbr : b < wr.heap.size := by omega
          have lz2 : w.heap.size + 1 + 1 < wr.heap.size := by omega
          have HA := Lib.hid (fun x y => (HS.out.alloc x).alloc y)
          have HSZ2 := Lib.hid sz
          clear hbw sz k1
          go_wp2_with (at_builtin; refine wpList_append_own_at _ rfl _ _ 83 rfl wn.heap.size 151 i0 _ 2 16 Tryz.underlying83 hi hz0 hz1 hz2 rfl (by decide) _ _ _ rfl (HA.out _ _).own ⟨wr.heap.size + 1, 0, none⟩ 1 1 [.int .i64 ps[m].1, .int .i64 ps[m].2] rfl rfl (news_new _ _ _ (by simp)) (by simp [Value.oneCell']) (by simp only [maxLen]; omega) (by omega) (by have := HSZ2.out; simp; omega) ?_; intro v1 w1 hown1 hgrow1 _ hat1; obtain ⟨B1, cc1, rfl, _, _⟩ := own_slice hown1; have M := KSt.app (HA.out _ _) (by omega) hlt hown1 hgrow1; obtain ⟨u1, m1⟩ := M.o1; have m2 := M.of; have M2 := Lib.hid M.st; clear M hown1 hgrow1 hat1)
          go_roundw
          case rel => exact ⟨m + 1, _, by go_num, by omega, M2⟩
          case measure => simp [intOf]; omega
        · obtain rfl : m = ps.length := by omega
          have hmz : ¬ (ps.length : Int) < ps.length := by omega
          have hown := HS.out.own
          rw [List.take_of_length_le (Nat.le_refl _)] at hown
          obtain ⟨B1, d1, rfl, hd1, hR2⟩ := own_sliceI hown
          have o0 := HS.out.o 0 (by omega)
          have o1 := HS.out.o 1 (by omega)
          have o2 := HS.out.o 2 (by omega)
          have o3 := HS.out.o 3 (by omega)
          simp at o0 o1 o2 o3
          have hF2 := HF.out.trans hbw
          have t0 := (hF2.cell (o := 0) (by omega) (by omega)).trans (HT0.out 0 _ rfl)
          have t1 := (hF2.cell (o := 1) (by omega) (by omega)).trans (HT0.out 1 _ rfl)
          have t2 := (hF2.cell (o := 2) (by omega) (by omega)).trans (HT0.out 2 _ rfl)
          have t3 := (hF2.cell (o := 3) (by omega) (by omega)).trans (HT0.out 3 _ rfl)
          have f0 := (hF2.frozen (o := 0) (by omega) (by omega)).trans (HTF.out 0)
          have f1 := (hF2.frozen (o := 1) (by omega) (by omega)).trans (HTF.out 1)
          have f2 := (hF2.frozen (o := 2) (by omega) (by omega)).trans (HTF.out 2)
          have f3 := (hF2.frozen (o := 3) (by omega) (by omega)).trans (HTF.out 3)
          have HFB : Hid (Below w.heap.size w wr) := bw.grown hF2 bw.size (fun k e => by injection e; omega)
          have HRA : Hid (∀ wf : World, wf.heap.size = wr.heap.size → (∀ b, b ≠ w.heap.size + 1 → wf.heap[b]? = wr.heap[b]?) → RdI wf w.heap.size wf.heap.size A1 (pairs cs)) := by
            show ∀ wf : World, _
            intro wf hz hf
            exact (HR1.out.keep fun b h1 h2 => (hf b (by omega)).trans (hbw.far b h2 (by omega))).wide (by omega) (by have := hbw.sz; omega)
          have HRB : Hid (∀ wf : World, wf.heap.size = wr.heap.size → (∀ b, b ≠ w.heap.size + 1 → wf.heap[b]? = wr.heap[b]?) → RdI wf w.heap.size wf.heap.size B1 (pairs ps)) := by
            show ∀ wf : World, _
            intro wf hz hf
            exact (hR2.keep fun b h1 h2 => hf b (by omega)).wide (by omega) (by omega)
          clear hbw hown hR2 HS k1 hF2
          go_wp2_with fail
          refine bodyPost_ret (v := .agg #[.slice A1 cs.length c1, .slice B1 ps.length d1, .int .i64 g, .int .i64 l]) (by simp [results, Tryz.results34, go_sem, t0, t1, t2, t3]) rfl ⟨_, _, _, _, rfl, ?_, ?_, ?_⟩
          · exact HRA.out _ (by simp [World.setCell]) fun b hb => by rw [heap_far hb, heap_far hb, heap_far hb, heap_far hb]
          · exact HRB.out _ (by simp [World.setCell]) fun b hb => by rw [heap_far hb, heap_far hb, heap_far hb, heap_far hb]
          · exact (((HFB.out.setCell (Nat.le_succ _) _).setCell (Nat.le_succ _) _).setCell (Nat.le_succ _) _).setCell (Nat.le_succ _) _
set_option maxRecDepth 100000 in
set_option maxHeartbeats 2000000 in
theorem ownAccR_any (A B : Option Addr) (c d : Nat) (cs ps : List (Int × Int)) (g l : Int) (w : World) (hA : Rd w w.heap.size A (pairs cs)) (hB : Rd w w.heap.size B (pairs ps)) (hl : cs.length ≤ 1000) (hl2 : ps.length ≤ 1000) :
    Calls Tryz.prog 33 #[.agg #[.slice A cs.length c, .slice B ps.length d, .int .i64 g, .int .i64 l]] w (OwnAcc cs ps g l w) := by
  go_enter Tryz.func33, Tryz.ntmps33
  go_wp2_with fail
  obtain ⟨W, hW⟩ : ∃ x, x = (w.alloc (.cells #[.slice A cs.length c, .slice B ps.length d, .int .i64 g, .int .i64 l] 31)).alloc (.cells #[.slice none 0 0, .slice none 0 0, .int .i64 0, .int .i64 0] 31) := ⟨_, rfl⟩
  rw [← hW]
  have bw : Below w.heap.size w W := by rw [hW]; go_grown
  have hz : W.heap.size = w.heap.size + 2 := by rw [hW]; simp
  obtain ⟨c0, c1, c2, c3⟩ := accBox w (.slice A cs.length c) (.slice B ps.length d) (.int .i64 g) (.int .i64 l) 31
  have b1 := below_new (w.alloc (.cells #[.slice A cs.length c, .slice B ps.length d, .int .i64 g, .int .i64 l] 31)) (.cells #[.slice none 0 0, .slice none 0 0, .int .i64 0, .int .i64 0] 31)
  have k0 : W.cell? ⟨w.heap.size, 0, none⟩ = some (.slice A cs.length c) := by rw [hW]; exact b1.at_ (by simp) c0
  have k1 : W.cell? ⟨w.heap.size, 1, none⟩ = some (.slice B ps.length d) := by rw [hW]; exact b1.at_ (by simp) c1
  have k2 : W.cell? ⟨w.heap.size, 2, none⟩ = some (.int .i64 g) := by rw [hW]; exact b1.at_ (by simp) c2
  have k3 : W.cell? ⟨w.heap.size, 3, none⟩ = some (.int .i64 l) := by rw [hW]; exact b1.at_ (by simp) c3
  have m0 : W.cell? ⟨w.heap.size + 1, 0, none⟩ = some (.slice none 0 0) := by rw [hW]; simp
  have m1 : W.cell? ⟨w.heap.size + 1, 1, none⟩ = some (.slice none 0 0) := by rw [hW]; simp
  have m2 : W.cell? ⟨w.heap.size + 1, 2, none⟩ = some (.int .i64 0) := by rw [hW]; simp
  have m3 : W.cell? ⟨w.heap.size + 1, 3, none⟩ = some (.int .i64 0) := by rw [hW]; simp
  have f1 : ∀ o, W.frozen? ⟨w.heap.size + 1, o, none⟩ = false := by intro o; rw [hW]; simp
  have f0 : ∀ o, W.frozen? ⟨w.heap.size, o, none⟩ = false := by intro o; rw [hW]; simp
  have r0 : w.heap.size < W.heap.size := by omega
  have r1 : w.heap.size + 1 < W.heap.size := by omega
  have HA := Lib.hid (hA.next bw)
  have HB := Lib.hid (hB.next bw)
  have HF0 := Lib.hid f0
  have HF1 := Lib.hid f1
  have HZ := Lib.hid hz
  clear hW c0 c1 c2 c3 b1 hA hB f0 f1 hz
  refine wp_makers 7 (by kernel_rfl) (by kernel_rfl) (by kernel_rfl) (by decide) (FAcc (.pointer (some ⟨w.heap.size, 0, none⟩)) (.slice A cs.length c) (.pointer (some ⟨w.heap.size, 1, none⟩)) (.slice B ps.length d) (.pointer (some ⟨w.heap.size, 0, none⟩)) cs ps) FAcc.keep ?_ ?_
  · intro i o hi ho listed vals lo hi' a w2 hdep hM hb hBs hAt K hK
    have d0 := hb.at_ r0 k0
    have d1 := hb.at_ r0 k1
    have hz2 : w.heap.size < w2.heap.size := Nat.lt_of_lt_of_le r0 hb.size
    obtain ⟨e1, e1'⟩ := hAt.slot 1 (by kernel_rfl) (by rfl)
    match i, hi with
    | 0, _ =>
      injection ho with ho
      subst ho
      go_simp
      exact hK _ w2 (Below.refl _ _) rfl
    | 1, _ =>
      injection ho with ho
      subst ho
      have l0 := hdep ⟨0, .data⟩ (by simp) rfl
      obtain ⟨e5, e5'⟩ := hAt.dep 0 (d := 3) (by omega) l0 (by rfl) (hM.fact 0 (by omega) l0)
      go_simp
      exact hK _ w2 (Below.refl _ _) rfl
    | 2, _ =>
      injection ho with ho
      subst ho
      have l0 := hdep ⟨1, .data⟩ (by simp) rfl
      obtain ⟨e5, e5'⟩ := hAt.dep 1 (d := 4) (by omega) l0 (by rfl) (hM.fact 1 (by omega) l0)
      go_simp
      refine (copyEntry_any A c cs w2 (HA.out.next hb) (by omega)).mono ?_
      rintro e w3 ⟨v1, rfl, ho1, hb1⟩
      exact hK _ w3 hb1 ⟨ho1, fun k hk => ho1.lt k hk⟩
    | 3, _ =>
      injection ho with ho
      subst ho
      go_simp
      exact hK _ w2 (Below.refl _ _) rfl
    | 4, _ =>
      injection ho with ho
      subst ho
      have l0 := hdep ⟨3, .data⟩ (by simp) rfl
      obtain ⟨e5, e5'⟩ := hAt.dep 3 (d := 6) (by omega) l0 (by rfl) (hM.fact 3 (by omega) l0)
      go_simp
      exact hK _ w2 (Below.refl _ _) rfl
    | 5, _ =>
      injection ho with ho
      subst ho
      have l0 := hdep ⟨4, .data⟩ (by simp) rfl
      obtain ⟨e5, e5'⟩ := hAt.dep 4 (d := 7) (by omega) l0 (by rfl) (hM.fact 4 (by omega) l0)
      go_simp
      refine (copyEntry_any B d ps w2 (HB.out.next hb) (by omega)).mono ?_
      rintro e w3 ⟨v1, rfl, ho1, hb1⟩
      exact hK _ w3 hb1 ⟨ho1, fun k hk => ho1.lt k hk⟩
    | 6, _ =>
      injection ho with ho
      subst ho
      go_simp
      exact hK _ w2 (Below.refl _ _) rfl
  · intro vals lo hi w2 hM hb
    have hl : ∀ i, i < 7 → (maskOf 10 7).getD i false = true := by decide
    have g0 := hM.fact 0 (by omega) (hl 0 (by omega))
    have g1 := hM.fact 1 (by omega) (hl 1 (by omega))
    have g2 := hM.fact 2 (by omega) (hl 2 (by omega))
    have g3 := hM.fact 3 (by omega) (hl 3 (by omega))
    have g4 := hM.fact 4 (by omega) (hl 4 (by omega))
    have g5 := hM.fact 5 (by omega) (hl 5 (by omega))
    have g6 := hM.fact 6 (by omega) (hl 6 (by omega))
    have hap := hM.apart 2 5 (by omega) (by omega) (by omega) (hl 2 (by omega)) (hl 5 (by omega))
    have q2 := hM.ge 2 (by omega) (hl 2 (by omega))
    have q5 := hM.ge 5 (by omega) (hl 5 (by omega))
    have g0 : vals 0 = .pointer (some ⟨w.heap.size, 0, none⟩) := g0
    have g1 : vals 1 = .slice A cs.length c := g1
    have g3 : vals 3 = .pointer (some ⟨w.heap.size, 1, none⟩) := g3
    have g4 : vals 4 = .slice B ps.length d := g4
    have g6 : vals 6 = .pointer (some ⟨w.heap.size, 0, none⟩) := g6
    obtain ⟨o2, p2⟩ := g2
    obtain ⟨o5, p5⟩ := g5
    obtain ⟨A2, cA2, e2, _, _⟩ := own_slice o2
    obtain ⟨A5, cA5, e5, _, _⟩ := own_slice o5
    rw [e2] at o2 p2
    rw [e5] at o5 p5
    have hne : (Value.slice A2 cs.length cA2).ownBlock = none ∨ (Value.slice A2 cs.length cA2).ownBlock ≠ (Value.slice A5 ps.length cA5).ownBlock := by
      cases hv : (Value.slice A2 cs.length cA2).ownBlock with
      | none => exact .inl rfl
      | some k =>
        refine .inr fun e => ?_
        have a1 := p2 k hv
        have a2 := p5 k e.symm
        omega
    have HNE := Lib.hid hne
    have HO2 := Lib.hid (o2.base_ q2.1)
    have HO5 := Lib.hid (o5.base_ q5.1)
    have d0 := hb.at_ r0 k0
    have d1 := hb.at_ r0 k1
    have d2 := hb.at_ r0 k2
    have d3 := hb.at_ r0 k3
    have n0 := hb.at_ r1 m0
    have n1 := hb.at_ r1 m1
    have n2 := hb.at_ r1 m2
    have n3 := hb.at_ r1 m3
    have x0 := (hb.frozen (p := ⟨w.heap.size, 0, none⟩) r0).trans (HF0.out 0)
    have x1 := (hb.frozen (p := ⟨w.heap.size, 1, none⟩) r0).trans (HF0.out 1)
    have y0 := (hb.frozen (p := ⟨w.heap.size + 1, 0, none⟩) r1).trans (HF1.out 0)
    have y1 := (hb.frozen (p := ⟨w.heap.size + 1, 1, none⟩) r1).trans (HF1.out 1)
    have y2 := (hb.frozen (p := ⟨w.heap.size + 1, 2, none⟩) r1).trans (HF1.out 2)
    have y3 := (hb.frozen (p := ⟨w.heap.size + 1, 3, none⟩) r1).trans (HF1.out 3)
    have HBW := Lib.hid (bw.trans (hb.mono bw.size))
    have HZ2 : Hid (w.heap.size + 2 ≤ w2.heap.size) := by show _ ≤ _; have := hb.size; have := HZ.out; omega
    clear hM k0 k1 k2 k3 m0 m1 m2 m3 hap q2 q5 o2 o5 p2 p5 hne hb hl
    simp only [putAll, List.range, List.range.loop, List.foldl_cons, List.foldl_nil, g0, g1, e2, g3, g4, e5, g6]
    clear g0 g1 g3 g4 g6 e2 e5
    generalize hact : Act.put _ _ _ = act
    simp (maxSteps := 20000) [dstOf, Act.put] at hact
    subst hact
    refine tail_step 7 _ (by kernel_rfl) rfl rfl (fun K' hK => ?_)
    go_simp
    refine hK _ _ ?_
    clear hK K'
    refine tail_step 8 _ (by kernel_rfl) rfl rfl (fun K' hK => ?_)
    go_simp
    refine hK _ _ ?_
    clear hK K'
    refine tail_step 9 _ (by kernel_rfl) rfl rfl (fun K' hK => ?_)
    go_simp
    refine hK _ _ ?_
    clear hK K'
    refine wpAny_done (by kernel_rfl) ?_ _
    go_wp2_with fail
    refine bodyPost_ret (v := .agg #[.slice A2 cs.length cA2, .slice A5 ps.length cA5, .int .i64 g, .int .i64 l]) (by simp [results, Tryz.results33, go_sem, n0, n1, n2, n3]) rfl ⟨_, _, rfl, ?_, ?_, HNE.out, ?_⟩
    · exact (own_far (own_far (own_far (own_far (own_far (own_far HO2.out (by omega)) (by omega)) (by omega)) (by omega)) (by omega)) (by omega)).base_ (by omega)
    · exact (own_far (own_far (own_far (own_far (own_far (own_far HO5.out (by omega)) (by omega)) (by omega)) (by omega)) (by omega)) (by omega)).base_ (by omega)
    · exact (((((HBW.out.setCell (Nat.le_refl _) _).setCell (Nat.le_refl _) _).setCell (Nat.le_succ _) _).setCell (Nat.le_succ _) _).setCell (Nat.le_succ _) _).setCell (Nat.le_succ _) _
end Go.Proofs.YtfojjecnmfkcfaaGreat
namespace Go.Proofs.YtfojjecnmfkcfaaGreat
open Go.RowKit
set_option linter.unusedVariables false
def accA (cs ps : List (Int × Int)) (g l : Int) (A : Option Addr) (c : Nat) (B : Option Addr) (d : Nat) : Value := .agg #[.slice A cs.length c, .slice B ps.length d, .int .i64 g, .int .i64 l]
def FAccO (cs ps : List (Int × Int)) (g l : Int) (v : Value) (lo hi : Nat) (w : World) : Prop := ∃ A c B d, v = accA cs ps g l A c B d ∧ cs.length ≤ c ∧ ps.length ≤ d ∧ Ok0 A c ∧ Ok0 B d ∧ RdI w lo hi A (pairs cs) ∧ RdI w lo hi B (pairs ps)
def FAccK (cs ps : List (Int × Int)) (g l : Int) (v : Value) (lo hi : Nat) (w : World) : Prop := ∃ A c B d, v = accA cs ps g l A c B d ∧ RdI w lo hi A (pairs cs) ∧ RdI w lo hi B (pairs ps)
def zAcc : Array Value := #[.slice none 0 0, .slice none 0 0, .int .i64 0, .int .i64 0]
theorem FAccO.keep {cs ps : List (Int × Int)} {g l : Int} {v : Value} {lo hi : Nat} {w w' : World} (H : FAccO cs ps g l v lo hi w) (hk : ∀ b, lo ≤ b → b < hi → w'.heap[b]? = w.heap[b]?) : FAccO cs ps g l v lo hi w' := by
  obtain ⟨A, c, B, d, e, h1, h2, h3, h4, h5, h6⟩ := H
  exact ⟨A, c, B, d, e, h1, h2, h3, h4, h5.keep hk, h6.keep hk⟩
theorem FAccK.keep {cs ps : List (Int × Int)} {g l : Int} {v : Value} {lo hi : Nat} {w w' : World} (H : FAccK cs ps g l v lo hi w) (hk : ∀ b, lo ≤ b → b < hi → w'.heap[b]? = w.heap[b]?) : FAccK cs ps g l v lo hi w' := by
  obtain ⟨A, c, B, d, e, h5, h6⟩ := H
  exact ⟨A, c, B, d, e, h5.keep hk, h6.keep hk⟩
theorem accO_of {cs ps : List (Int × Int)} {g l : Int} {w w' : World} {u v : Value} (h1 : w'.ownsRow w.heap.size 39 2 v cs.length (pairs cs)) (h2 : w'.ownsRow w.heap.size 39 2 u ps.length (pairs ps)) : FAccO cs ps g l (.agg #[v, u, .int .i64 g, .int .i64 l]) w.heap.size w'.heap.size w' := by
  obtain ⟨A, c, e1, E1⟩ := ent_of_own h1
  obtain ⟨B, d, e2, E2⟩ := ent_of_own h2
  obtain ⟨A', c', e1', _, R1⟩ := own_sliceI h1
  obtain ⟨B', d', e2', _, R2⟩ := own_sliceI h2
  rw [e1] at e1'
  rw [e2] at e2'
  injection e1' with x1 x2 x3
  injection e2' with y1 y2 y3
  subst x1 x3 y1 y3
  exact ⟨A, c, B, d, by rw [e1, e2]; rfl, E1.cap, E2.cap, E1.ok, E2.ok, R1, R2⟩
def FTwA (X : Value) (cs ps : List (Int × Int)) (g l : Int) (t1 t2 : TypeId) : Nat → Value → Nat → Nat → World → Prop
  | 0, v, _, _, _ => v = X
  | 1, v, lo, hi, w => FAccO cs ps g l v lo hi w
  | 2, v, _, _, _ => v = X
  | 3, v, lo, hi, w => FAccK cs ps g l v lo hi w
  | 4, v, lo, hi, w => FNew zAcc t1 v lo hi w
  | 5, v, lo, hi, w => FNew zAcc t2 v lo hi w
  | _, _, _, _, _ => True
theorem FTwA.keep {X : Value} {cs ps : List (Int × Int)} {g l : Int} {t1 t2 : TypeId} : ∀ i v lo hi w w', FTwA X cs ps g l t1 t2 i v lo hi w → (∀ b, lo ≤ b → b < hi → w'.heap[b]? = w.heap[b]?) → FTwA X cs ps g l t1 t2 i v lo hi w'
  | 0, _, _, _, _, _, H, _ => H
  | 1, _, _, _, _, _, H, hk => FAccO.keep H hk
  | 2, _, _, _, _, _, H, _ => H
  | 3, _, _, _, _, _, H, hk => FAccK.keep H hk
  | 4, _, _, _, _, _, H, hk => FNew.keep H hk
  | 5, _, _, _, _, _, H, hk => FNew.keep H hk
  | _ + 6, _, _, _, _, _, _, _ => trivial
/-- The four cells of an account at a block. -/
structure CA4 (w : World) (g : Nat) (a b c d : Value) : Prop where
  c0 : w.cell? ⟨g, 0, none⟩ = some a
  c1 : w.cell? ⟨g, 1, none⟩ = some b
  c2 : w.cell? ⟨g, 2, none⟩ = some c
  c3 : w.cell? ⟨g, 3, none⟩ = some d
theorem CA4.next {w w' : World} {g : Nat} {a b c d : Value} (h : CA4 w g a b c d) (hg : g < w.heap.size) (hb : Below w.heap.size w w') : CA4 w' g a b c d := ⟨hb.at_ hg h.c0, hb.at_ hg h.c1, hb.at_ hg h.c2, hb.at_ hg h.c3⟩
/-- The world in which four cells of a block are set. -/
def set4 (w : World) (g : Nat) (a b c d : Value) : World := (((w.setCell ⟨g, 0, none⟩ a).setCell ⟨g, 1, none⟩ b).setCell ⟨g, 2, none⟩ c).setCell ⟨g, 3, none⟩ d
theorem set4_size (w : World) (g : Nat) (a b c d : Value) : (set4 w g a b c d).heap.size = w.heap.size := by simp [set4, World.setCell]
theorem set4_far {w : World} {g k : Nat} {a b c d : Value} (h : k ≠ g) : (set4 w g a b c d).heap[k]? = w.heap[k]? := by
  unfold set4; rw [heap_far h, heap_far h, heap_far h, heap_far h]
theorem set4_cell {w : World} {g k o : Nat} {a b c d : Value} (h : k ≠ g) : (set4 w g a b c d).cell? ⟨k, o, none⟩ = w.cell? ⟨k, o, none⟩ := World.cell?_of_block (a := ⟨k, o, none⟩) (set4_far h)
theorem set4_at {w : World} {g : Nat} {a b c d : Value} {x0 x1 x2 x3 : Value} (h : CA4 w g x0 x1 x2 x3) : CA4 (set4 w g a b c d) g a b c d := by
  unfold set4
  have n : ∀ (W : World) (i j : Nat) (v : Value), i ≠ j → (W.setCell ⟨g, j, none⟩ v).cell? ⟨g, i, none⟩ = W.cell? ⟨g, i, none⟩ := fun W i j v h => World.cell?_setCell_other _ _ _ _ (by intro e; injection e with _ e; exact h e.symm)
  refine ⟨?_, ?_, ?_, ?_⟩
  · rw [n _ 0 3 _ (by omega), n _ 0 2 _ (by omega), n _ 0 1 _ (by omega)]; exact World.cell?_setCell_same _ _ _ h.c0
  · rw [n _ 1 3 _ (by omega), n _ 1 2 _ (by omega)]; exact World.cell?_setCell_same _ _ _ ((n _ 1 0 _ (by omega)).trans h.c1)
  · rw [n _ 2 3 _ (by omega)]; exact World.cell?_setCell_same _ _ _ ((n _ 2 1 _ (by omega)).trans ((n _ 2 0 _ (by omega)).trans h.c2))
  · exact World.cell?_setCell_same _ _ _ ((n _ 3 2 _ (by omega)).trans ((n _ 3 1 _ (by omega)).trans ((n _ 3 0 _ (by omega)).trans h.c3)))
theorem set4_below {B : Nat} {a0 w : World} {g : Nat} {a b c d : Value} (h : Below B a0 w) (hg : B ≤ g) : Below B a0 (set4 w g a b c d) := (((h.setCell (p := ⟨g, 0, none⟩) hg _).setCell (p := ⟨g, 1, none⟩) hg _).setCell (p := ⟨g, 2, none⟩) hg _).setCell (p := ⟨g, 3, none⟩) hg _
/-- An account that came, its copy, and that of the reference. -/
structure SA (w wr : World) (g1 g2 : Nat) (A B A1 B1 A2 B2 : Option Addr) (c d c1 d1 c2 d2 : Nat) (cs ps : List (Int × Int)) (g l : Int) : Prop where
  d : CA4 wr w.heap.size (.slice A cs.length c) (.slice B ps.length d) (.int .i64 g) (.int .i64 l)
  x : CA4 wr g1 (.slice A1 cs.length c1) (.slice B1 ps.length d1) (.int .i64 g) (.int .i64 l)
  y : CA4 wr g2 (.slice A2 cs.length c2) (.slice B2 ps.length d2) (.int .i64 g) (.int .i64 l)
  nz : w.heap.size < wr.heap.size
  n2 : g1 < wr.heap.size
  n4 : g2 < wr.heap.size
  r0 : Rd wr wr.heap.size A (pairs cs)
  q0 : Rd wr wr.heap.size B (pairs ps)
  r1 : Ent wr A1 c1 cs
  q1 : Ent wr B1 d1 ps
  r2 : Rd wr wr.heap.size A2 (pairs cs)
  q2 : Rd wr wr.heap.size B2 (pairs ps)
  bw : Below w.heap.size w wr
theorem SA.next {w wr w' : World} {g1 g2 : Nat} {A B A1 B1 A2 B2 : Option Addr} {c d c1 d1 c2 d2 : Nat} {cs ps : List (Int × Int)} {g l : Int} (h : SA w wr g1 g2 A B A1 B1 A2 B2 c d c1 d1 c2 d2 cs ps g l) (hb : Below wr.heap.size wr w') : SA w w' g1 g2 A B A1 B1 A2 B2 c d c1 d1 c2 d2 cs ps g l :=
  ⟨h.d.next h.nz hb, h.x.next h.n2 hb, h.y.next h.n4 hb, Nat.lt_of_lt_of_le h.nz hb.size, Nat.lt_of_lt_of_le h.n2 hb.size, Nat.lt_of_lt_of_le h.n4 hb.size, h.r0.next hb, h.q0.next hb, h.r1.next hb, h.q1.next hb, h.r2.next hb, h.q2.next hb, h.bw.trans (hb.mono h.bw.size)⟩
theorem FNew.c4 {a b c d : Value} {t : TypeId} {v : Value} {l h : Nat} {w : World} (H : FNew #[a, b, c, d] t v l h w) : CA4 w l a b c d ∧ ∀ o, w.frozen? ⟨l, o, none⟩ = false := by
  obtain ⟨x, y⟩ := FNew.cells H
  exact ⟨⟨x 0 _ rfl, x 1 _ rfl, x 2 _ rfl, x 3 _ rfl⟩, y⟩
/-- What the region leaves when its two stores are done. -/
def TwAcc (w wx : World) (A B : Option Addr) (c d : Nat) (cs ps : List (Int × Int)) (g l : Int) (s5 s6 : Value) : Prop :=
  ∃ g1 g2 A1 c1 B1 d1 A2 c2 B2 d2, s5 = .pointer (some ⟨g1, 0, none⟩) ∧ s6 = .pointer (some ⟨g2, 0, none⟩) ∧ SA w wx g1 g2 A B A1 B1 A2 B2 c d c1 d1 c2 d2 cs ps g l
theorem twa_mid {X : Value} {cs ps : List (Int × Int)} {g l : Int} {t1 t2 : TypeId} {B0 : Nat} {listed : Array Bool} {vals : Nat → Value} {lo hi : Nat → Nat} {w W1 w2 : World} {A B : Option Addr} {c d : Nat} (hB0 : B0 = W1.heap.size) (hl : ∀ i, i < 6 → listed.getD i false = true) (hM : Mk (FTwA X cs ps g l t1 t2) 6 B0 listed vals lo hi w2) (hb : Below B0 W1 w2)
    (bw : Below w.heap.size w W1) (hz : w.heap.size < W1.heap.size) (k : CA4 W1 w.heap.size (.slice A cs.length c) (.slice B ps.length d) (.int .i64 g) (.int .i64 l)) (hr : Rd w w.heap.size A (pairs cs)) (hq : Rd w w.heap.size B (pairs ps)) :
    ∃ g1 g2 A1 c1 B1 d1 A2 c2 B2 d2, vals 0 = X ∧ vals 1 = accA cs ps g l A1 c1 B1 d1 ∧ vals 2 = X ∧ vals 3 = accA cs ps g l A2 c2 B2 d2 ∧ vals 4 = .pointer (some ⟨g1, 0, none⟩) ∧ vals 5 = .pointer (some ⟨g2, 0, none⟩) ∧ ¬ g1 = g2 ∧ w.heap.size < g1 ∧ w.heap.size < g2 ∧
      CA4 w2 g1 (.slice none 0 0) (.slice none 0 0) (.int .i64 0) (.int .i64 0) ∧ CA4 w2 g2 (.slice none 0 0) (.slice none 0 0) (.int .i64 0) (.int .i64 0) ∧ (∀ o, w2.frozen? ⟨g1, o, none⟩ = false) ∧ (∀ o, w2.frozen? ⟨g2, o, none⟩ = false) ∧
      SA w (set4 (set4 w2 g1 (.slice A1 cs.length c1) (.slice B1 ps.length d1) (.int .i64 g) (.int .i64 l)) g2 (.slice A2 cs.length c2) (.slice B2 ps.length d2) (.int .i64 g) (.int .i64 l)) g1 g2 A B A1 B1 A2 B2 c d c1 d1 c2 d2 cs ps g l := by
  subst hB0
  obtain ⟨A1, c1, B1, d1, e1, k1, k2, k3, k4, r1, q1⟩ := hM.fact 1 (by omega) (hl 1 (by omega))
  obtain ⟨A2, c2, B2, d2, e3, r2, q2⟩ := hM.fact 3 (by omega) (hl 3 (by omega))
  have f4 : FNew #[.slice none 0 0, .slice none 0 0, .int .i64 0, .int .i64 0] t1 (vals 4) (lo 4) (hi 4) w2 := hM.fact 4 (by omega) (hl 4 (by omega))
  have f5 : FNew #[.slice none 0 0, .slice none 0 0, .int .i64 0, .int .i64 0] t2 (vals 5) (lo 5) (hi 5) w2 := hM.fact 5 (by omega) (hl 5 (by omega))
  obtain ⟨x4, y4⟩ := FNew.c4 f4
  obtain ⟨x5, y5⟩ := FNew.c4 f5
  obtain ⟨e4, z4, _⟩ := f4
  obtain ⟨e5, z5, _⟩ := f5
  have g1 := hM.ge 1 (by omega) (hl 1 (by omega))
  have g3 := hM.ge 3 (by omega) (hl 3 (by omega))
  have g4 := hM.ge 4 (by omega) (hl 4 (by omega))
  have g5 := hM.ge 5 (by omega) (hl 5 (by omega))
  have p14 := hM.apart 1 4 (by omega) (by omega) (by omega) (hl 1 (by omega)) (hl 4 (by omega))
  have p15 := hM.apart 1 5 (by omega) (by omega) (by omega) (hl 1 (by omega)) (hl 5 (by omega))
  have p34 := hM.apart 3 4 (by omega) (by omega) (by omega) (hl 3 (by omega)) (hl 4 (by omega))
  have p35 := hM.apart 3 5 (by omega) (by omega) (by omega) (hl 3 (by omega)) (hl 5 (by omega))
  have p45 := hM.apart 4 5 (by omega) (by omega) (by omega) (hl 4 (by omega)) (hl 5 (by omega))
  have hs := hb.size
  have far : ∀ (a1 b1 a2 b2 a3 b3 a4 b4 : Value) (b : Nat), b ≠ lo 4 → b ≠ lo 5 → (set4 (set4 w2 (lo 4) a1 b1 a2 b2) (lo 5) a3 b3 a4 b4).heap[b]? = w2.heap[b]? := fun _ _ _ _ _ _ _ _ b m1 m2 => (set4_far m2).trans (set4_far m1)
  have bw2 := bw.trans (hb.mono bw.size)
  refine ⟨lo 4, lo 5, A1, c1, B1, d1, A2, c2, B2, d2, hM.fact 0 (by omega) (hl 0 (by omega)), e1, hM.fact 2 (by omega) (hl 2 (by omega)), e3, e4, e5, by omega, by omega, by omega, x4, x5, y4, y5, ?_⟩
  have n45 : lo 4 ≠ lo 5 := by omega
  have bwf := set4_below (g := lo 5) (a := .slice A2 cs.length c2) (b := .slice B2 ps.length d2) (c := .int .i64 g) (d := .int .i64 l) (set4_below (g := lo 4) (a := .slice A1 cs.length c1) (b := .slice B1 ps.length d1) (c := .int .i64 g) (d := .int .i64 l) bw2 (by omega)) (by omega)
  have hwf : (set4 (set4 w2 (lo 4) (.slice A1 cs.length c1) (.slice B1 ps.length d1) (.int .i64 g) (.int .i64 l)) (lo 5) (.slice A2 cs.length c2) (.slice B2 ps.length d2) (.int .i64 g) (.int .i64 l)).heap.size = w2.heap.size := by rw [set4_size, set4_size]
  refine ⟨?_, ?_, ?_, by rw [hwf]; omega, by rw [hwf]; omega, by rw [hwf]; omega, hr.next bwf, hq.next bwf, ⟨?_, k1, k3⟩, ⟨?_, k2, k4⟩, ?_, ?_, bwf⟩
  · have k' := k.next hz hb
    exact ⟨(set4_cell (by omega)).trans ((set4_cell (by omega)).trans k'.c0), (set4_cell (by omega)).trans ((set4_cell (by omega)).trans k'.c1), (set4_cell (by omega)).trans ((set4_cell (by omega)).trans k'.c2), (set4_cell (by omega)).trans ((set4_cell (by omega)).trans k'.c3)⟩
  · have k' := set4_at (a := .slice A1 cs.length c1) (b := .slice B1 ps.length d1) (c := .int .i64 g) (d := .int .i64 l) x4
    exact ⟨(set4_cell n45).trans k'.c0, (set4_cell n45).trans k'.c1, (set4_cell n45).trans k'.c2, (set4_cell n45).trans k'.c3⟩
  · exact set4_at (w := set4 w2 (lo 4) (.slice A1 cs.length c1) (.slice B1 ps.length d1) (.int .i64 g) (.int .i64 l)) ⟨(set4_cell n45.symm).trans x5.c0, (set4_cell n45.symm).trans x5.c1, (set4_cell n45.symm).trans x5.c2, (set4_cell n45.symm).trans x5.c3⟩
  · exact RdI.rd (r1.keep fun b h1 h2 => far _ _ _ _ _ _ _ _ b (by omega) (by omega)) (by omega)
  · exact RdI.rd (q1.keep fun b h1 h2 => far _ _ _ _ _ _ _ _ b (by omega) (by omega)) (by omega)
  · exact RdI.rd (r2.keep fun b h1 h2 => far _ _ _ _ _ _ _ _ b (by omega) (by omega)) (by omega)
  · exact RdI.rd (q2.keep fun b h1 h2 => far _ _ _ _ _ _ _ _ b (by omega) (by omega)) (by omega)
end Go.Proofs.YtfojjecnmfkcfaaGreat
namespace Go.Proofs.YtfojjecnmfkcfaaGreat
open Go.RowKit
/-- Each operation waits for earlier ones alone, and has no place, or one of its own. -/
def headOkK (ops : Array Oper) (size : Nat) : Bool :=
  (List.range ops.size).all fun i => match ops[i]? with
    | none => false
    | some o => o.after.all (fun e => !Region.binds .any e || decide (e.on < i)) && (match o.dst with | none => true | some d => decide (d < size) && (List.range i).all fun j => dstOf ops j != some d)
theorem put_none (a : Act) (v : Value) : a.put none v = a := rfl
theorem headK_at {ops : Array Oper} {size : Nat} (h : headOkK ops size = true) {i : Nat} (hi : i < ops.size) : ∃ o, ops[i]? = some o ∧ (∀ e ∈ o.after, Region.binds .any e = true → e.on < i) ∧ ∀ d, o.dst = some d → d < size ∧ ∀ j, j < i → dstOf ops j ≠ some d := by
  have h1 := List.all_eq_true.1 h i (List.mem_range.2 hi)
  cases ho : ops[i]? with
  | none => rw [ho] at h1; simp at h1
  | some o =>
    rw [ho] at h1
    simp only [Bool.and_eq_true] at h1
    obtain ⟨g2, g3⟩ := h1
    refine ⟨o, rfl, fun e he hb => ?_, fun d hd => ?_⟩
    · have := Array.all_eq_true_iff_forall_mem.1 g2 e he
      simpa [hb] using this
    · rw [hd] at g3
      simp only [Bool.and_eq_true, decide_eq_true_eq, List.all_eq_true, List.mem_range, bne_iff_ne] at g3
      exact g3
theorem dstK_inj {ops : Array Oper} {size : Nat} (h : headOkK ops size = true) {i j : Nat} (hi : i < ops.size) (hj : j < ops.size) {d : Tmp} (h1 : dstOf ops i = some d) (h2 : dstOf ops j = some d) : i = j := by
  have key : ∀ i j, j < ops.size → i < j → dstOf ops i = some d → dstOf ops j = some d → False := by
    intro i j hj hij h1 h2
    obtain ⟨o, ho, _, hx⟩ := headK_at h hj
    have h3 : dstOf ops j = o.dst := by unfold dstOf; rw [ho]; rfl
    exact (hx d (h3.symm.trans h2)).2 i hij h1
  rcases Nat.lt_trichotomy i j with h3 | h3 | h3
  · exact (key i j hj h3 h1 h2).elim
  · exact h3
  · exact (key j i hi h3 h2 h1).elim
theorem putK_at {ops : Array Oper} {a0 : Act} (h : headOkK ops a0.tmps.size = true) (vals : Nat → Value) : ∀ k, k ≤ ops.size →
    (putAll ops vals a0 k).defers = a0.defers ∧ (putAll ops vals a0 k).tmps.size = a0.tmps.size ∧ (∀ i d, i < k → dstOf ops i = some d → (putAll ops vals a0 k).tmps[d]? = some (vals i)) ∧
    (∀ t, (∀ i, i < k → dstOf ops i ≠ some t) → (putAll ops vals a0 k).tmps[t]? = a0.tmps[t]?)
  | 0, _ => ⟨rfl, rfl, fun i d hi => by omega, fun _ _ => rfl⟩
  | k + 1, hk => by
    obtain ⟨i1, i2, i3, i4⟩ := putK_at h vals k (by omega)
    obtain ⟨o, ho, _, hx⟩ := headK_at h (show k < ops.size by omega)
    have e0 : putAll ops vals a0 (k + 1) = (putAll ops vals a0 k).put (dstOf ops k) (vals k) := by
      unfold putAll; rw [List.range_succ, List.foldl_append]; rfl
    have hdo : dstOf ops k = o.dst := by unfold dstOf; rw [ho]; rfl
    cases hd : o.dst with
    | none =>
      rw [hd] at hdo
      rw [e0, hdo, put_none]
      refine ⟨i1, i2, fun i d hi h2 => ?_, fun t ht => i4 t fun i hi => ht i (by omega)⟩
      have : i ≠ k := by rintro rfl; rw [hdo] at h2; cases h2
      exact i3 i d (by omega) h2
    | some d =>
      rw [hd] at hdo
      obtain ⟨hs, hx⟩ := hx d hd
      rw [e0, hdo]
      refine ⟨i1, by simp [Act.put, i2], fun i d' hi hd' => ?_, fun t ht => ?_⟩
      · rw [put_at _ _ _ _ (by rw [i2]; exact hs)]
        by_cases e2 : d' = d
        · have : i = k := dstK_inj h (by omega) (by omega) (e2 ▸ hd') hdo
          rw [if_pos e2, this]
        · rw [if_neg e2]
          refine i3 i d' ?_ hd'
          have : i ≠ k := by
            rintro rfl
            rw [hdo] at hd'; injection hd' with hd'; exact e2 hd'.symm
          omega
      · rw [put_at _ _ _ _ (by rw [i2]; exact hs), if_neg (by rintro rfl; exact ht k (by omega) hdo)]
        exact i4 t fun i hi => ht i (by omega)
theorem actK_eq {ops : Array Oper} {a0 a : Act} (h : headOkK ops a0.tmps.size = true) {listed : Array Bool} {vals : Nat → Value} (hA : ActAt ops ops.size a0 a listed vals) (hl : ∀ i, i < ops.size → listed.getD i false = true) : a = putAll ops vals a0 ops.size := by
  obtain ⟨i1, i2, i3, i4⟩ := putK_at h vals ops.size (Nat.le_refl _)
  have e1 : a.tmps = (putAll ops vals a0 ops.size).tmps := by
    refine Array.ext_getElem? fun t => ?_
    by_cases hx : ∃ i, i < ops.size ∧ dstOf ops i = some t
    · obtain ⟨i, hi, hd⟩ := hx
      rw [hA.done i t hi (hl i hi) hd, i3 i t hi hd]
    · have hx' : ∀ i, i < ops.size → dstOf ops i ≠ some t := fun i hi hd => hx ⟨i, hi, hd⟩
      rw [hA.rest t fun i hi _ => hx' i hi, i4 t hx']
  have e2 : a.defers = (putAll ops vals a0 ops.size).defers := by rw [hA.defers, i1]
  cases a; cases hp : putAll ops vals a0 ops.size
  rw [hp] at e1 e2
  simp_all
theorem invK_steps {P : Program} {ops : Array Oper} {Q : Exit → Act → World → Prop} {a0 : Act} (hh : headOkK ops a0.tmps.size = true)
    (F : Nat → Value → World → Prop) (I : World → Prop) (R : World → World → Prop) (hF : ∀ i v w w', F i v w → R w w' → F i v w')
    (step : ∀ i o, i < ops.size → ops[i]? = some o → ∀ listed vals a w, (∀ e ∈ o.after, Region.binds .any e = true → listed.getD e.on false = true) → Hd F I ops.size listed vals w → ActAt ops ops.size a0 a listed vals →
      ∀ K : Act → World → Prop, (∀ v w', R w w' → I w' → F i v w' → K (a.put o.dst v) w') → if Region.wanted o (yielded ops a.tmps) = true then o.wp P a w K Q else K (a.put o.dst undef) w)
    (fin : ∀ vals w, (∀ i, i < ops.size → F i (vals i) w) → I w → Q .normal (putAll ops vals a0 ops.size) w) :
    ∀ (m : Nat) (listed : Array Bool) (vals : Nat → Value) (a : Act) (w : World), listed.size = ops.size → (∀ k o, k < ops.size → listed.getD k false = true → ops[k]? = some o → ∀ e ∈ o.after, Region.binds .any e = true → listed.getD e.on false = true) → cnt listed ops.size = m → Hd F I ops.size listed vals w → ActAt ops ops.size a0 a listed vals →
      wpAny P .any ops Q m listed a w
  | 0, listed, vals, a, w, hs, hcl, hc, hM, hA => by
    have hl := cnt_zero listed ops.size hc
    rw [actK_eq hh hA hl]
    refine ⟨?_, fin vals w (fun i hi => hM.fact i hi (hl i hi)) hM.inv⟩
    refine List.eq_nil_iff_forall_not_mem.2 fun i hi' => ?_
    obtain ⟨hi1, hi2, _⟩ := mem_ready.1 hi'
    have := hl i hi1
    rw [Array.getD_eq_getD_getElem?] at this hi2
    rw [Array.getElem?_eq_getElem (by omega)] at this hi2
    rw [show listed[i] = true from this] at hi2
    cases hi2
  | m + 1, listed, vals, a, w, hs, hcl, hc, hM, hA => by
    obtain ⟨x, hx, hx1, hx2⟩ := cnt_pos listed ops.size (by omega)
    have hxd : listed.getD x true = false := by
      rw [Array.getD_eq_getD_getElem?] at hx1 ⊢
      rw [Array.getElem?_eq_getElem (by omega)] at hx1 ⊢
      exact hx1
    refine ⟨fun h0 => ?_, fun i hi' => ?_⟩
    · obtain ⟨o, ho, he, _⟩ := headK_at hh hx
      have : x ∈ Region.ready .any ops listed := mem_ready.2 ⟨by omega, hxd, o, ho, fun e hm hb => hx2 _ (he e hm hb)⟩
      rw [h0] at this; cases this
    · obtain ⟨hi1, hi2, o, ho, he⟩ := mem_ready.1 hi'
      have hi3 : listed.getD i false = false := by
        rw [Array.getD_eq_getD_getElem?] at hi2 ⊢
        rw [Array.getElem?_eq_getElem (by omega)] at hi2 ⊢
        exact hi2
      obtain ⟨o', ho', _, hds⟩ := headK_at hh hi1
      rw [ho] at ho'; injection ho' with ho'; subst ho'
      have hdo : dstOf ops i = o.dst := by unfold dstOf; rw [ho]; rfl
      have key : ∀ v w', R w w' → I w' → F i v w' → wpAny P .any ops Q m (listed.setIfInBounds i true) (a.put o.dst v) w' := by
        intro v w' hr hiw hf
        refine invK_steps hh F I R hF step fin m _ (fun j => if j = i then v else vals j) _ _ (by simpa using hs) (fun k o3 hk hl ho3 e3 he3 hb3 => ?_) ?_ ?_ ?_
        · have key : listed.getD e3.on false = true := by
            rw [getD_set _ _ _ (by omega)] at hl
            by_cases e : k = i
            · subst e
              rw [ho] at ho3; injection ho3 with ho3; subst ho3
              exact he e3 he3 hb3
            · rw [if_neg e] at hl
              exact hcl k o3 hk hl ho3 e3 he3 hb3
          rw [getD_set _ _ _ (by omega)]
          by_cases e : e3.on = i
          · rw [if_pos e]
          · rw [if_neg e]; exact key
        · have := cnt_set listed i (by omega) hi3 ops.size
          rw [if_pos hi1] at this; omega
        · refine ⟨hiw, fun j hj hl => ?_⟩
          rw [getD_set _ _ _ (by omega)] at hl
          by_cases e : j = i
          · subst e; simpa using hf
          · rw [if_neg e] at hl
            simp only [if_neg e]
            exact hF _ _ _ _ (hM.fact j hj hl) hr
        · cases hd : o.dst with
          | none =>
            rw [hd] at hdo
            rw [put_none]
            refine ⟨hA.defers, hA.size, fun j d' hj hl hd' => ?_, fun t htt => ?_⟩
            · rw [getD_set _ _ _ (by omega)] at hl
              have e : ¬ j = i := by rintro rfl; rw [hdo] at hd'; cases hd'
              rw [if_neg e] at hl
              simp only [if_neg e]
              exact hA.done j d' hj hl hd'
            · refine hA.rest t fun j hj hl => htt j hj ?_
              rw [getD_set _ _ _ (by omega)]
              by_cases e : j = i
              · rw [if_pos e]
              · rw [if_neg e]; exact hl
          | some d =>
            rw [hd] at hdo
            have hsd : d < a.tmps.size := by rw [hA.size]; exact (hds d hd).1
            refine ⟨hA.defers, by simpa [Act.put] using hA.size, fun j d' hj hl hd' => ?_, fun t htt => ?_⟩
            · rw [put_at _ _ _ _ hsd]
              rw [getD_set _ _ _ (by omega)] at hl
              by_cases e : j = i
              · subst e
                rw [hdo] at hd'; injection hd' with hd'
                simp [hd']
              · rw [if_neg e] at hl
                rw [if_neg (by rintro rfl; exact e (dstK_inj hh hj hi1 hd' hdo)), if_neg e]
                exact hA.done j d' hj hl hd'
            · have hti : t ≠ d := by
                rintro rfl
                exact htt i hi1 (by rw [getD_set _ _ _ (by omega), if_pos rfl]) hdo
              rw [put_at _ _ _ _ hsd, if_neg hti]
              refine hA.rest t fun j hj hl => htt j hj ?_
              rw [getD_set _ _ _ (by omega)]
              by_cases e : j = i
              · rw [if_pos e]
              · rw [if_neg e]; exact hl
      have hst := step i o hi1 ho listed vals a w he hM hA _ key
      unfold wpOp
      rw [ho]
      show if Region.wanted o (yielded ops a.tmps) = true then _ else _
      by_cases hw : Region.wanted o (yielded ops a.tmps) = true
      · rw [if_pos hw] at hst ⊢
        exact .inl hst
      · rw [if_neg hw] at hst ⊢
        exact hst
/-- The rule. -/
theorem wp_invK {P : Program} {id : Nat} {ops : Array Oper} {Q : Exit → Act → World → Prop} {a0 : Act} {W1 : World} (hm : P.follows .mixedOrders = true) (hh : headOkK ops a0.tmps.size = true)
    (F : Nat → Value → World → Prop) (I : World → Prop) (R : World → World → Prop) (hF : ∀ i v w w', F i v w → R w w' → F i v w') (hI : I W1.drew)
    (step : ∀ i o, i < ops.size → ops[i]? = some o → ∀ listed vals a w, (∀ e ∈ o.after, Region.binds .any e = true → listed.getD e.on false = true) → Hd F I ops.size listed vals w → ActAt ops ops.size a0 a listed vals →
      ∀ K : Act → World → Prop, (∀ v w', R w w' → I w' → F i v w' → K (a.put o.dst v) w') → if Region.wanted o (yielded ops a.tmps) = true then o.wp P a w K Q else K (a.put o.dst undef) w)
    (fin : ∀ vals w, (∀ i, i < ops.size → F i (vals i) w) → I w → Q .normal (putAll ops vals a0 ops.size) w) : (Code.region id ops true).wp P Q a0 W1 := by
  refine wp_region_any hm ?_
  have hz : ∀ i, (Array.replicate ops.size false).getD i false = false := by
    intro i
    rw [Array.getD_eq_getD_getElem?]
    by_cases h : i < ops.size
    · simp [h]
    · simp [h]
  have hc : ∀ k, cnt (Array.replicate ops.size false) k = k := by
    intro k
    induction k with
    | zero => rfl
    | succ k ih => simp only [cnt, ih, hz]; simp
  exact invK_steps (Q := Q) (a0 := a0) hh F I R hF step fin ops.size (Array.replicate ops.size false) (fun _ => undef) a0 W1.drew (by simp) (fun k _ _ h => (by rw [hz] at h; cases h)) (hc _)
    ⟨hI, fun i _ h => (by rw [hz] at h; cases h)⟩ ⟨rfl, rfl, fun i _ _ h => (by rw [hz] at h; cases h), fun _ _ => rfl⟩
/-- The rule, with the region's size as a numeral. -/
theorem wp_invN {P : Program} {id : Nat} {ops : Array Oper} {Q : Exit → Act → World → Prop} {a0 : Act} {W1 : World} (n : Nat) (hn : ops.size = n) (hm : P.follows .mixedOrders = true) (hh : headOkK ops a0.tmps.size = true)
    (F : Nat → Value → World → Prop) (I : World → Prop) (R : World → World → Prop) (hF : ∀ i v w w', F i v w → R w w' → F i v w') (hI : I W1.drew)
    (step : ∀ i o, i < n → ops[i]? = some o → ∀ listed vals a w, (∀ e ∈ o.after, Region.binds .any e = true → listed.getD e.on false = true) → Hd F I n listed vals w → ActAt ops n a0 a listed vals →
      ∀ K : Act → World → Prop, (∀ v w', R w w' → I w' → F i v w' → K (a.put o.dst v) w') → if Region.wanted o (yielded ops a.tmps) = true then o.wp P a w K Q else K (a.put o.dst undef) w)
    (fin : ∀ vals w, (∀ i, i < n → F i (vals i) w) → I w → Q .normal (putAll ops vals a0 n) w) : (Code.region id ops true).wp P Q a0 W1 := by
  subst hn
  exact wp_invK hm hh F I R hF hI step fin
/-- An operation without a guard is wanted; one with a guard, where that yields what it wants. -/
theorem wantedN {o : Oper} {y : Nat → Option Bool} (h : o.guard = none) : Region.wanted o y = true := by unfold Region.wanted; rw [h]
theorem wantedG {ops : Array Oper} {o : Oper} {t : Array Value} {g : Nat} {b c : Bool} {d : Nat} (h : o.guard = some (g, b)) (hd : dstOf ops g = some d) (ht : t[d]? = some (.bool c)) : Region.wanted o (yielded ops t) = (c == b) := by
  unfold Region.wanted; rw [h]
  show (yielded ops t g == some b) = (c == b)
  have : yielded ops t g = some c := by
    unfold yielded
    rw [show (ops[g]?).bind (·.dst) = some d from hd]
    simp only [Option.bind_some, ht]
  rw [this]; rfl
theorem wantedU {ops : Array Oper} {o : Oper} {t : Array Value} {g : Nat} {b : Bool} {d : Nat} (h : o.guard = some (g, b)) (hd : dstOf ops g = some d) (ht : t[d]? = some undef) : Region.wanted o (yielded ops t) = false := by
  unfold Region.wanted; rw [h]
  show (yielded ops t g == some b) = false
  have : yielded ops t g = none := by
    unfold yielded
    rw [show (ops[g]?).bind (·.dst) = some d from hd]
    simp only [Option.bind_some, ht]
    rfl
  rw [this]; rfl
end Go.Proofs.YtfojjecnmfkcfaaGreat
