/- with: a desk with another value for a house, at most six houses that are right. -/
import Derived.Test.YtfojjecnmfkcfaaList
namespace Go.Proofs.Ytfojjecnmfkcfaa
open Go.RowKit
set_option linter.unusedVariables false
theorem run_copy_full {P : Program} (w : World) (dT sT ty elem : TypeId) (g n size dCap sCap : Nat) (a : Addr) (cur : Array Value) (t : TypeId) (cs : List Value)
    (hu : P.underlying dT = some (.slice elem)) (hs : (P.info? elem).map (·.size) = some size)
    (hg : w.heap[g]? = some (.cells cur t (0, 0))) (hn : cs.length = n * size) (hsrc : ∀ j v, cs[j]? = some v → w.cell? (a.add j) = some v) (hfit : cur.size = n * size) (h1 : ∀ v ∈ cs, v.oneCell' = true) :
    (Builtin.copy_ #[dT, sT] ty #[.slice (some ⟨g, 0, none⟩) n dCap, .slice (some a) n sCap]).run P w = .ok (goInt n) (w.setRow g cs.toArray) := by
  have hl := run_loadCells_list (P := P) w a cs hsrc
  have hst := run_storeCells_at P g 0 t cs 0 cur w hg (by simp; omega) h1
  rw [hn] at hl
  have e : (cur.toList.take (0 + 0) ++ cs ++ cur.toList.drop (0 + 0 + cs.length)).toArray = cs.toArray := by
    rw [List.drop_eq_nil_of_le (by simp; omega)]; simp
  rw [e] at hst
  cases hq : P.info? elem with
  | none => simp [hq] at hs
  | some i =>
    have hi : i.size = size := by simpa [hq] using hs
    simp [Builtin.copy_, run_underlying hu, Builtin.lenOf, Builtin.firstCells, sizeOf, typeInfo, hq, hi, hl, hst]
theorem wpList_copy_full {P : Program} {w : World} {ops : Array Oper} {rest : List Oper} {o : Oper} {a : Act} {Q : Exit → Act → World → Prop} (hgd : o.guard = none) (d s : Operand) (dT sT : TypeId)
    (ho : o.op = .call { callee := .builtin .copy, args := #[d, s], argTypes := #[dT, sT] }) (elem : TypeId) (size : Nat) (hu : P.underlying dT = some (.slice elem)) (hsz : (P.info? elem).map (·.size) = some size)
    (g n dCap sCap : Nat) (ad : Addr) (hd : a.eval d = .slice (some ⟨g, 0, none⟩) n dCap) (hs : a.eval s = .slice (some ad) n sCap)
    (cur : Array Value) (t : TypeId) (hg : w.heap[g]? = some (.cells cur t (0, 0))) (cs : List Value) (hn : cs.length = n * size) (hsrc : ∀ j v, cs[j]? = some v → w.cell? (ad.add j) = some v) (hfit : cur.size = n * size) (h1 : ∀ v ∈ cs, v.oneCell' = true)
    (h : ∀ w', Hid (w'.heap[g]? = some (.cells cs.toArray t (0, 0))) → Hid (w.grownBy w' (some g)) → wpList P ops Q rest (a.put o.dst (goInt n)) w') : wpList P ops Q (o :: rest) a w := by
  refine wpList_plain hgd fun K hK => ?_
  have hrun := run_copy_full (P := P) w dT sT o.type elem g n size dCap sCap ad cur t cs hu hsz hg hn hsrc hfit h1
  unfold Oper.wp
  simp [execOp, ho, resolve, invoke, builtin, hd, hs, hrun, Result.andThen]
  exact hK _ _ (h _ (setRow_heap w g cur _ t _ hg) ⟨rfl, rfl, rfl, by simp [World.setRow], fun k hk hne => setRow_other w g k _ (fun e => hne (by rw [e]))⟩)
theorem infoHouseW : (Try.prog.info? 65).map (fun i => (i.zero, i.size, i.bytes)) = some (some (.agg #[.int .i64 0, .int .i64 0, .int .i64 0]), 3, 24) := by kernel_rfl
theorem sizeHouseW : (Try.prog.info? 65).map (·.size) = some 3 := by kernel_rfl
def zerosH (n : Nat) : Array Value := madeCells #[.int .i64 0, .int .i64 0, .int .i64 0] (n * 3)
theorem zerosH_size (n : Nat) : (zerosH n).size = n * 3 := by unfold zerosH; simp [madeCells]
theorem made_houses (n : Nat) (W : World) (hn : n ≤ 1000000) : (Instr.makeSlice 37 (.int .i64 (n : Int)) (.int .i64 (n : Int))).run Try.prog W = .ok (.slice (some ⟨W.heap.size, 0, none⟩) n n) (W.alloc (.cells (zerosH n) 65)) := by
  obtain ⟨i0, hi, hz0, hz1, hz2⟩ := info_parts infoHouseW
  have h := run_make (P := Try.prog) (w := W) 37 65 i0 _ Try.underlying37 hi hz0 .i64 .i64 n n (by omega) (by omega) (by rw [hz2]; omega) (by omega)
  simp only [Int.toNat_natCast, hz1] at h
  exact h
/-- The houses with another value for one of them. -/
def revalue (hs : List (Int × Int × Int)) (j : Nat) (v : Int) : List (Int × Int × Int) := hs.set j (v, (hs.getD j (0, 0, 0)).2.1, (hs.getD j (0, 0, 0)).2.2)
theorem revalue_length (hs : List (Int × Int × Int)) (j : Nat) (v : Int) : (revalue hs j v).length = hs.length := by simp [revalue]
theorem trips_revalue (hs : List (Int × Int × Int)) : ∀ (j : Nat) (v : Int), j < hs.length → trips (revalue hs j v) = (trips hs).set (j * 3) (.int .i64 v) := by
  induction hs with
  | nil => intro j v h; simp at h
  | cons a hs ih =>
    intro j v h
    cases j with
    | zero => simp [revalue, trips]
    | succ j =>
      have e := ih j v (by simpa using h)
      have e2 : revalue (a :: hs) (j + 1) v = a :: revalue hs j v := by simp [revalue]
      rw [e2]
      show [_, _, _] ++ trips (revalue hs j v) = ([_, _, _] ++ trips hs).set _ _
      rw [e, show (j + 1) * 3 = j * 3 + 3 from by omega]
      rfl
theorem Desk.new (W : World) (p : Int) (A : Option Addr) (n c : Nat) (t : TypeId) {H : Nat} (hH : W.heap.size = H) :
    Desk (W.alloc (.cells #[.int .i64 p, .slice A n c, .int .i64 0, .int .i64 0, .int .i64 0, .int .i64 0, .int .i64 0, .int .i64 0] t)) H p A n c [0, 0, 0, 0, 0, 0] := by
  subst hH
  refine ⟨by simp, by rw [World.cell?_alloc_new]; rfl, by rw [World.cell?_alloc_new]; rfl, rfl, fun i u hu => ?_, fun o => by simp⟩
  rw [World.cell?_alloc_new]
  match i with
  | 0 | 1 | 2 | 3 | 4 | 5 => simp at hu; subst hu; rfl
  | i + 6 => simp at hu
def WithPost (p : Int) (hs : List (Int × Int × Int)) (W : World) (e : Ending) (w' : World) : Prop :=
  ∃ g A, e = .returned (.pointer (some ⟨g, 0, none⟩)) ∧ W.heap.size ≤ g ∧ Desk w' g p A hs.length hs.length [0, 0, 0, 0, 0, 0] ∧ Rd w' g A (trips hs) ∧ Below W.heap.size W w'
set_option maxHeartbeats 1000000 in
theorem with_any (g : Nat) (p : Int) (A : Option Addr) (c : Nat) (hs : List (Int × Int × Int)) (ps : List Int) (j : Nat) (v : Int) (w : World) (hd : Desk w g p A hs.length c ps) (hr : Rd w w.heap.size A (trips hs)) (hl : hs.length ≤ 6) (hj : j < hs.length) :
    Calls Try.prog 96 #[.pointer (some ⟨g, 0, none⟩), .int .i64 j, .int .i64 v] w (WithPost p (revalue hs j v) w) := by
  have hh := hd.houses
  have hpe := hd.pence
  have hgl := hd.lt
  have hmk := fun W => made_houses hs.length W (by omega)
  obtain ⟨b, off, rfl, hbb, _⟩ := hr.trip hj
  have HN := Lib.hid (hr.alloc (.cells (zerosH hs.length) 65)).news
  have hjl : (j : Int) < hs.length := by omega
  have hj0 : (0 : Int) ≤ (j : Int) := by omega
  go_enter Try.func96, Try.ntmps96
  go_wp2_with (with_reducible refine wpList_copy_full rfl _ _ 37 37 rfl 65 3 Try.underlying37 sizeHouseW w.heap.size hs.length _ _ _ rfl rfl (zerosH hs.length) 65 (heap_alloc_new w _) (trips hs) (trips_length hs) HN.out (zerosH_size _) (trips_one hs) ?_)
  intro w2 HG HB
  have hs2 := HB.out.size
  simp at hs2
  have hblk : w2.heap[w.heap.size]? = some (.cells (trips hs).toArray 65 (0, 0)) := HG.out
  have hcell : w2.cell? ⟨w.heap.size, j * 3, none⟩ = some (.int .i64 hs[j].1) := by
    rw [cell_of_row w2 w.heap.size (j * 3) _ _ _ hblk]
    simpa using (trips_get hs j hj).1
  have hfz : w2.frozen? ⟨w.heap.size, j * 3, none⟩ = false := by simp [World.frozen?, hblk]
  have hB2 : Below w.heap.size w w2 := (below_new w _).grown HB.out (by simp) (fun k hk => by injection hk with hk; omega)
  have hd2 := hd.below hB2
  have hh2 := hd2.houses
  have hpe2 := hd2.pence
  have hblk3 : (w2.setCell ⟨w.heap.size, j * 3, none⟩ (.int .i64 v)).heap[w.heap.size]? = some (.cells (trips (revalue hs j v)).toArray 65 (0, 0)) := by
    rw [trips_revalue hs j v hj]
    simp [World.setCell, Array.getElem?_modify, hblk]
  have Hblk3 := Lib.hid hblk3
  have hlen := revalue_length hs j v
  have Hlen := Lib.hid hlen
  clear hblk hblk3 hlen hmk
  go_wp2_with fail
  go_ret
  refine ⟨w2.heap.size, some ⟨w.heap.size, 0, none⟩, by simp, by omega, ?_, ?_, ?_⟩
  · rw [Hlen.out]
    exact Desk.new _ _ _ _ _ _ (by simp)
  · intro _
    refine ⟨w.heap.size, 0, rfl, by omega, fun i u hu => ?_⟩
    rw [World.cell?_alloc_lt _ _ _ (by simp [World.setCell]; omega), cell_of_row _ w.heap.size _ _ _ _ Hblk3.out]
    simpa using hu
  · exact (hB2.setCell (p := ⟨w.heap.size, j * 3, none⟩) (Nat.le_refl _) _).alloc (by simp [World.setCell]; omega) _
end Go.Proofs.Ytfojjecnmfkcfaa
