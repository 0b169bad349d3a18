/- list: what houses pay, in a block of its own, on a desk with at most six houses. -/
import Derived.Test.YtfojjecnmfkcfaaBid
import Derived.Laws.CopyOwn
namespace Go.Proofs.Ytfojjecnmfkcfaa
open Go.RowKit
set_option linter.unusedVariables false
theorem infoIntL : (Try.prog.info? 3).map (fun i => (i.zero, i.size, i.bytes)) = some (some (.int .i64 0), 1, 8) := by kernel_rfl
theorem sizeIntL : (Try.prog.info? 3).map (·.size) = some 1 := by kernel_rfl
def zerosA (n : Nat) : Array Value := (List.replicate n (Value.int .i64 0)).toArray
theorem made_ints (n : Nat) (W : World) (hn : n ≤ 1000000) : (Instr.makeSlice 45 (.int .i64 (n : Int)) (.int .i64 (n : Int))).run Try.prog W = .ok (.slice (some ⟨W.heap.size, 0, none⟩) n n) (W.alloc (.cells (zerosA n) 3)) := by
  obtain ⟨i0, hi, hz0, hz1, hz2⟩ := info_parts infoIntL
  have h := run_make (P := Try.prog) (w := W) 45 3 i0 (.int .i64 0) Try.underlying45 hi hz0 .i64 .i64 n n (by omega) (by omega) (by rw [hz2]; omega) (by omega)
  simp only [Int.toNat_natCast, hz1, Nat.mul_one] at h
  have e : madeCells (Value.int .i64 0).cells n = zerosA n := by
    apply Array.ext'
    show (madeCells #[Value.int .i64 0] n).toList = _
    rw [toList_madeCells_one]; rfl
  rw [h, e]
/-- A block whose first cells are these is an owned row. -/
theorem own_of_block {w : World} {base g : Nat} {e : TypeId} {n : Nat} {xs : List Value} (hb : base ≤ g) (hg : w.heap[g]? = some (.cells xs.toArray e (0, 0))) (hn : xs.length = n) (hm : n ≤ maxLen) : w.ownsRow base e 1 (.slice (some ⟨g, 0, none⟩) n n) n xs :=
  ⟨by rw [hn, Nat.mul_one], .inr ⟨g, n, xs.toArray, rfl, hb, hg, Nat.le_refl _, hm, by simp [hn], by simp [← hn]⟩⟩
set_option maxHeartbeats 400000 in
theorem list_any (g : Nat) (p : Int) (A : Option Addr) (n c : Nat) (ps : List Int) (w : World) (hd : Desk w g p A n c ps) (hn : n ≤ 6) :
    Calls Try.prog 98 #[.pointer (some ⟨g, 0, none⟩)] w (RetOwn 3 1 n (ints (ps.take n)) w) := by
  have hh := hd.houses
  have hgl := hd.lt
  have hmk := fun W => made_ints n W (by omega)
  have hcs : (ints (ps.take n)).length = n := by rw [ints_length, List.length_take, hd.len]; omega
  have Hcs := Lib.hid hcs
  clear hcs
  go_enter Try.func98, Try.ntmps98
  go_wp2_with (with_reducible refine wpList_copy_splice rfl _ _ 45 45 rfl 3 Try.underlying45 sizeIntL _ _ n n 6 6 rfl rfl w.heap.size 0 (List.replicate n (Value.int .i64 0)) 3 (heap_alloc_new w _) (ints (ps.take n)) ?_ ?_ ?_ (ints_one _) w.heap.size w (below_new w _) (Nat.le_refl _) ?_)
  · rw [Hcs.out]; exact (Nat.min_eq_right hn).symm
  · intro _
    intro j v hv
    simp only [ints, List.getElem?_map, Option.map_eq_some_iff] at hv
    obtain ⟨u, hu, rfl⟩ := hv
    rw [List.getElem?_take] at hu
    split at hu
    · exact hd.pays j u hu
    · cases hu
  · rw [Hcs.out]; simp
  · intro w2 HG hB
    have hsp : splice (List.replicate n (Value.int .i64 0)) 0 (ints (ps.take n)) = ints (ps.take n) := by
      unfold splice
      rw [List.take_zero, List.nil_append, List.drop_eq_nil_of_le (by rw [Hcs.out]; simp), List.append_nil]
    have hO : w2.ownsRow w.heap.size 3 1 (.slice (some ⟨w.heap.size, 0, none⟩) n n) n (ints (ps.take n)) := by
      have h := HG.out
      rw [hsp] at h
      exact own_of_block (Nat.le_refl _) h Hcs.out (by simp only [maxLen]; omega)
    have HO := Lib.hid hO
    clear hO hsp
    go_wp2_with fail
    go_ret
    exact ⟨_, rfl, HO.out, hB⟩
end Go.Proofs.Ytfojjecnmfkcfaa
