/- The examples' values: Tariff, Three, Account. -/
import Derived.Test.YtfojjecnmfkcfaaSort2
import Derived.Test.YtfojjecnmfkcfaaAcct
namespace Go.Proofs.Ytfojjecnmfkcfaa
open Go.RowKit
set_option linter.unusedVariables false
def tarX : List (Int × Int) := [(1000, 50), (3000, 30)]
def threeX : List (Int × Int × Int) := [(5, 0, 100), (3, 0, 100), (1, 0, 100)]
def chX : List (Int × Int) := [(0, 100), (20, 80)]
def payX : List (Int × Int) := [(5, 60), (25, 90)]
theorem Lst.new (w : World) (l : List Int) (t : TypeId) {H : Nat} (hH : w.heap.size = H) : Lst (w.alloc (.cells (ints l).toArray t)) H l := by
  subst hH
  refine ⟨by simp, fun j u hu => ?_, fun o => by simp⟩
  have := (Rd.new w (ints l) t rfl).news j (.int .i64 u) (by simp [ints, hu])
  rwa [addr_add, Nat.zero_add] at this
theorem Lst.rd {w : World} {b : Nat} {d : List Int} (h : Lst w b d) : Rd w w.heap.size (some ⟨b, 0, none⟩) (ints d) := fun _ => ⟨b, 0, rfl, h.lt, fun j u hu => by
  simp only [ints, List.getElem?_map, Option.map_eq_some_iff] at hu
  obtain ⟨x, hx, rfl⟩ := hu
  rw [Nat.zero_add]
  exact h.cells j x hx⟩
/-- The call hands back a row of its own, that may be written. -/
def NewRow (d : List Int) (n : Nat) (W : World) (e : Ending) (w' : World) : Prop := ∃ b, e = .returned (.slice (some ⟨b, 0, none⟩) n n) ∧ W.heap.size ≤ b ∧ Lst w' b d ∧ Below W.heap.size W w'
theorem Tariff_any (w : World) : Calls Try.prog 79 #[] w (NewRow [1000, 50, 3000, 30] 2 w) := by
  go_enter Try.func79, Try.ntmps79
  go_wp2_with fail
  go_ret
  exact ⟨w.heap.size, rfl, Nat.le_refl _, Lst.new w [1000, 50, 3000, 30] _ rfl, by go_grown⟩
def NewBill (p : Int) (d : List Int) (n : Nat) (W : World) (e : Ending) (w' : World) : Prop := ∃ b, e = .returned (.agg #[.int .i64 p, .slice (some ⟨b, 0, none⟩) n n]) ∧ W.heap.size ≤ b ∧ Lst w' b d ∧ Below W.heap.size W w'
theorem Three_any (w : World) : Calls Try.prog 80 #[] w (NewBill 100 [5, 0, 100, 3, 0, 100, 1, 0, 100] 3 w) := by
  go_enter Try.func80, Try.ntmps80
  go_wp2_with fail
  refine bodyPost_ret (v := .agg #[.int .i64 100, .slice (some ⟨w.heap.size + 1, 0, none⟩) 3 3]) (by simp [results, Try.results80, go_sem]) rfl ⟨w.heap.size + 1, rfl, by omega, ?_, by go_grown⟩
  exact Lst.new (w.alloc _) [5, 0, 100, 3, 0, 100, 1, 0, 100] _ (by simp)
def NewAcc (W : World) (e : Ending) (w' : World) : Prop := ∃ b d, e = .returned (accV (some ⟨b, 0, none⟩) 2 2 (some ⟨d, 0, none⟩) 2 2 10 5) ∧ W.heap.size ≤ b ∧ W.heap.size ≤ d ∧ Lst w' b [0, 100, 20, 80] ∧ Lst w' d [5, 60, 25, 90] ∧ Below W.heap.size W w'
theorem Account_any (w : World) : Calls Try.prog 81 #[] w (NewAcc w) := by
  go_enter Try.func81, Try.ntmps81
  go_wp2_with fail
  refine bodyPost_ret (v := accV (some ⟨w.heap.size + 1, 0, none⟩) 2 2 (some ⟨w.heap.size + 1 + 1, 0, none⟩) 2 2 10 5) (by simp [results, Try.results81, go_sem, accV]) rfl ⟨w.heap.size + 1, w.heap.size + 1 + 1, rfl, by omega, by omega, ?_, ?_, by go_grown⟩
  · exact (Lst.new (w.alloc _) [0, 100, 20, 80] _ (by simp)).below (below_new _ _)
  · exact Lst.new ((w.alloc _).alloc _) [5, 60, 25, 90] _ (by simp)
end Go.Proofs.Ytfojjecnmfkcfaa
