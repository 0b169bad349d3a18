/- Arguments that are lists of numbers, opened. -/
import Derived.Test.YtfojjecnmfkcfaaP11
namespace Go.Proofs.Ytfojjecnmfkcfaa
open Go.ChangeShapes Go.WideShapes Go.ChangeAt Go.RowKit Go.Joins
set_option linter.unusedVariables false
variable {H : Type} {enc : TypeId × Value → H} {W : World} {base : Nat} {spare : Nat → Bool} {held : Bool}
theorem cellsI64 : Try.prog.cellsOf 3 = 1 := by kernel_rfl
set_option maxRecDepth 100000 in
theorem open_list {r : Reach} {b0 : Nat} {v : Value} {d : DataW H} {p : List MemPlace} (hv : Value.okWide Try.prog W r b0 45 v) (h : DataW.Trod enc Try.prog W base spare held 45 v d p) :
    ∃ (A : Option Addr) (c : Nat) (zs : List Int), v = .slice A zs.length c ∧ Came W A zs.length c (ints zs) := by
  obtain ⟨a0, len, cap, rfl⟩ := okWide_slice Try.underlying45 hv
  obtain ⟨fuel, hf⟩ := h
  rcases open_ints Try.underlying45 Try.underlying3 cellsI64 hf with ⟨h1, h2⟩ | ⟨a, n, c, zs, h1, _, hn, _, hl, h2, hc, hw⟩
  · simp only [Value.cells, List.cons.injEq, and_true] at h1
    rw [h1]
    exact ⟨none, 0, [], rfl, Nat.le_refl _, Rd.nil⟩
  · simp only [Value.cells, List.cons.injEq, and_true] at h1
    rw [h1]
    have hle : n ≤ zs.length := by rw [hl]; split <;> omega
    have hlen : (zs.take n).length = n := by rw [List.length_take]; omega
    refine ⟨some a, c, zs.take n, by rw [hlen], by omega, fun hne => ?_⟩
    have h0 : 0 < n := by
      rcases Nat.eq_zero_or_pos n with e | e
      · subst e; simp [ints] at hne
      · exact e
    obtain ⟨e1, e2⟩ := add_spot (hc 0 (by omega))
    refine ⟨a.block, a.off, by rw [← e1], e2, fun j u hu => ?_⟩
    have hj : j < n := by
      have h9 := (List.getElem?_eq_some_iff.1 hu).1
      unfold ints at h9
      rw [List.length_map, hlen] at h9
      exact h9
    have hcj := hc j (by omega)
    rw [e1, addr_add] at hcj
    rw [hcj]
    have hu2 : (ints (zs.take n))[j]? = some (.int .i64 (zs.getD j 0)) := by
      simp only [ints, List.getElem?_map, List.getElem?_take, hj, if_true]
      rw [List.getElem?_eq_getElem (show j < zs.length by omega), List.getD_eq_getElem?_getD, List.getElem?_eq_getElem (show j < zs.length by omega)]; rfl
    rw [hu2] at hu
    exact hu
end Go.Proofs.Ytfojjecnmfkcfaa
