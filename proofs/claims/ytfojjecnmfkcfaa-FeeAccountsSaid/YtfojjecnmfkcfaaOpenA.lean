/- Arguments that are accounts, opened. -/
import Derived.Test.YtfojjecnmfkcfaaP11
namespace Go.Proofs.Ytfojjecnmfkcfaa
open Go.ChangeShapes Go.WideShapes Go.ChangeAt Go.RowKit Go.Joins
set_option linter.unusedVariables false
variable {H : Type} {enc : TypeId × Value → H} {W : World} {base : Nat} {spare : Nat → Bool} {held : Bool}
theorem cellsEntry : Try.prog.cellsOf 80 = 2 := by kernel_rfl
theorem cellsAccount : Try.prog.cellsOf 76 = 4 := by kernel_rfl
theorem intFields2 {f0 f1 : Field} {P : Program} (h0 : P.underlying f0.type = some (.int .i64)) (h1 : P.underlying f1.type = some (.int .i64)) : ∀ (j : Nat) (f : Field), #[f0, f1][j]? = some f → P.underlying f.type = some (.int .i64) := by
  intro j f h
  match j with
  | 0 => simp at h; subst h; exact h0
  | 1 => simp at h; subst h; exact h1
  | j + 2 => simp at h
set_option maxRecDepth 100000 in
theorem open_account {r : Reach} {b0 : Nat} {v : Value} {d : DataW H} {p : List MemPlace} (hv : Value.okWide Try.prog W r b0 76 v) (h : DataW.Trod enc Try.prog W base spare held 76 v d p) :
    ∃ (A : Option Addr) (c : Nat) (B : Option Addr) (e : Nat) (g t : Int) (l m : List (Int × Int)), v = .agg #[.slice A l.length c, .slice B m.length e, .int .i64 g, .int .i64 t] ∧ Came W A l.length c (pairs l) ∧ Came W B m.length e (pairs m) := by
  obtain ⟨v0, v1, v2, v3, y0, y1, y2, y3, k, rfl, _, _, h0, h1, h2, h3⟩ := open_agg4 Try.underlying76 (by kernel_rfl) cellsAccount hv h
  obtain ⟨z2, e2, _, _⟩ := DataW.trod_int Try.underlying3 h2
  obtain ⟨z3, e3, _, _⟩ := DataW.trod_int Try.underlying3 h3
  obtain ⟨A, c, l, e0, r0⟩ := came_pairs (open_rows Try.underlying74 Try.underlying80 (by kernel_rfl) cellsEntry (intFields2 Try.underlying3 Try.underlying3) h0)
  obtain ⟨B, e, m, e1, r1⟩ := came_pairs (open_rows Try.underlying74 Try.underlying80 (by kernel_rfl) cellsEntry (intFields2 Try.underlying3 Try.underlying3) h1)
  injection e0 with e0
  injection e1 with e1
  injection e2 with e2
  injection e3 with e3
  exact ⟨A, c, B, e, z2, z3, l, m, by rw [e0, e1, e2, e3], r0, r1⟩
end Go.Proofs.Ytfojjecnmfkcfaa
