/- Arguments that are accounts, opened. -/
import Derived.Test.YtfojjecnmfkcfaaGreatP11
namespace Go.Proofs.YtfojjecnmfkcfaaGreat
open Go.ChangeShapes Go.WideShapes Go.ChangeAt Go.RowKit Go.Joins
set_option linter.unusedVariables false
variable {H : Type} {enc : TypeId × Value → H} {W : World} {base : Nat} {spare : Nat → Bool} {held : Bool}
theorem cellsEntry : Tryz.prog.cellsOf 39 = 2 := by kernel_rfl
theorem cellsAccount : Tryz.prog.cellsOf 31 = 4 := by kernel_rfl
theorem intFields2 {f0 f1 : Field} {P : Program} (h0 : P.underlying f0.type = some (.int .i64)) (h1 : P.underlying f1.type = some (.int .i64)) : ∀ (j : Nat) (f : Field), #[f0, f1][j]? = some f → P.underlying f.type = some (.int .i64) := by
  intro j f h
  match j with
  | 0 => simp at h; subst h; exact h0
  | 1 => simp at h; subst h; exact h1
  | j + 2 => simp at h
set_option maxRecDepth 100000 in
theorem open_account {r : Reach} {b0 : Nat} {v : Value} {d : DataW H} {p : List MemPlace} (hv : Value.okWide Tryz.prog W r b0 31 v) (h : DataW.Trod enc Tryz.prog W base spare held 31 v d p) :
    ∃ (A : Option Addr) (c : Nat) (B : Option Addr) (e : Nat) (g t : Int) (l m : List (Int × Int)), v = .agg #[.slice A l.length c, .slice B m.length e, .int .i64 g, .int .i64 t] ∧ Came W A l.length c (pairs l) ∧ Came W B m.length e (pairs m) := by
  obtain ⟨v0, v1, v2, v3, y0, y1, y2, y3, k, rfl, _, _, h0, h1, h2, h3⟩ := open_agg4 Tryz.underlying31 (by kernel_rfl) cellsAccount hv h
  obtain ⟨z2, e2, _, _⟩ := DataW.trod_int Tryz.underlying3 h2
  obtain ⟨z3, e3, _, _⟩ := DataW.trod_int Tryz.underlying3 h3
  obtain ⟨A, c, l, e0, r0⟩ := came_pairs (open_rows Tryz.underlying29 Tryz.underlying39 (by kernel_rfl) cellsEntry (intFields2 Tryz.underlying3 Tryz.underlying3) h0)
  obtain ⟨B, e, m, e1, r1⟩ := came_pairs (open_rows Tryz.underlying29 Tryz.underlying39 (by kernel_rfl) cellsEntry (intFields2 Tryz.underlying3 Tryz.underlying3) h1)
  injection e0 with e0
  injection e1 with e1
  injection e2 with e2
  injection e3 with e3
  exact ⟨A, c, B, e, z2, z3, l, m, by rw [e0, e1, e2, e3], r0, r1⟩
end Go.Proofs.YtfojjecnmfkcfaaGreat
