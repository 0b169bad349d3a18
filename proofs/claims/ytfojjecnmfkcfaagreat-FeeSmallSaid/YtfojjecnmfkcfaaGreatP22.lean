/- Facts on values. -/
import Derived.Test.YtfojjecnmfkcfaaGreatP21
import Derived.Test.YtfojjecnmfkcfaaGreatP19
import Derived.Test.YtfojjecnmfkcfaaGreatP13
namespace Go.Proofs.YtfojjecnmfkcfaaGreat
open Go.RowKit
set_option linter.unusedVariables false
def FL (l : List (Value → World → Prop)) (i : Nat) (v : Value) (w : World) : Prop := match l[i]? with | some p => p v w | none => True
def Stb (g : Nat) (p : Value → World → Prop) : Prop := ∀ v w w', p v w → w.grownBy w' (some g) → p v w'
theorem FL.keep {g : Nat} {l : List (Value → World → Prop)} (h : ∀ p ∈ l, Stb g p) (i : Nat) (v : Value) (w w' : World) (H : FL l i v w) (hg : w.grownBy w' (some g)) : FL l i v w' := by
  unfold FL at H ⊢
  cases hl : l[i]? with
  | none => trivial
  | some p =>
    rw [hl] at H
    exact h p (List.mem_of_getElem? hl) v w w' H hg
def PEq (x : Value) (v : Value) (_ : World) : Prop := v = x
def PNum (a b : Int) (v : Value) (_ : World) : Prop := ∃ d : Int, v = .int .i64 d ∧ a ≤ d ∧ d ≤ b
def PEnt (a b c d : Int) (v : Value) (_ : World) : Prop := ∃ x y : Int, v = .agg #[.int .i64 x, .int .i64 y] ∧ a ≤ x ∧ x ≤ b ∧ c ≤ y ∧ y ≤ d
def PSl (g : Nat) (a b c d : Int) (v : Value) (w : World) : Prop := ∃ (x y : Int) (k : Nat), v = .slice (some ⟨k, 0, none⟩) 1 1 ∧ a ≤ x ∧ x ≤ b ∧ c ≤ y ∧ y ≤ d ∧ g < k ∧ k < w.heap.size ∧ w.cell? ⟨k, 0, none⟩ = some (.int .i64 x) ∧ w.cell? ⟨k, 1, none⟩ = some (.int .i64 y)
theorem stb_eq (g : Nat) (x : Value) : Stb g (PEq x) := fun _ _ _ h _ => h
theorem stb_num (g : Nat) (a b : Int) : Stb g (PNum a b) := fun _ _ _ h _ => h
theorem stb_ent (g : Nat) (a b c d : Int) : Stb g (PEnt a b c d) := fun _ _ _ h _ => h
theorem stb_sl (g : Nat) (a b c d : Int) : Stb g (PSl g a b c d) := by
  rintro v w w' ⟨x, y, k, e, h1, h2, h3, h4, h5, h6, c0, c1⟩ hg
  exact ⟨x, y, k, e, h1, h2, h3, h4, h5, Nat.lt_of_lt_of_le h6 hg.size, (World.grownBy.cell_far hg ⟨k, 0, none⟩ h6 (by intro e; injection e with e; have : k = g := e; omega)).trans c0, (World.grownBy.cell_far hg ⟨k, 1, none⟩ h6 (by intro e; injection e with e; have : k = g := e; omega)).trans c1⟩
end Go.Proofs.YtfojjecnmfkcfaaGreat
