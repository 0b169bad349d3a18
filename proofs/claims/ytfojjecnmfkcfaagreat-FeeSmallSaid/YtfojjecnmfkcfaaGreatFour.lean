/- A bill of its own, two lists of numbers, and a bill of the reference, made in whatever order. -/
import Derived.Test.YtfojjecnmfkcfaaGreatP13
import Derived.Test.YtfojjecnmfkcfaaGreatP3
namespace Go.Proofs.YtfojjecnmfkcfaaGreat
open Go.RowKit
set_option linter.unusedVariables false
def FInts (qs : List Int) (v : Value) (l h : Nat) (w : World) : Prop := ∃ A c, v = .slice A qs.length c ∧ RdI w l h A (ints qs)
theorem FInts.keep {qs : List Int} {v : Value} {l h : Nat} {w w' : World} (H : FInts qs v l h w) (hk : ∀ b, l ≤ b → b < h → w'.heap[b]? = w.heap[b]?) : FInts qs v l h w' := by
  obtain ⟨A, c, e, hr⟩ := H
  exact ⟨A, c, e, hr.keep hk⟩
def FGiv (X X2 X4 : Value) (p : Int) (hs : List (Int × Int × Int)) (qs ls : List Int) (t1 t2 : TypeId) : Nat → Value → Nat → Nat → World → Prop
  | 0, v, _, _, _ => v = X
  | 1, v, l, h, w => FBill p hs v l h w
  | 2, v, _, _, _ => v = X2
  | 3, v, l, h, w => FInts qs v l h w
  | 4, v, _, _, _ => v = X4
  | 5, v, l, h, w => FInts ls v l h w
  | 6, v, _, _, _ => v = X
  | 7, v, l, h, w => FBill p hs v l h w
  | 8, v, l, h, w => FNew #[.int .i64 0, .slice none 0 0] t1 v l h w
  | 9, v, l, h, w => FNew #[.int .i64 0, .slice none 0 0] t2 v l h w
  | _, _, _, _, _ => True
theorem FGiv.keep {X X2 X4 : Value} {p : Int} {hs : List (Int × Int × Int)} {qs ls : List Int} {t1 t2 : TypeId} : ∀ i v l h w w', FGiv X X2 X4 p hs qs ls t1 t2 i v l h w → (∀ b, l ≤ b → b < h → w'.heap[b]? = w.heap[b]?) → FGiv X X2 X4 p hs qs ls t1 t2 i v l h w'
  | 0, _, _, _, _, _, H, _ => H
  | 1, _, _, _, _, _, H, hk => FBill.keep H hk
  | 2, _, _, _, _, _, H, _ => H
  | 3, _, _, _, _, _, H, hk => FInts.keep H hk
  | 4, _, _, _, _, _, H, _ => H
  | 5, _, _, _, _, _, H, hk => FInts.keep H hk
  | 6, _, _, _, _, _, H, _ => H
  | 7, _, _, _, _, _, H, hk => FBill.keep H hk
  | 8, _, _, _, _, _, H, hk => FNew.keep H hk
  | 9, _, _, _, _, _, H, hk => FNew.keep H hk
  | _ + 10, _, _, _, _, _, _, _ => trivial
theorem giv_mid {X X2 X4 : Value} {p : Int} {hs : List (Int × Int × Int)} {qs ls : List Int} {t1 t2 : TypeId} {B0 : Nat} {listed : Array Bool} {vals : Nat → Value} {lo hi : Nat → Nat} {W1 w : World} (hB0 : B0 = W1.heap.size) (hl : ∀ i, i < 10 → listed.getD i false = true) (hM : Mk (FGiv X X2 X4 p hs qs ls t1 t2) 10 B0 listed vals lo hi w) (hb : Below B0 W1 w) :
    ∃ g9 g10 A1 c1 A2 c2 B1 d1 B2 d2, vals 0 = X ∧ vals 1 = .agg #[.int .i64 p, .slice A1 hs.length c1] ∧ vals 2 = X2 ∧ vals 3 = .slice B1 qs.length d1 ∧ vals 4 = X4 ∧ vals 5 = .slice B2 ls.length d2 ∧ vals 6 = X ∧ vals 7 = .agg #[.int .i64 p, .slice A2 hs.length c2] ∧ vals 8 = .pointer (some ⟨g9, 0, none⟩) ∧ vals 9 = .pointer (some ⟨g10, 0, none⟩) ∧ TwoMid W1 w p hs g9 g10 A1 A2 c1 c2 ∧
      ∀ wf : World, wf.heap.size = w.heap.size → (∀ b, b ≠ g9 → b ≠ g10 → wf.heap[b]? = w.heap[b]?) → Rd wf wf.heap.size B1 (ints qs) ∧ Rd wf wf.heap.size B2 (ints ls) := by
  subst hB0
  obtain ⟨A1, c1, e1, k1, r1⟩ := hM.fact 1 (by omega) (hl 1 (by omega))
  obtain ⟨B1, d1, e3, q1⟩ := hM.fact 3 (by omega) (hl 3 (by omega))
  obtain ⟨B2, d2, e5, q2⟩ := hM.fact 5 (by omega) (hl 5 (by omega))
  obtain ⟨A2, c2, e7, k2, r2⟩ := hM.fact 7 (by omega) (hl 7 (by omega))
  have f4 := hM.fact 8 (by omega) (hl 8 (by omega))
  have f5 := hM.fact 9 (by omega) (hl 9 (by omega))
  obtain ⟨x4, y4⟩ := FNew.cells f4
  obtain ⟨x5, y5⟩ := FNew.cells f5
  obtain ⟨e8, z4, _⟩ := f4
  obtain ⟨e9, z5, _⟩ := f5
  have g1 := hM.ge 1 (by omega) (hl 1 (by omega))
  have g3 := hM.ge 3 (by omega) (hl 3 (by omega))
  have g5 := hM.ge 5 (by omega) (hl 5 (by omega))
  have g7 := hM.ge 7 (by omega) (hl 7 (by omega))
  have g8 := hM.ge 8 (by omega) (hl 8 (by omega))
  have g9 := hM.ge 9 (by omega) (hl 9 (by omega))
  have p18 := hM.apart 1 8 (by omega) (by omega) (by omega) (hl 1 (by omega)) (hl 8 (by omega))
  have p19 := hM.apart 1 9 (by omega) (by omega) (by omega) (hl 1 (by omega)) (hl 9 (by omega))
  have p38 := hM.apart 3 8 (by omega) (by omega) (by omega) (hl 3 (by omega)) (hl 8 (by omega))
  have p39 := hM.apart 3 9 (by omega) (by omega) (by omega) (hl 3 (by omega)) (hl 9 (by omega))
  have p58 := hM.apart 5 8 (by omega) (by omega) (by omega) (hl 5 (by omega)) (hl 8 (by omega))
  have p59 := hM.apart 5 9 (by omega) (by omega) (by omega) (hl 5 (by omega)) (hl 9 (by omega))
  have p78 := hM.apart 7 8 (by omega) (by omega) (by omega) (hl 7 (by omega)) (hl 8 (by omega))
  have p79 := hM.apart 7 9 (by omega) (by omega) (by omega) (hl 7 (by omega)) (hl 9 (by omega))
  have p89 := hM.apart 8 9 (by omega) (by omega) (by omega) (hl 8 (by omega)) (hl 9 (by omega))
  refine ⟨lo 8, lo 9, A1, c1, A2, c2, B1, d1, B2, d2, hM.fact 0 (by omega) (hl 0 (by omega)), e1, hM.fact 2 (by omega) (hl 2 (by omega)), e3, hM.fact 4 (by omega) (hl 4 (by omega)), e5, hM.fact 6 (by omega) (hl 6 (by omega)), e7, e8, e9, ?_, fun wf hz hf => ⟨?_, ?_⟩⟩
  · refine ⟨x4 0 _ rfl, x4 1 _ rfl, y4 0, y4 1, x5 0 _ rfl, x5 1 _ rfl, y5 0, y5 1, by omega, by omega, k1, k2, hb, fun wf hz hf => ⟨?_, ?_⟩⟩
    · exact RdI.rd (r1.keep fun b h1 h2 => hf b (by omega) (by omega)) (by omega)
    · exact RdI.rd (r2.keep fun b h1 h2 => hf b (by omega) (by omega)) (by omega)
  · exact RdI.rd (q1.keep fun b h1 h2 => hf b (by omega) (by omega)) (by omega)
  · exact RdI.rd (q2.keep fun b h1 h2 => hf b (by omega) (by omega)) (by omega)
end Go.Proofs.YtfojjecnmfkcfaaGreat
