/- Arguments that are slices of structs of integers, opened: what the walks read. -/
import Derived.Test.YtfojjecnmfkcfaaAlike
import Derived.Test.YtfojjecnmfkcfaaAcct
import Derived.Deep.Slices
import Derived.Deep.Fields
import Derived.ChangeSame
import Derived.ChangeArms
namespace Go.Proofs.Ytfojjecnmfkcfaa
open Go.ChangeShapes Go.WideShapes Go.Deep Go.RowKit
set_option linter.unusedVariables false
section
variable {H : Type} {enc : TypeId × Value → H} {P : Program} {w : World} {base : Nat} {spare : Nat → Bool} {held : Bool}
/-- One element: each field's cell. -/
theorem row_fields {e : TypeId} {fs : Array Field} {n : Nat} {a : Addr} {cs : List Value} {D : DataW H × List MemPlace} (he : P.underlying e = some (.struct fs)) (hone : oneCellFields P fs = true)
    (hint : ∀ (j : Nat) (f : Field), fs[j]? = some f → P.underlying f.type = some (.int .i64)) (hc : w.cells? base a fs.size = some cs) (ht : DataW.trod enc P w base spare held n e cs = some D) :
    ∃ g : Nat → Int, ∀ j, j < fs.size → w.cell? (a.add j) = some (.int .i64 (g j)) := by
  obtain ⟨ys, n', hn', hy, hlen, hyl, hf⟩ := DataW.trod_struct he ht
  obtain ⟨_, hcl, hat⟩ := World.cells?_some hc
  have key : ∀ j, ∃ z : Int, j < fs.size → w.cell? (a.add j) = some (.int .i64 z) := by
    intro j
    by_cases hj : j < fs.size
    · have hj' : fs[j]? = some fs[j] := Array.getElem?_eq_getElem hj
      obtain ⟨ho, hk⟩ := hone_of hone j _ hj'
      have h1 := hf j _ hj'
      rw [ho, hk] at h1
      have hv : (cs.drop j).take 1 = [cs[j]'(by omega)] := by
        rw [List.drop_eq_getElem_cons (by omega)]
        rfl
      rw [hv, List.getElem?_eq_getElem (by omega)] at h1
      obtain ⟨z, hz, _, _⟩ := DataW.trod_int (hint j _ hj') h1
      refine ⟨z, fun _ => ?_⟩
      rw [hat j hj, List.getElem?_eq_getElem (by omega)]
      injection hz with hz
      rw [hz]
    · exact ⟨0, fun h => absurd h hj⟩
  exact ⟨fun j => Classical.choose (key j), fun j hj => Classical.choose_spec (key j) hj⟩
theorem open_rows {t e : TypeId} {fs : Array Field} {fuel : Nat} {cs : List Value} {x : DataW H × List MemPlace} (ht : P.underlying t = some (.slice e)) (he : P.underlying e = some (.struct fs)) (hone : oneCellFields P fs = true) (hC : P.cellsOf e = fs.size)
    (hint : ∀ (j : Nat) (f : Field), fs[j]? = some f → P.underlying f.type = some (.int .i64)) (h : DataW.trod enc P w base spare held fuel t cs = some x) :
    cs = [.slice none 0 0] ∨ ∃ (a : Addr) (len cap : Nat) (g : Nat → Nat → Int), cs = [.slice (some a) len cap] ∧ len ≤ cap ∧ ∀ i, i < len → ∀ j, j < fs.size → w.cell? (a.add (i * fs.size + j)) = some (.int .i64 (g i j)) := by
  rcases open_slice ht h with ⟨rfl, _⟩ | ⟨a, len, cap, m, n, D, Pl, rfl, hb, hl, hm, hmm, hx, hi⟩
  · exact .inl rfl
  · refine .inr ⟨a, len, cap, ?_⟩
    have hlm : len ≤ m := by rw [hmm]; split <;> omega
    have key : ∀ i, ∃ g : Nat → Int, i < len → ∀ j, j < fs.size → w.cell? (a.add (i * fs.size + j)) = some (.int .i64 (g j)) := by
      intro i
      by_cases h : i < len
      · obtain ⟨cs', hc, ht'⟩ := hi i (by omega)
        rw [hC] at hc
        obtain ⟨g, hg⟩ := row_fields he hone hint hc ht'
        refine ⟨g, fun _ j hj => ?_⟩
        rw [← Go.Deep.add_add]
        exact hg j hj
      · exact ⟨fun _ => 0, fun h' => absurd h' h⟩
    exact ⟨fun i => Classical.choose (key i), rfl, hl, fun i hi => Classical.choose_spec (key i) hi⟩
end
theorem add_spot {w : World} {x : Addr} {v : Value} (h : w.cell? (x.add 0) = some v) : x = ⟨x.block, x.off, none⟩ ∧ x.block < w.heap.size := by
  obtain ⟨b, off, spot⟩ := x
  have hs : spot = none := World.cell?_spot (a := ⟨b, off, spot⟩) h
  subst hs
  refine ⟨rfl, ?_⟩
  show b < _
  have h' : w.cell? ⟨b, off, none⟩ = some v := h
  unfold World.cell? at h'
  by_cases hb : b < w.heap.size
  · exact hb
  · rw [show w.heap[b]? = none from Array.getElem?_eq_none (by omega)] at h'
    simp at h'
/-- What a walk is told of a slice of rows: its length, its room, and the cells. -/
def Came (w : World) (A : Option Addr) (n c : Nat) (xs : List Value) : Prop := n ≤ c ∧ Rd w w.heap.size A xs
theorem came_cells {w : World} {k len cap : Nat} {a : Addr} {g : Nat → Nat → Int} (hk : 0 < k) (hl : len ≤ cap) (hc : ∀ i, i < len → ∀ j, j < k → w.cell? (a.add (i * k + j)) = some (.int .i64 (g i j))) (xs : List Value) (hx : xs.length = len * k)
    (hg : ∀ i, i < len → ∀ j, j < k → xs[i * k + j]? = some (.int .i64 (g i j))) : Came w (some a) len cap xs := by
  refine ⟨hl, fun hne => ?_⟩
  have h0 : 0 < len := by
    rcases Nat.eq_zero_or_pos len with h | h
    · subst h
      rw [Nat.zero_mul] at hx
      exact absurd (List.eq_nil_of_length_eq_zero hx) hne
    · exact h
  have c0 := hc 0 h0 0 hk
  rw [Nat.zero_mul] at c0
  obtain ⟨e, hb⟩ := add_spot c0
  refine ⟨a.block, a.off, by rw [e], hb, fun j u hu => ?_⟩
  have hj : j < len * k := by rw [← hx]; exact (List.getElem?_eq_some_iff.1 hu).1
  have hm := Nat.div_add_mod j k
  have hi : j / k < len := Nat.div_lt_of_lt_mul (by rw [Nat.mul_comm]; exact hj)
  have hr := Nat.mod_lt j hk
  have e2 : j / k * k + j % k = j := by rw [Nat.mul_comm]; exact hm
  have h1 := hg _ hi _ hr
  have h2 := hc _ hi _ hr
  rw [e2] at h1 h2
  rw [h1] at hu
  injection hu with hu
  rw [← hu, ← h2]
  rw [e]
  exact (congrArg w.cell? (addr_add a.block a.off j)).symm
theorem came_pairs {w : World} {cs : List Value} (h : cs = [.slice none 0 0] ∨ ∃ (a : Addr) (len cap : Nat) (g : Nat → Nat → Int), cs = [.slice (some a) len cap] ∧ len ≤ cap ∧ ∀ i, i < len → ∀ j, j < 2 → w.cell? (a.add (i * 2 + j)) = some (.int .i64 (g i j))) :
    ∃ A c, ∃ l : List (Int × Int), cs = [.slice A l.length c] ∧ Came w A l.length c (pairs l) := by
  rcases h with rfl | ⟨a, len, cap, g, rfl, hl, hc⟩
  · exact ⟨none, 0, [], rfl, Nat.le_refl _, Rd.nil⟩
  · refine ⟨some a, cap, (List.range len).map fun i => (g i 0, g i 1), by simp, ?_⟩
    rw [List.length_map, List.length_range]
    refine came_cells (k := 2) (by decide) hl hc _ (by rw [pairs_length]; simp) fun i hi j hj => ?_
    obtain ⟨p1, p2⟩ := pairs_get ((List.range len).map fun i => (g i 0, g i 1)) i (by simpa using hi)
    match j, hj with
    | 0, _ => rw [Nat.add_zero, p1]; simp
    | 1, _ => rw [p2]; simp
theorem came_trips {w : World} {cs : List Value} (h : cs = [.slice none 0 0] ∨ ∃ (a : Addr) (len cap : Nat) (g : Nat → Nat → Int), cs = [.slice (some a) len cap] ∧ len ≤ cap ∧ ∀ i, i < len → ∀ j, j < 3 → w.cell? (a.add (i * 3 + j)) = some (.int .i64 (g i j))) :
    ∃ A c, ∃ l : List (Int × Int × Int), cs = [.slice A l.length c] ∧ Came w A l.length c (trips l) := by
  rcases h with rfl | ⟨a, len, cap, g, rfl, hl, hc⟩
  · exact ⟨none, 0, [], rfl, Nat.le_refl _, Rd.nil⟩
  · refine ⟨some a, cap, (List.range len).map fun i => (g i 0, g i 1, g i 2), by simp, ?_⟩
    rw [List.length_map, List.length_range]
    refine came_cells (k := 3) (by decide) hl hc _ (by rw [trips_length]; simp) fun i hi j hj => ?_
    obtain ⟨p1, p2, p3⟩ := trips_get ((List.range len).map fun i => (g i 0, g i 1, g i 2)) i (by simpa using hi)
    match j, hj with
    | 0, _ => rw [Nat.add_zero, p1]; simp
    | 1, _ => rw [p2]; simp
    | 2, _ => rw [p3]; simp
end Go.Proofs.Ytfojjecnmfkcfaa
