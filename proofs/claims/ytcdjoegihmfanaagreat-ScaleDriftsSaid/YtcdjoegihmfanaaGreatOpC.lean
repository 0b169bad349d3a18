/- Arguments that are lists of bytes, opened. -/
import Derived.Test.YtcdjoegihmfanaaGreatG17
import Derived.Lib.SmallJoins
import Derived.WalkKit
import Derived.ProofKit
import Derived.OpenShut
import Derived.ChangeOld
import Derived.ChangeSame
import Derived.ChangeArms
import Derived.Deep.Slices
import Derived.Deep.Fields
import Derived.Below
import Derived.SizedLaws
namespace Go.Proofs.YtcdjoegihmfanaaGreat
open Go.ChangeShapes Go.WideShapes Go.ChangeAt Go.RowKit Go.Joins
set_option linter.unusedVariables false
theorem own : ownKnob Tryz.prog.godebug = none := by kernel_rfl
theorem laidOut : laidOutB Tryz.prog = true := by kernel_rfl
theorem add_spot {w : World} {x : Addr} {v : Value} (h : w.cell? (x.add 0) = some v) : x = ⟨x.block, x.off, none⟩ ∧ x.block < w.heap.size := by
  obtain ⟨b, off, spot⟩ := x
  have hs : spot = none := World.cell?_spot (a := ⟨b, off, spot⟩) h
  subst hs
  refine ⟨rfl, ?_⟩
  show b < _
  have h' : w.cell? ⟨b, off, none⟩ = some v := h
  unfold World.cell? at h'
  by_cases hb : b < w.heap.size
  · exact hb
  · rw [show w.heap[b]? = none from Array.getElem?_eq_none (by omega)] at h'
    simp at h'
variable {H : Type} {enc : TypeId × Value → H} {W : World} {base : Nat} {spare : Nat → Bool} {held : Bool}
theorem bytesU8 : Tryz.prog.bytesOf 5 = 1 := by kernel_rfl
theorem cellsU8 : Tryz.prog.cellsOf 5 = 1 := by kernel_rfl
set_option maxRecDepth 100000 in
theorem open_bytes {r : Reach} {b0 : Nat} {v : Value} {d : DataW H} {p : List MemPlace} (hv : Value.okWide Tryz.prog W r b0 48 v) (h : DataW.Trod enc Tryz.prog W base spare held 48 v d p) :
    ∃ (A : Option Addr) (c : Nat) (zs : List Int), v = .slice A zs.length c ∧ Rd W W.heap.size A (bytes zs) ∧ (∀ z ∈ zs, 0 ≤ z ∧ z ≤ 255) ∧ (d = .nil ∧ zs = [] ∨ ∃ es sp, d = .slice es sp ∧ zs.length ≤ es.length + sp.length) := by
  obtain ⟨a0, len, cap, rfl⟩ := okWide_slice Tryz.underlying48 hv
  obtain ⟨fuel, hf⟩ := h
  rcases open_ints Tryz.underlying48 Tryz.underlying5 cellsU8 hf with ⟨h1, h2⟩ | ⟨a, n, c, zs, h1, _, hn, _, hl, h2, hc, hw⟩
  · simp only [Value.cells, List.cons.injEq, and_true] at h1
    rw [h1]
    injection h2 with h2 h3
    exact ⟨none, 0, [], rfl, Rd.nil, fun z hz => (by cases hz), .inl ⟨h2, rfl⟩⟩
  · simp only [Value.cells, List.cons.injEq, and_true] at h1
    rw [h1]
    injection h2 with h2 h3
    have hle : n ≤ zs.length := by rw [hl]; split <;> omega
    have hlen : (zs.take n).length = n := by rw [List.length_take]; omega
    refine ⟨some a, c, zs.take n, by rw [hlen], fun hne => ?_, fun z hz => ?_, .inr ⟨_, _, h2, ?_⟩⟩
    · have h0 : 0 < n := by
        rcases Nat.eq_zero_or_pos n with e | e
        · subst e; simp [bytes] at hne
        · exact e
      obtain ⟨e1, e2⟩ := add_spot (hc 0 (by omega))
      refine ⟨a.block, a.off, by rw [← e1], e2, fun j u hu => ?_⟩
      have hj : j < n := by
        have h9 := (List.getElem?_eq_some_iff.1 hu).1
        unfold bytes at h9
        rw [List.length_map, hlen] at h9
        exact h9
      have hcj := hc j (by omega)
      rw [e1, addr_add] at hcj
      rw [hcj]
      have hu2 : (bytes (zs.take n))[j]? = some (.int .u8 (zs.getD j 0)) := by
        simp only [bytes, List.getElem?_map, List.getElem?_take, hj, if_true]
        rw [List.getElem?_eq_getElem (show j < zs.length by omega), List.getD_eq_getElem?_getD, List.getElem?_eq_getElem (show j < zs.length by omega)]; rfl
      rw [hu2] at hu
      exact hu
    · have := hw z (List.mem_of_mem_take hz)
      simp [Lit.wf, IntKind.min, IntKind.max, IntKind.signed, IntKind.bits] at this
      omega
    · simp [lits]
theorem bytes_of {A : Option Addr} {zs : List Int} {d : DataW H} (hr : Rd W W.heap.size A (bytes zs)) (hb : ∀ z ∈ zs, 0 ≤ z ∧ z ≤ 255) (hd : d = .nil ∧ zs = [] ∨ ∃ es sp, d = .slice es sp ∧ zs.length ≤ es.length + sp.length)
    (hs : ∀ es sp, d = .slice es sp → (es.length + sp.length) * Tryz.prog.bytesOf 5 ≤ reachBytes) : Bytes W A zs := by
  refine ⟨hr, hb, ?_⟩
  rcases hd with ⟨_, rfl⟩ | ⟨es, sp, e, hl⟩
  · simp
  · have := hs es sp e
    rw [bytesU8, reachBytes] at this
    omega
end Go.Proofs.YtcdjoegihmfanaaGreat
