/- FeeSmall, memory: what its first loop makes: numbers in cells that pointers name. -/
import Derived.Test.YtfojjecnmfkcfaaGreatLawShares
import Derived.Test.YtfojjecnmfkcfaaGreatLawTariffs
import Derived.Test.YtfojjecnmfkcfaaGreatLawGiven
import Derived.Test.YtfojjecnmfkcfaaGreatLawAcc
import Derived.Test.YtfojjecnmfkcfaaGreatP28
namespace Go.Proofs.YtfojjecnmfkcfaaGreat
open Go.RowKit
set_option linter.unusedVariables false
structure SmX where
  (bt bb bc bp g5 g6 b7 b8 g9 g10 g11 g12 : Nat)
/-- The cells that hold a number each. -/
def SmN (x : SmX) (b o : Nat) : Prop := (b = x.bt ∧ o < 4) ∨ (b = x.bb ∧ o < 9) ∨ (b = x.bc ∧ o < 4) ∨ (b = x.bp ∧ o < 4) ∨ (b = x.g5 ∧ o = 0) ∨ (b = x.g6 ∧ (o = 2 ∨ o = 3)) ∨ (b = x.b7 ∧ o < 3) ∨ (b = x.b8 ∧ o < 3) ∨ ((b = x.g9 ∨ b = x.g10 ∨ b = x.g11 ∨ b = x.g12) ∧ o = 0)
structure SmO (x : SmX) (lo hi : Nat) : Prop where
  a1 : lo ≤ x.bt
  a2 : lo ≤ x.bb
  a3 : lo ≤ x.bc
  a4 : lo ≤ x.bp
  b1 : x.bt < x.g5
  b2 : x.bb < x.g5
  b3 : x.bc < x.g5
  b4 : x.bp < x.g5
  c1 : x.g5 < x.g6
  c2 : x.g6 < x.b7
  c3 : x.g6 < x.b8
  c4 : x.g6 < x.g9
  c5 : x.g6 < x.g10
  c6 : x.g6 < x.g11
  c7 : x.g6 < x.g12
  d1 : x.b7 < hi
  d2 : x.b8 < hi
  d3 : x.g9 < hi
  d4 : x.g10 < hi
  d5 : x.g11 < hi
  d6 : x.g12 < hi
theorem SmO.more {x : SmX} {lo hi hi' : Nat} (h : SmO x lo hi) (hh : hi ≤ hi') : SmO x lo hi' := by
  obtain ⟨a1, a2, a3, a4, b1, b2, b3, b4, c1, c2, c3, c4, c5, c6, c7, d1, d2, d3, d4, d5, d6⟩ := h
  constructor <;> omega
theorem SmN.lt {x : SmX} {lo hi b o : Nat} (h : SmO x lo hi) (hn : SmN x b o) : lo ≤ b ∧ b < hi := by
  obtain ⟨a1, a2, a3, a4, b1, b2, b3, b4, c1, c2, c3, c4, c5, c6, c7, d1, d2, d3, d4, d5, d6⟩ := h
  unfold SmN at hn
  omega
structure Sm (x : SmX) (w0 w : World) : Prop where
  ord : SmO x w0.heap.size w.heap.size
  num : ∀ b o, SmN x b o → (∃ n, w.cell? ⟨b, o, none⟩ = some (.int .i64 n)) ∧ w.frozen? ⟨b, o, none⟩ = false
  h5 : w.cell? ⟨x.g5, 1, none⟩ = some (.slice (some ⟨x.bb, 0, none⟩) 3 3)
  h60 : w.cell? ⟨x.g6, 0, none⟩ = some (.slice (some ⟨x.bc, 0, none⟩) 2 2)
  h61 : w.cell? ⟨x.g6, 1, none⟩ = some (.slice (some ⟨x.bp, 0, none⟩) 2 2)
  bw : Below w0.heap.size w0 w
theorem Sm.next {x : SmX} {w0 w w' : World} (h : Sm x w0 w) (hb : Below w.heap.size w w') : Sm x w0 w' := by
  have o := h.ord
  refine ⟨o.more hb.size, fun b p hn => ?_, hb.at_ (by have := o.c1; have := o.c2; have := o.d1; omega) h.h5, hb.at_ (by have := o.c2; have := o.d1; omega) h.h60, hb.at_ (by have := o.c2; have := o.d1; omega) h.h61, h.bw.trans (hb.mono h.bw.size)⟩
  obtain ⟨⟨n, e⟩, f⟩ := h.num b p hn
  have hl := (hn.lt o).2
  exact ⟨⟨n, hb.at_ hl e⟩, (hb.frozen (p := ⟨b, p, none⟩) hl).trans f⟩
theorem Sm.put {x : SmX} {w0 w : World} (h : Sm x w0 w) {b o : Nat} (hn : SmN x b o) (v : Int) : Sm x w0 (w.setCell ⟨b, o, none⟩ (.int .i64 v)) := by
  have O := h.ord
  have hl := hn.lt O
  obtain ⟨⟨n0, e0⟩, f0⟩ := h.num b o hn
  have oth : ∀ b' o' u, ¬ (b' = b ∧ o' = o) → w.cell? ⟨b', o', none⟩ = some u → (w.setCell ⟨b, o, none⟩ (.int .i64 v)).cell? ⟨b', o', none⟩ = some u := fun b' o' u hne hu => by
    rw [World.cell?_setCell_other _ _ _ _ (by intro e; injection e with e1 e2; exact hne ⟨e1.symm, e2.symm⟩)]; exact hu
  refine ⟨by simpa [World.setCell] using O, fun b' o' hn' => ?_, oth _ _ _ ?_ h.h5, oth _ _ _ ?_ h.h60, oth _ _ _ ?_ h.h61, h.bw.setCell hl.1 _⟩
  · obtain ⟨⟨n1, e1⟩, f1⟩ := h.num b' o' hn'
    refine ⟨?_, by simpa using f1⟩
    by_cases e : b' = b ∧ o' = o
    · obtain ⟨rfl, rfl⟩ := e
      exact ⟨v, World.cell?_setCell_same _ _ _ e0⟩
    · exact ⟨n1, oth _ _ _ e e1⟩
  all_goals
    obtain ⟨a1, a2, a3, a4, b1, b2, b3, b4, c1, c2, c3, c4, c5, c6, c7, d1, d2, d3, d4, d5, d6⟩ := O
    unfold SmN at hn
    omega
/-- Numbers in a block, as houses, entries, numbers. -/
theorem nums_trips {w : World} {b n : Nat} (hn : ∀ o, o < n * 3 → ∃ z, w.cell? ⟨b, o, none⟩ = some (.int .i64 z)) : ∃ hs : List (Int × Int × Int), hs.length = n ∧ Came w (some ⟨b, 0, none⟩) hs.length n (trips hs) := by
  obtain ⟨A, c, l, e, hc⟩ := came_trips (w := w) (cs := [.slice (some ⟨b, 0, none⟩) n n]) (.inr ⟨⟨b, 0, none⟩, n, n, fun i j => intOf ((w.cell? ⟨b, i * 3 + j, none⟩).getD undef), rfl, Nat.le_refl _, fun i hi j hj => by
    obtain ⟨z, hz⟩ := hn (i * 3 + j) (by omega)
    rw [addr_add, Nat.zero_add]; simp [hz, intOf]⟩)
  injection e with e _
  injection e with e1 e2 e3
  subst e1 e3
  exact ⟨l, e2.symm, hc⟩
theorem nums_pairs {w : World} {b n : Nat} (hn : ∀ o, o < n * 2 → ∃ z, w.cell? ⟨b, o, none⟩ = some (.int .i64 z)) : ∃ t : List (Int × Int), t.length = n ∧ Came w (some ⟨b, 0, none⟩) t.length n (pairs t) := by
  obtain ⟨A, c, l, e, hc⟩ := came_pairs (w := w) (cs := [.slice (some ⟨b, 0, none⟩) n n]) (.inr ⟨⟨b, 0, none⟩, n, n, fun i j => intOf ((w.cell? ⟨b, i * 2 + j, none⟩).getD undef), rfl, Nat.le_refl _, fun i hi j hj => by
    obtain ⟨z, hz⟩ := hn (i * 2 + j) (by omega)
    rw [addr_add, Nat.zero_add]; simp [hz, intOf]⟩)
  injection e with e _
  injection e with e1 e2 e3
  subst e1 e3
  exact ⟨l, e2.symm, hc⟩
theorem nums_ints {w : World} {b n : Nat} (hlt : b < w.heap.size) (hn : ∀ o, o < n → ∃ z, w.cell? ⟨b, o, none⟩ = some (.int .i64 z)) : ∃ t : List Int, t.length = n ∧ Came w (some ⟨b, 0, none⟩) t.length n (ints t) := by
  refine ⟨(List.range n).map fun o => intOf ((w.cell? ⟨b, o, none⟩).getD undef), by simp, by simp, fun _ => ⟨b, 0, rfl, hlt, fun j u hu => ?_⟩⟩
  have hj : j < n := by
    have := (List.getElem?_eq_some_iff.1 hu).1
    simpa [ints] using this
  obtain ⟨z, hz⟩ := hn j hj
  simp [ints, List.getElem?_map, List.getElem?_range hj, hz, intOf] at hu
  rw [Nat.zero_add, hz, hu]
/-- The pointers. -/
def smL (x : SmX) : List (Nat × Nat) := [(x.bt, 0), (x.bt, 1), (x.bt, 2), (x.bt, 3), (x.g10, 0), (x.g11, 0), (x.g5, 0), (x.bb, 0), (x.bb, 4), (x.bb, 8), (x.bb, 2), (x.b7, 0), (x.b7, 2), (x.b8, 1), (x.g9, 0), (x.bc, 0), (x.bc, 3), (x.bp, 2), (x.bp, 1), (x.g6, 2), (x.g6, 3), (x.g12, 0)]
theorem smL_at (x : SmX) {i : Nat} (hi : i < 22) : ∃ b o, ((smL x).map fun p => Value.pointer (some ⟨p.1, p.2, none⟩))[i]? = some (.pointer (some ⟨b, o, none⟩)) ∧ SmN x b o := by
  have h : ∀ p ∈ smL x, SmN x p.1 p.2 := by
    intro p hp
    simp only [smL, List.mem_cons, List.not_mem_nil, or_false] at hp
    unfold SmN
    rcases hp with h | h | h | h | h | h | h | h | h | h | h | h | h | h | h | h | h | h | h | h | h | h <;> (subst h; simp)
  have hl : i < (smL x).length := hi
  exact ⟨(smL x)[i].1, (smL x)[i].2, by rw [List.getElem?_map, List.getElem?_eq_getElem hl]; rfl, h _ (List.getElem_mem _)⟩
theorem new_free (w : World) (x : Array Value) (t : TypeId) (H o : Nat) (h : w.heap.size = H) : (w.alloc (.cells x t)).frozen? ⟨H, o, none⟩ = false := by subst h; simp
theorem new_cell (w : World) (l : List Value) (t : TypeId) (H j : Nat) (h : w.heap.size = H) {u : Value} (hu : l[j]? = some u) : (w.alloc (.cells l.toArray t)).cell? ⟨H, j, none⟩ = some u := by
  have := news_new w l t h j u hu
  rwa [addr_add, Nat.zero_add] at this
set_option maxHeartbeats 1000000 in
theorem sm_start {w0 w3 w4 w5 w6 w7 w8 w9 w10 w11 : World} {bt bb bc bp : Nat} {t1 t2 t3 : TypeId} (hb : Below w0.heap.size w0 w3) (a1 : w0.heap.size ≤ bt) (a2 : w0.heap.size ≤ bb) (a3 : w0.heap.size ≤ bc) (a4 : w0.heap.size ≤ bp)
    (l1 : Lst w3 bt [1000, 50, 3000, 30]) (l2 : Lst w3 bb [5, 0, 100, 3, 0, 100, 1, 0, 100]) (l3 : Lst w3 bc [0, 100, 20, 80]) (l4 : Lst w3 bp [5, 60, 25, 90])
    (e4 : w4 = w3.alloc (.cells #[.int .i64 100, .slice (some ⟨bb, 0, none⟩) 3 3] t1)) (e5 : w5 = w4.alloc (.cells #[.slice (some ⟨bc, 0, none⟩) 2 2, .slice (some ⟨bp, 0, none⟩) 2 2, .int .i64 10, .int .i64 5] t2))
    (e6 : w6 = w5.alloc (.cells #[.int .i64 55, .int .i64 34, .int .i64 11] t3)) (e7 : w7 = w6.alloc (.cells #[.int .i64 2, .int .i64 0, .int .i64 3] t3)) (e8 : w8 = w7.alloc (.cells #[.int .i64 5] t3)) (e9 : w9 = w8.alloc (.cells #[.int .i64 1251] t3))
    (e10 : w10 = w9.alloc (.cells #[.int .i64 575] t3)) (e11 : w11 = w10.alloc (.cells #[.int .i64 30] t3)) :
    Sm ⟨bt, bb, bc, bp, w3.heap.size, w3.heap.size + 1, w3.heap.size + 1 + 1, w3.heap.size + 1 + 1 + 1, w3.heap.size + 1 + 1 + 1 + 1, w3.heap.size + 1 + 1 + 1 + 1 + 1, w3.heap.size + 1 + 1 + 1 + 1 + 1 + 1, w3.heap.size + 1 + 1 + 1 + 1 + 1 + 1 + 1⟩ w0 w11 := by
  have s4 : w4.heap.size = w3.heap.size + 1 := by rw [e4]; simp
  have s5 : w5.heap.size = w3.heap.size + 1 + 1 := by rw [e5]; simp [s4]
  have s6 : w6.heap.size = w3.heap.size + 1 + 1 + 1 := by rw [e6]; simp [s5]
  have s7 : w7.heap.size = w3.heap.size + 1 + 1 + 1 + 1 := by rw [e7]; simp [s6]
  have s8 : w8.heap.size = w3.heap.size + 1 + 1 + 1 + 1 + 1 := by rw [e8]; simp [s7]
  have s9 : w9.heap.size = w3.heap.size + 1 + 1 + 1 + 1 + 1 + 1 := by rw [e9]; simp [s8]
  have s10 : w10.heap.size = w3.heap.size + 1 + 1 + 1 + 1 + 1 + 1 + 1 := by rw [e10]; simp [s9]
  have s11 : w11.heap.size = w3.heap.size + 1 + 1 + 1 + 1 + 1 + 1 + 1 + 1 := by rw [e11]; simp [s10]
  have c4 := fun j u (h : [Value.int .i64 100, .slice (some ⟨bb, 0, none⟩) 3 3][j]? = some u) => new_cell w3 _ t1 _ j rfl h
  have c5 := fun j u (h : [Value.slice (some ⟨bc, 0, none⟩) 2 2, .slice (some ⟨bp, 0, none⟩) 2 2, .int .i64 10, .int .i64 5][j]? = some u) => new_cell w4 _ t2 _ j s4 h
  have c6 := fun j u (h : [Value.int .i64 55, .int .i64 34, .int .i64 11][j]? = some u) => new_cell w5 _ t3 _ j s5 h
  have c7 := fun j u (h : [Value.int .i64 2, .int .i64 0, .int .i64 3][j]? = some u) => new_cell w6 _ t3 _ j s6 h
  have c8 := fun j u (h : [Value.int .i64 5][j]? = some u) => new_cell w7 _ t3 _ j s7 h
  have c9 := fun j u (h : [Value.int .i64 1251][j]? = some u) => new_cell w8 _ t3 _ j s8 h
  have c10 := fun j u (h : [Value.int .i64 575][j]? = some u) => new_cell w9 _ t3 _ j s9 h
  have c11 := fun j u (h : [Value.int .i64 30][j]? = some u) => new_cell w10 _ t3 _ j s10 h
  rw [← e4] at c4
  rw [← e5] at c5
  rw [← e6] at c6
  rw [← e7] at c7
  rw [← e8] at c8
  rw [← e9] at c9
  rw [← e10] at c10
  rw [← e11] at c11
  have f4 := fun o => new_free w3 #[.int .i64 100, .slice (some ⟨bb, 0, none⟩) 3 3] t1 _ o rfl
  have f5 := fun o => new_free w4 #[.slice (some ⟨bc, 0, none⟩) 2 2, .slice (some ⟨bp, 0, none⟩) 2 2, .int .i64 10, .int .i64 5] t2 _ o s4
  have f6 := fun o => new_free w5 #[.int .i64 55, .int .i64 34, .int .i64 11] t3 _ o s5
  have f7 := fun o => new_free w6 #[.int .i64 2, .int .i64 0, .int .i64 3] t3 _ o s6
  have f8 := fun o => new_free w7 #[.int .i64 5] t3 _ o s7
  have f9 := fun o => new_free w8 #[.int .i64 1251] t3 _ o s8
  have f10 := fun o => new_free w9 #[.int .i64 575] t3 _ o s9
  have f11 := fun o => new_free w10 #[.int .i64 30] t3 _ o s10
  rw [← e4] at f4
  rw [← e5] at f5
  rw [← e6] at f6
  rw [← e7] at f7
  rw [← e8] at f8
  rw [← e9] at f9
  rw [← e10] at f10
  rw [← e11] at f11
  have k10 : Below w10.heap.size w10 w11 := by rw [e11]; exact below_new _ _
  have k9 : Below w9.heap.size w9 w11 := (show Below w9.heap.size w9 w10 by rw [e10]; exact below_new _ _).trans (k10.mono (by omega))
  have k8 : Below w8.heap.size w8 w11 := (show Below w8.heap.size w8 w9 by rw [e9]; exact below_new _ _).trans (k9.mono (by omega))
  have k7 : Below w7.heap.size w7 w11 := (show Below w7.heap.size w7 w8 by rw [e8]; exact below_new _ _).trans (k8.mono (by omega))
  have k6 : Below w6.heap.size w6 w11 := (show Below w6.heap.size w6 w7 by rw [e7]; exact below_new _ _).trans (k7.mono (by omega))
  have k5 : Below w5.heap.size w5 w11 := (show Below w5.heap.size w5 w6 by rw [e6]; exact below_new _ _).trans (k6.mono (by omega))
  have k4 : Below w4.heap.size w4 w11 := (show Below w4.heap.size w4 w5 by rw [e5]; exact below_new _ _).trans (k5.mono (by omega))
  have k3 : Below w3.heap.size w3 w11 := (show Below w3.heap.size w3 w4 by rw [e4]; exact below_new _ _).trans (k4.mono (by omega))
  clear e4 e5 e6 e7 e8 e9 e10 e11
  have q1 := l1.lt
  have q2 := l2.lt
  have q3 := l3.lt
  have q4 := l4.lt
  have z := hb.size
  have old : ∀ (b : Nat) (d : List Int) (o : Nat), Lst w3 b d → o < d.length → (∃ n, w11.cell? ⟨b, o, none⟩ = some (.int .i64 n)) ∧ w11.frozen? ⟨b, o, none⟩ = false := fun b d o L ho =>
    ⟨⟨d[o], k3.at_ L.lt (L.at_ ho)⟩, (k3.frozen (p := ⟨b, o, none⟩) L.lt).trans (L.free o)⟩
  refine ⟨by constructor <;> simp only <;> omega, fun b o hn => ?_, k4.at_ (by show w3.heap.size < _; omega) (c4 1 _ rfl), k5.at_ (by show w3.heap.size + 1 < _; omega) (c5 0 _ rfl), k5.at_ (by show w3.heap.size + 1 < _; omega) (c5 1 _ rfl), hb.trans (k3.mono z)⟩
  unfold SmN at hn
  simp only at hn
  rcases hn with ⟨rfl, h⟩ | ⟨rfl, h⟩ | ⟨rfl, h⟩ | ⟨rfl, h⟩ | ⟨rfl, rfl⟩ | ⟨rfl, rfl | rfl⟩ | ⟨rfl, h⟩ | ⟨rfl, h⟩ | ⟨rfl | rfl | rfl | rfl, rfl⟩
  · exact old _ _ _ l1 h
  · exact old _ _ _ l2 h
  · exact old _ _ _ l3 h
  · exact old _ _ _ l4 h
  · exact ⟨⟨_, k4.at_ (by omega) (c4 0 _ rfl)⟩, (k4.frozen (p := ⟨w3.heap.size, 0, none⟩) (by show w3.heap.size < _; omega)).trans (f4 0)⟩
  · exact ⟨⟨_, k5.at_ (by omega) (c5 2 _ rfl)⟩, (k5.frozen (p := ⟨_, 2, none⟩) (by show w3.heap.size + 1 < _; omega)).trans (f5 2)⟩
  · exact ⟨⟨_, k5.at_ (by omega) (c5 3 _ rfl)⟩, (k5.frozen (p := ⟨_, 3, none⟩) (by show w3.heap.size + 1 < _; omega)).trans (f5 3)⟩
  · refine ⟨?_, (k6.frozen (p := ⟨_, o, none⟩) (by show w3.heap.size + 1 + 1 < _; omega)).trans (f6 o)⟩
    match o, h with
    | 0, _ => exact ⟨_, k6.at_ (by omega) (c6 0 _ rfl)⟩
    | 1, _ => exact ⟨_, k6.at_ (by omega) (c6 1 _ rfl)⟩
    | 2, _ => exact ⟨_, k6.at_ (by omega) (c6 2 _ rfl)⟩
  · refine ⟨?_, (k7.frozen (p := ⟨_, o, none⟩) (by show w3.heap.size + 1 + 1 + 1 < _; omega)).trans (f7 o)⟩
    match o, h with
    | 0, _ => exact ⟨_, k7.at_ (by omega) (c7 0 _ rfl)⟩
    | 1, _ => exact ⟨_, k7.at_ (by omega) (c7 1 _ rfl)⟩
    | 2, _ => exact ⟨_, k7.at_ (by omega) (c7 2 _ rfl)⟩
  · exact ⟨⟨_, k8.at_ (by omega) (c8 0 _ rfl)⟩, (k8.frozen (p := ⟨_, 0, none⟩) (by show w3.heap.size + 1 + 1 + 1 + 1 < _; omega)).trans (f8 0)⟩
  · exact ⟨⟨_, k9.at_ (by omega) (c9 0 _ rfl)⟩, (k9.frozen (p := ⟨_, 0, none⟩) (by show w3.heap.size + 1 + 1 + 1 + 1 + 1 < _; omega)).trans (f9 0)⟩
  · exact ⟨⟨_, k10.at_ (by omega) (c10 0 _ rfl)⟩, (k10.frozen (p := ⟨_, 0, none⟩) (by show w3.heap.size + 1 + 1 + 1 + 1 + 1 + 1 < _; omega)).trans (f10 0)⟩
  · exact ⟨⟨_, c11 0 _ rfl⟩, f11 0⟩
theorem SmN.bt {x : SmX} {o : Nat} (h : o < 4) : SmN x x.bt o := .inl ⟨rfl, h⟩
theorem SmN.bb {x : SmX} {o : Nat} (h : o < 9) : SmN x x.bb o := .inr (.inl ⟨rfl, h⟩)
theorem SmN.bc {x : SmX} {o : Nat} (h : o < 4) : SmN x x.bc o := .inr (.inr (.inl ⟨rfl, h⟩))
theorem SmN.bp {x : SmX} {o : Nat} (h : o < 4) : SmN x x.bp o := .inr (.inr (.inr (.inl ⟨rfl, h⟩)))
theorem SmN.b7 {x : SmX} {o : Nat} (h : o < 3) : SmN x x.b7 o := .inr (.inr (.inr (.inr (.inr (.inr (.inl ⟨rfl, h⟩))))))
theorem SmN.b8 {x : SmX} {o : Nat} (h : o < 3) : SmN x x.b8 o := .inr (.inr (.inr (.inr (.inr (.inr (.inr (.inl ⟨rfl, h⟩)))))))
def RetT (W : World) (e : Ending) (w' : World) : Prop := e = .returned (.bool true) ∧ Below W.heap.size W w'
theorem sm_shares {x : SmX} {w0 w : World} (h : Sm x w0 w) (p : Int) : Calls Tryz.prog 7 #[.agg #[.int .i64 p, .slice (some ⟨x.bb, 0, none⟩) 3 3]] w (RetT w) := by
  obtain ⟨hs, hl, hc⟩ := nums_trips (n := 3) (fun o ho => (h.num x.bb o (SmN.bb ho)).1)
  have := feeShares_walk _ 3 p hs w hc
  rw [hl] at this
  exact this.mono fun _ _ h => h
theorem sm_given {x : SmX} {w0 w : World} (h : Sm x w0 w) (p days : Int) : Calls Tryz.prog 8 #[.agg #[.int .i64 p, .slice (some ⟨x.bb, 0, none⟩) 3 3], .slice (some ⟨x.b7, 0, none⟩) 3 3, .slice (some ⟨x.b8, 0, none⟩) 3 3, .int .i64 days] w (RetT w) := by
  obtain ⟨hs, hl, hc⟩ := nums_trips (n := 3) (fun o ho => (h.num x.bb o (SmN.bb ho)).1)
  obtain ⟨qs, hl1, hc1⟩ := nums_ints (n := 3) h.ord.d1 (fun o ho => (h.num x.b7 o (SmN.b7 ho)).1)
  obtain ⟨ls, hl2, hc2⟩ := nums_ints (n := 3) h.ord.d2 (fun o ho => (h.num x.b8 o (SmN.b8 ho)).1)
  have := feeGiven_walk _ 3 p hs _ 3 qs _ 3 ls days w hc hc1 hc2
  rw [hl, hl1, hl2] at this
  exact this.mono fun _ _ h => h
theorem sm_accounts {x : SmX} {w0 w : World} (h : Sm x w0 w) (g l day : Int) : Calls Tryz.prog 9 #[.agg #[.slice (some ⟨x.bc, 0, none⟩) 2 2, .slice (some ⟨x.bp, 0, none⟩) 2 2, .int .i64 g, .int .i64 l], .int .i64 day] w (RetT w) := by
  obtain ⟨cs, hl1, hc1⟩ := nums_pairs (n := 2) (fun o ho => (h.num x.bc o (SmN.bc ho)).1)
  obtain ⟨ps, hl2, hc2⟩ := nums_pairs (n := 2) (fun o ho => (h.num x.bp o (SmN.bp ho)).1)
  have := feeAccounts_walk _ 2 _ 2 cs ps g l day w hc1 hc2
  rw [hl1, hl2] at this
  exact this.mono fun _ _ h => h
theorem sm_tariffs {x : SmX} {w0 w : World} (h : Sm x w0 w) (a b : Int) : Calls Tryz.prog 10 #[.slice (some ⟨x.bt, 0, none⟩) 2 2, .int .i64 a, .int .i64 b] w (RetT w) := by
  obtain ⟨t, hl, hc⟩ := nums_pairs (n := 2) (fun o ho => (h.num x.bt o (SmN.bt ho)).1)
  have := feeTariffs_walk _ 2 t a b w hc
  rw [hl] at this
  exact this.mono fun _ _ h => h
/-- What a round reads of it. -/
theorem Sm.int {x : SmX} {w0 w : World} (h : Sm x w0 w) {b o : Nat} (hn : SmN x b o) : ∃ n, w.cell? ⟨b, o, none⟩ = some (.int .i64 n) := (h.num b o hn).1
/-- The small bill of the first loop. -/
structure Sq (w0 W : World) (g bb : Nat) : Prop where
  lt : g < W.heap.size
  c0 : W.cell? ⟨g, 0, none⟩ = some (.int .i64 20)
  c1 : W.cell? ⟨g, 1, none⟩ = some (.slice (some ⟨bb, 0, none⟩) 3 3)
  L : Lst W bb [5, 0, 100, 3, 2, 100, 1, 0, 100]
  bw : Below w0.heap.size w0 W
theorem Sq.next {w0 W w' : World} {g bb : Nat} (h : Sq w0 W g bb) (hb : Below W.heap.size W w') : Sq w0 w' g bb := ⟨Nat.lt_of_lt_of_le h.lt hb.size, hb.at_ h.lt h.c0, hb.at_ h.lt h.c1, h.L.below hb, h.bw.trans (hb.mono h.bw.size)⟩
theorem sq_start {w0 w2 W : World} {bb : Nat} {t : TypeId} (hb : Below w0.heap.size w0 w2) (hbb : w0.heap.size ≤ bb) (L : Lst w2 bb [5, 0, 100, 3, 0, 100, 1, 0, 100]) (e : W = (w2.setCell ⟨bb, 4, none⟩ (.int .i64 2)).alloc (.cells #[.int .i64 20, .slice (some ⟨bb, 0, none⟩) 3 3] t)) : Sq w0 W w2.heap.size bb := by
  have hz : (w2.setCell ⟨bb, 4, none⟩ (.int .i64 2)).heap.size = w2.heap.size := by simp [World.setCell]
  have hb2 : Below w0.heap.size w0 (w2.setCell ⟨bb, 4, none⟩ (.int .i64 2)) := hb.setCell hbb _
  have L2 := L.put (j := 4) (by simp) 2
  have kb := below_new (w2.setCell ⟨bb, 4, none⟩ (.int .i64 2)) (.cells #[.int .i64 20, .slice (some ⟨bb, 0, none⟩) 3 3] t)
  have k := fun j u (h : [Value.int .i64 20, .slice (some ⟨bb, 0, none⟩) 3 3][j]? = some u) => new_cell (w2.setCell ⟨bb, 4, none⟩ (.int .i64 2)) _ t _ j hz h
  subst e
  exact ⟨by simp, k 0 _ rfl, k 1 _ rfl, L2.below kb, hb2.trans (kb.mono hb2.size)⟩
theorem sq_appeals {w0 W : World} {g bb : Nat} (h : Sq w0 W g bb) (a b c : Int) : Calls Tryz.prog 11 #[.agg #[.int .i64 20, .slice (some ⟨bb, 0, none⟩) 3 3], .int .i64 a, .int .i64 b, .int .i64 c] W (RetT W) :=
  (feeAppeals_walk (some ⟨bb, 0, none⟩) 3 20 [(5, 0, 100), (3, 2, 100), (1, 0, 100)] a b c W ⟨by simp, h.L.rd⟩).mono fun _ _ h => h
end Go.Proofs.YtfojjecnmfkcfaaGreat
