/- The stable sort of houses by their remainders. -/
import Derived.Test.YtfojjecnmfkcfaaShares
import Derived.Laws.EntriesVeiled
namespace Go.Proofs.Ytfojjecnmfkcfaa
open Go.RowKit
set_option linter.unusedVariables false
/-- Two neighbours exchanged. -/
def swapL (d : List Int) (j : Nat) : List Int := (d.set (j + 1) (d.getD j 0)).set j (d.getD (j + 1) 0)
/-- The inner loop: the element at j goes down as long as it is less. -/
def insI (lt : Int → Int → Bool) : Nat → List Int → List Int
  | 0, d => d
  | j + 1, d => if lt (d.getD (j + 1) 0) (d.getD j 0) then insI lt j (swapL d j) else d
def insO (lt : Int → Int → Bool) : Nat → Nat → List Int → List Int
  | 0, _, d => d
  | f + 1, i, d => insO lt f (i + 1) (insI lt i d)
def insSort (lt : Int → Int → Bool) (d : List Int) : List Int := insO lt (d.length - 1) 1 d
theorem swapL_length (d : List Int) (j : Nat) : (swapL d j).length = d.length := by simp [swapL]
theorem swapL_mem {d : List Int} {j : Nat} (hj : j + 1 < d.length) : ∀ x ∈ swapL d j, x ∈ d := by
  intro x hx
  have h1 : d.getD j 0 ∈ d := by rw [List.getD_eq_getElem?_getD, List.getElem?_eq_getElem (by omega)]; exact List.getElem_mem _
  have h2 : d.getD (j + 1) 0 ∈ d := by rw [List.getD_eq_getElem?_getD, List.getElem?_eq_getElem hj]; exact List.getElem_mem _
  rcases List.mem_or_eq_of_mem_set hx with h | h
  · rcases List.mem_or_eq_of_mem_set h with h | h
    · exact h
    · rw [h]; exact h1
  · rw [h]; exact h2
theorem swapL_get {d : List Int} {j i : Nat} (hj : j + 1 < d.length) {u : Int} (h : (swapL d j)[i]? = some u) : (i = j ∧ u = d[j + 1]) ∨ (i = j + 1 ∧ u = d[j]'(by omega)) ∨ (i ≠ j ∧ i ≠ j + 1 ∧ d[i]? = some u) := by
  unfold swapL at h
  rw [List.getElem?_set] at h
  by_cases h1 : j = i
  · subst h1
    rw [if_pos rfl, if_pos (by rw [List.length_set]; omega)] at h
    injection h with h
    exact .inl ⟨rfl, by rw [← h, List.getD_eq_getElem?_getD, List.getElem?_eq_getElem hj]; rfl⟩
  · rw [if_neg h1, List.getElem?_set] at h
    by_cases h2 : j + 1 = i
    · subst h2
      rw [if_pos rfl, if_pos hj] at h
      injection h with h
      exact .inr (.inl ⟨rfl, by rw [← h, List.getD_eq_getElem?_getD, List.getElem?_eq_getElem (show j < d.length by omega)]; rfl⟩)
    · rw [if_neg h2] at h
      exact .inr (.inr ⟨fun e => h1 e.symm, fun e => h2 e.symm, h⟩)
/-- A row of integers that may be written. -/
structure Lst (w : World) (b : Nat) (d : List Int) : Prop where
  lt : b < w.heap.size
  cells : ∀ j u, d[j]? = some u → w.cell? ⟨b, j, none⟩ = some (.int .i64 u)
  free : ∀ o, w.frozen? ⟨b, o, none⟩ = false
theorem Lst.below {w w' : World} {b : Nat} {d : List Int} (h : Lst w b d) (hb : Below w.heap.size w w') : Lst w' b d :=
  ⟨Nat.lt_of_lt_of_le h.lt hb.size, fun j u hu => (hb.cell (p := ⟨b, j, none⟩) h.lt).trans (h.cells j u hu), fun o => (hb.frozen (p := ⟨b, o, none⟩) h.lt).trans (h.free o)⟩
theorem Lst.at_ {w : World} {b : Nat} {d : List Int} (h : Lst w b d) {j : Nat} (hj : j < d.length) : w.cell? ⟨b, j, none⟩ = some (.int .i64 d[j]) := h.cells j _ (List.getElem?_eq_getElem hj)
/-- What the sort's comparison reads. -/
structure CmpEnv (w : World) (bb bd g : Nat) (p : Int) (A : Option Addr) (c : Nat) (hs : List (Int × Int × Int)) (ps : List Int) (B : Nat) : Prop where
  desk : Desk w g p A hs.length c ps
  bill0 : w.cell? ⟨bb, 0, none⟩ = some (.int .i64 p)
  bill1 : w.cell? ⟨bb, 1, none⟩ = some (.slice A hs.length c)
  box : w.cell? ⟨bd, 0, none⟩ = some (.pointer (some ⟨g, 0, none⟩))
  rd : Rd w B A (trips hs)
  lb : bb < w.heap.size
  ld : bd < w.heap.size
  le : B ≤ w.heap.size
theorem CmpEnv.keep {w w' : World} {bb bd g : Nat} {p : Int} {A : Option Addr} {c : Nat} {hs : List (Int × Int × Int)} {ps : List Int} {B : Nat} (h : CmpEnv w bb bd g p A c hs ps B) (hz : w.heap.size ≤ w'.heap.size)
    (hg : ∀ k, k = g ∨ k = bb ∨ k = bd ∨ k < B → w'.heap[k]? = w.heap[k]?) : CmpEnv w' bb bd g p A c hs ps B :=
  ⟨h.desk.of_cells (Nat.lt_of_lt_of_le h.desk.lt hz) (hg g (.inl rfl)), (World.cell?_of_block (a := ⟨bb, 0, none⟩) (hg bb (.inr (.inl rfl)))).trans h.bill0, (World.cell?_of_block (a := ⟨bb, 1, none⟩) (hg bb (.inr (.inl rfl)))).trans h.bill1,
    (World.cell?_of_block (a := ⟨bd, 0, none⟩) (hg bd (.inr (.inr (.inl rfl))))).trans h.box, h.rd.keep fun b o hb => World.cell?_of_block (a := ⟨b, o, none⟩) (hg b (.inr (.inr (.inr hb)))), Nat.lt_of_lt_of_le h.lb hz, Nat.lt_of_lt_of_le h.ld hz, Nat.le_trans h.le hz⟩
theorem CmpEnv.below {w w' : World} {bb bd g : Nat} {p : Int} {A : Option Addr} {c : Nat} {hs : List (Int × Int × Int)} {ps : List Int} {B : Nat} (h : CmpEnv w bb bd g p A c hs ps B) (hb : Below w.heap.size w w') : CmpEnv w' bb bd g p A c hs ps B :=
  h.keep hb.size fun k hk => hb.block k (by have := h.desk.lt; have := h.lb; have := h.ld; have := h.le; omega)
theorem CmpEnv.grown {w w' : World} {bb bd g : Nat} {p : Int} {A : Option Addr} {c : Nat} {hs : List (Int × Int × Int)} {ps : List Int} {B bs : Nat} (h : CmpEnv w bb bd g p A c hs ps B) (hb : w.grownBy w' (some bs)) (h1 : bs ≠ bb) (h2 : bs ≠ bd) (h3 : bs ≠ g) (h4 : B ≤ bs) : CmpEnv w' bb bd g p A c hs ps B :=
  h.keep hb.size fun k hk => hb.block k (by have := h.desk.lt; have := h.lb; have := h.ld; have := h.le; omega) (by intro e; injection e; omega)
/-- The remainder of a house, and how two houses are compared. -/
def remOf (p : Int) (hs : List (Int × Int × Int)) (i : Int) : Int := p * (hs.getD i.toNat (0, 0, 0)).1 % valueSum hs
def cmpRem (p : Int) (hs : List (Int × Int × Int)) (i k : Int) : Int := remOf p hs k - remOf p hs i
theorem keepC {w0 w1 w2 : World} {b1 b2 b3 o3 o4 o5 : Nat} {v1 v2 v3 v4 v5 : Value} (h1 : b1 < w0.heap.size) (h2 : b2 < w0.heap.size) (h3 : b3 < w0.heap.size)
    (h : w1.cell? ⟨b1, 0, none⟩ = some v1 ∧ w1.cell? ⟨b1, 1, none⟩ = some v2 ∧ w1.cell? ⟨b2, o3, none⟩ = some v3 ∧ w1.cell? ⟨b3, o4, none⟩ = some v4 ∧ w1.cell? ⟨b3, o5, none⟩ = some v5 ∧ Below w0.heap.size w0 w1) (hb : Below w1.heap.size w1 w2) :
    w2.cell? ⟨b1, 0, none⟩ = some v1 ∧ w2.cell? ⟨b1, 1, none⟩ = some v2 ∧ w2.cell? ⟨b2, o3, none⟩ = some v3 ∧ w2.cell? ⟨b3, o4, none⟩ = some v4 ∧ w2.cell? ⟨b3, o5, none⟩ = some v5 ∧ Below w0.heap.size w0 w2 := by
  obtain ⟨a, b, c, d, f, e⟩ := h
  have hz := e.size
  exact ⟨(hb.cell (p := ⟨b1, 0, none⟩) (Nat.lt_of_lt_of_le h1 hz)).trans a, (hb.cell (p := ⟨b1, 1, none⟩) (Nat.lt_of_lt_of_le h1 hz)).trans b, (hb.cell (p := ⟨b2, o3, none⟩) (Nat.lt_of_lt_of_le h2 hz)).trans c, (hb.cell (p := ⟨b3, o4, none⟩) (Nat.lt_of_lt_of_le h3 hz)).trans d, (hb.cell (p := ⟨b3, o5, none⟩) (Nat.lt_of_lt_of_le h3 hz)).trans f, e.trans (hb.mono hz)⟩
theorem and6 {a b c d e f : Prop} (h : a ∧ b ∧ c ∧ d ∧ e ∧ f) : f := h.2.2.2.2.2
theorem valueSum_pos {hs : List (Int × Int × Int)} (ho : housesOk hs) (h : valueSum hs ≠ 0) : 0 < valueSum hs ∧ valueSum hs ≤ 6000 := by
  have h1 := valueSum_bd hs ho hs.length
  rw [List.take_of_length_le (by simp)] at h1
  have : valueSum hs = (hs.map (·.1)).sum := rfl
  omega
set_option maxHeartbeats 1000000 in
theorem cmp_any (bb bd g : Nat) (p : Int) (A : Option Addr) (c : Nat) (hs : List (Int × Int × Int)) (ps : List Int) (B : Nat) (w : World) (he : CmpEnv w bb bd g p A c hs ps B) (ho : housesOk hs) (h0 : valueSum hs ≠ 0) (hp : 0 ≤ p) (hp5 : p ≤ 500)
    (i k : Nat) (hi : i < hs.length) (hk : k < hs.length) :
    Calls Try.prog 121 #[.int .i64 i, .int .i64 k, .pointer (some ⟨bb, 0, none⟩), .pointer (some ⟨bd, 0, none⟩)] w fun e w' => e = .returned (.int .i64 (cmpRem p hs i k)) ∧ Below w.heap.size w w' := by
  obtain ⟨hd, hb0, hb1, hbx, hr, lb, ld, le⟩ := he
  obtain ⟨bh, oh, rfl, hbh, hc1, hc2, hc3⟩ := hr.trip hi
  obtain ⟨hc4, hc5, hc6⟩ := hr.trip' hk
  have hbh' : bh < w.heap.size := Nat.lt_of_lt_of_le hbh le
  obtain ⟨hV1, hV2⟩ := valueSum_pos ho h0
  have hT : ∀ W, Below w.heap.size w W → Hid (Calls Try.prog 116 #[.pointer (some ⟨g, 0, none⟩)] W fun e w' => e = .returned (.int .i64 (valueSum hs)) ∧ Below W.heap.size W w') := fun W hW => total_any g p _ c hs ps W (hd.below hW) ((hr.more le).next hW) ho
  obtain ⟨u1, u2, _⟩ := ho.2 hs[i] (List.getElem_mem _)
  obtain ⟨v1, v2, _⟩ := ho.2 hs[k] (List.getElem_mem _)
  obtain ⟨m1, m2⟩ := mul_bd hp hp5 u1 u2 (by omega)
  obtain ⟨m3, m4⟩ := mul_bd hp hp5 v1 v2 (by omega)
  have e1 : (hs.getD i (0, 0, 0)) = hs[i] := by simp [List.getD_eq_getElem?_getD, List.getElem?_eq_getElem hi]
  have e2 : (hs.getD k (0, 0, 0)) = hs[k] := by simp [List.getD_eq_getElem?_getD, List.getElem?_eq_getElem hk]
  have hres : cmpRem p hs i k = (p * hs[k].1) % valueSum hs - (p * hs[i].1) % valueSum hs := by
    unfold cmpRem remOf
    rw [Int.toNat_natCast, Int.toNat_natCast, e1, e2]
  have HR := Lib.hid hres
  have w1 : IntKind.i64.wrap (p * hs[i].1) = p * hs[i].1 := IntWalk.i64_in _ (by omega)
  have w2 : IntKind.i64.wrap (p * hs[k].1) = p * hs[k].1 := IntWalk.i64_in _ (by omega)
  have r1 : 0 ≤ (p * hs[i].1) % valueSum hs := Int.emod_nonneg _ h0
  have r2 : (p * hs[i].1) % valueSum hs < valueSum hs := Int.emod_lt_of_pos _ hV1
  have r3 : 0 ≤ (p * hs[k].1) % valueSum hs := Int.emod_nonneg _ h0
  have r4 : (p * hs[k].1) % valueSum hs < valueSum hs := Int.emod_lt_of_pos _ hV1
  have t1 : (p * hs[i].1).tmod (valueSum hs) = (p * hs[i].1) % valueSum hs := Int.tmod_eq_emod_of_nonneg m1
  have t2 : (p * hs[k].1).tmod (valueSum hs) = (p * hs[k].1) % valueSum hs := Int.tmod_eq_emod_of_nonneg m3
  have w3 : IntKind.i64.wrap ((p * hs[k].1) % valueSum hs) = (p * hs[k].1) % valueSum hs := IntWalk.i64_in _ (by omega)
  have w4 : IntKind.i64.wrap ((p * hs[i].1) % valueSum hs) = (p * hs[i].1) % valueSum hs := IntWalk.i64_in _ (by omega)
  have w5 : IntKind.i64.wrap ((p * hs[k].1) % valueSum hs - (p * hs[i].1) % valueSum hs) = (p * hs[k].1) % valueSum hs - (p * hs[i].1) % valueSum hs := IntWalk.i64_in _ (by omega)
  have hz : (valueSum hs == 0) = false := by rw [beq_eq_false_iff_ne]; exact h0
  have hil : (i : Int) < hs.length := by omega
  have hkl : (k : Int) < hs.length := by omega
  clear hres e1 e2 hd hr ho
  go_enter Try.func121, Try.ntmps121
  go_wp2_with fail
  go_region_held3 (fun w' => w'.cell? ⟨bb, 0, none⟩ = some (.int .i64 p) ∧ w'.cell? ⟨bb, 1, none⟩ = some (.slice (some ⟨bh, oh, none⟩) hs.length c) ∧ w'.cell? ⟨bd, 0, none⟩ = some (.pointer (some ⟨g, 0, none⟩)) ∧ w'.cell? ⟨bh, oh + i * 3, none⟩ = some (.int .i64 hs[i].1) ∧ w'.cell? ⟨bh, oh + k * 3, none⟩ = some (.int .i64 hs[k].1) ∧ Below w.heap.size w w')
    (first | exact ⟨hb0, hb1, hbx, hc1, hc4, (Below.refl _ _).drew⟩ | exact keepC lb ld hbh' (by assumption) (by assumption))
    (first | (go_at_call 116; refine ((hT _ (and6 (by assumption))).out).mono ?_; rintro e w' ⟨rfl, hbT⟩))
  go_wp2_with fail
  go_ret
  exact ⟨ret_int HR.out.symm, and6 (by assumption)⟩
end Go.Proofs.Ytfojjecnmfkcfaa
