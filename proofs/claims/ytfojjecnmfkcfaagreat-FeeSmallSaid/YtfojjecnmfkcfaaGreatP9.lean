/- The stable sort of houses by their remainders. The insertion sort, and the stable sort, of houses by remainders. The stable sort, called through. The shares by remainders: plain mathematics. -/
import Derived.Test.YtfojjecnmfkcfaaGreatP8
import Derived.Laws.EntriesVeiled
import Derived.BigQuiet
import Derived.BigRegion
import Derived.Test.YtfojjecnmfkcfaaGreatP7
namespace Go.Proofs.YtfojjecnmfkcfaaGreat
open Go.RowKit
set_option linter.unusedVariables false
/-- Two neighbours exchanged. -/
def swapL (d : List Int) (j : Nat) : List Int := (d.set (j + 1) (d.getD j 0)).set j (d.getD (j + 1) 0)
/-- The inner loop: the element at j goes down as long as it is less. -/
def insI (lt : Int → Int → Bool) : Nat → List Int → List Int
  | 0, d => d
  | j + 1, d => if lt (d.getD (j + 1) 0) (d.getD j 0) then insI lt j (swapL d j) else d
def insO (lt : Int → Int → Bool) : Nat → Nat → List Int → List Int
  | 0, _, d => d
  | f + 1, i, d => insO lt f (i + 1) (insI lt i d)
def insSort (lt : Int → Int → Bool) (d : List Int) : List Int := insO lt (d.length - 1) 1 d
theorem swapL_length (d : List Int) (j : Nat) : (swapL d j).length = d.length := by simp [swapL]
theorem swapL_mem {d : List Int} {j : Nat} (hj : j + 1 < d.length) : ∀ x ∈ swapL d j, x ∈ d := by
  intro x hx
  have h1 : d.getD j 0 ∈ d := by rw [List.getD_eq_getElem?_getD, List.getElem?_eq_getElem (by omega)]; exact List.getElem_mem _
  have h2 : d.getD (j + 1) 0 ∈ d := by rw [List.getD_eq_getElem?_getD, List.getElem?_eq_getElem hj]; exact List.getElem_mem _
  rcases List.mem_or_eq_of_mem_set hx with h | h
  · rcases List.mem_or_eq_of_mem_set h with h | h
    · exact h
    · rw [h]; exact h1
  · rw [h]; exact h2
theorem swapL_get {d : List Int} {j i : Nat} (hj : j + 1 < d.length) {u : Int} (h : (swapL d j)[i]? = some u) : (i = j ∧ u = d[j + 1]) ∨ (i = j + 1 ∧ u = d[j]'(by omega)) ∨ (i ≠ j ∧ i ≠ j + 1 ∧ d[i]? = some u) := by
  unfold swapL at h
  rw [List.getElem?_set] at h
  by_cases h1 : j = i
  · subst h1
    rw [if_pos rfl, if_pos (by rw [List.length_set]; omega)] at h
    injection h with h
    exact .inl ⟨rfl, by rw [← h, List.getD_eq_getElem?_getD, List.getElem?_eq_getElem hj]; rfl⟩
  · rw [if_neg h1, List.getElem?_set] at h
    by_cases h2 : j + 1 = i
    · subst h2
      rw [if_pos rfl, if_pos hj] at h
      injection h with h
      exact .inr (.inl ⟨rfl, by rw [← h, List.getD_eq_getElem?_getD, List.getElem?_eq_getElem (show j < d.length by omega)]; rfl⟩)
    · rw [if_neg h2] at h
      exact .inr (.inr ⟨fun e => h1 e.symm, fun e => h2 e.symm, h⟩)
/-- A row of integers that may be written. -/
structure Lst (w : World) (b : Nat) (d : List Int) : Prop where
  lt : b < w.heap.size
  cells : ∀ j u, d[j]? = some u → w.cell? ⟨b, j, none⟩ = some (.int .i64 u)
  free : ∀ o, w.frozen? ⟨b, o, none⟩ = false
theorem Lst.below {w w' : World} {b : Nat} {d : List Int} (h : Lst w b d) (hb : Below w.heap.size w w') : Lst w' b d :=
  ⟨Nat.lt_of_lt_of_le h.lt hb.size, fun j u hu => (hb.cell (p := ⟨b, j, none⟩) h.lt).trans (h.cells j u hu), fun o => (hb.frozen (p := ⟨b, o, none⟩) h.lt).trans (h.free o)⟩
theorem Lst.at_ {w : World} {b : Nat} {d : List Int} (h : Lst w b d) {j : Nat} (hj : j < d.length) : w.cell? ⟨b, j, none⟩ = some (.int .i64 d[j]) := h.cells j _ (List.getElem?_eq_getElem hj)
/-- What the sort's comparison reads. -/
structure CmpEnv (w : World) (bb bd g : Nat) (p : Int) (A : Option Addr) (c : Nat) (hs : List (Int × Int × Int)) (ps : List Int) (B : Nat) : Prop where
  desk : Desk w g p A hs.length c ps
  bill0 : w.cell? ⟨bb, 0, none⟩ = some (.int .i64 p)
  bill1 : w.cell? ⟨bb, 1, none⟩ = some (.slice A hs.length c)
  box : w.cell? ⟨bd, 0, none⟩ = some (.pointer (some ⟨g, 0, none⟩))
  rd : Rd w B A (trips hs)
  lb : bb < w.heap.size
  ld : bd < w.heap.size
  le : B ≤ w.heap.size
theorem CmpEnv.keep {w w' : World} {bb bd g : Nat} {p : Int} {A : Option Addr} {c : Nat} {hs : List (Int × Int × Int)} {ps : List Int} {B : Nat} (h : CmpEnv w bb bd g p A c hs ps B) (hz : w.heap.size ≤ w'.heap.size)
    (hg : ∀ k, k = g ∨ k = bb ∨ k = bd ∨ k < B → w'.heap[k]? = w.heap[k]?) : CmpEnv w' bb bd g p A c hs ps B :=
  ⟨h.desk.of_cells (Nat.lt_of_lt_of_le h.desk.lt hz) (hg g (.inl rfl)), (World.cell?_of_block (a := ⟨bb, 0, none⟩) (hg bb (.inr (.inl rfl)))).trans h.bill0, (World.cell?_of_block (a := ⟨bb, 1, none⟩) (hg bb (.inr (.inl rfl)))).trans h.bill1,
    (World.cell?_of_block (a := ⟨bd, 0, none⟩) (hg bd (.inr (.inr (.inl rfl))))).trans h.box, h.rd.keep fun b o hb => World.cell?_of_block (a := ⟨b, o, none⟩) (hg b (.inr (.inr (.inr hb)))), Nat.lt_of_lt_of_le h.lb hz, Nat.lt_of_lt_of_le h.ld hz, Nat.le_trans h.le hz⟩
theorem CmpEnv.below {w w' : World} {bb bd g : Nat} {p : Int} {A : Option Addr} {c : Nat} {hs : List (Int × Int × Int)} {ps : List Int} {B : Nat} (h : CmpEnv w bb bd g p A c hs ps B) (hb : Below w.heap.size w w') : CmpEnv w' bb bd g p A c hs ps B :=
  h.keep hb.size fun k hk => hb.block k (by have := h.desk.lt; have := h.lb; have := h.ld; have := h.le; omega)
theorem CmpEnv.grown {w w' : World} {bb bd g : Nat} {p : Int} {A : Option Addr} {c : Nat} {hs : List (Int × Int × Int)} {ps : List Int} {B bs : Nat} (h : CmpEnv w bb bd g p A c hs ps B) (hb : w.grownBy w' (some bs)) (h1 : bs ≠ bb) (h2 : bs ≠ bd) (h3 : bs ≠ g) (h4 : B ≤ bs) : CmpEnv w' bb bd g p A c hs ps B :=
  h.keep hb.size fun k hk => hb.block k (by have := h.desk.lt; have := h.lb; have := h.ld; have := h.le; omega) (by intro e; injection e; omega)
/-- The remainder of a house, and how two houses are compared. -/
def remOf (p : Int) (hs : List (Int × Int × Int)) (i : Int) : Int := p * (hs.getD i.toNat (0, 0, 0)).1 % valueSum hs
def cmpRem (p : Int) (hs : List (Int × Int × Int)) (i k : Int) : Int := remOf p hs k - remOf p hs i
theorem keepC {w0 w1 w2 : World} {b1 b2 b3 o3 o4 o5 : Nat} {v1 v2 v3 v4 v5 : Value} (h1 : b1 < w0.heap.size) (h2 : b2 < w0.heap.size) (h3 : b3 < w0.heap.size)
    (h : w1.cell? ⟨b1, 0, none⟩ = some v1 ∧ w1.cell? ⟨b1, 1, none⟩ = some v2 ∧ w1.cell? ⟨b2, o3, none⟩ = some v3 ∧ w1.cell? ⟨b3, o4, none⟩ = some v4 ∧ w1.cell? ⟨b3, o5, none⟩ = some v5 ∧ Below w0.heap.size w0 w1) (hb : Below w1.heap.size w1 w2) :
    w2.cell? ⟨b1, 0, none⟩ = some v1 ∧ w2.cell? ⟨b1, 1, none⟩ = some v2 ∧ w2.cell? ⟨b2, o3, none⟩ = some v3 ∧ w2.cell? ⟨b3, o4, none⟩ = some v4 ∧ w2.cell? ⟨b3, o5, none⟩ = some v5 ∧ Below w0.heap.size w0 w2 := by
  obtain ⟨a, b, c, d, f, e⟩ := h
  have hz := e.size
  exact ⟨(hb.cell (p := ⟨b1, 0, none⟩) (Nat.lt_of_lt_of_le h1 hz)).trans a, (hb.cell (p := ⟨b1, 1, none⟩) (Nat.lt_of_lt_of_le h1 hz)).trans b, (hb.cell (p := ⟨b2, o3, none⟩) (Nat.lt_of_lt_of_le h2 hz)).trans c, (hb.cell (p := ⟨b3, o4, none⟩) (Nat.lt_of_lt_of_le h3 hz)).trans d, (hb.cell (p := ⟨b3, o5, none⟩) (Nat.lt_of_lt_of_le h3 hz)).trans f, e.trans (hb.mono hz)⟩
theorem and6 {a b c d e f : Prop} (h : a ∧ b ∧ c ∧ d ∧ e ∧ f) : f := h.2.2.2.2.2
theorem valueSum_pos {hs : List (Int × Int × Int)} (ho : housesOk hs) (h : valueSum hs ≠ 0) : 0 < valueSum hs ∧ valueSum hs ≤ 6000 := by
  have h1 := valueSum_bd hs ho hs.length
  rw [List.take_of_length_le (by simp)] at h1
  have : valueSum hs = (hs.map (·.1)).sum := rfl
  omega
set_option maxHeartbeats 1000000 in
theorem cmp_any (bb bd g : Nat) (p : Int) (A : Option Addr) (c : Nat) (hs : List (Int × Int × Int)) (ps : List Int) (B : Nat) (w : World) (he : CmpEnv w bb bd g p A c hs ps B) (ho : housesOk hs) (h0 : valueSum hs ≠ 0) (hp : 0 ≤ p) (hp5 : p ≤ 500)
    (i k : Nat) (hi : i < hs.length) (hk : k < hs.length) :
    Calls Tryz.prog 81 #[.int .i64 i, .int .i64 k, .pointer (some ⟨bb, 0, none⟩), .pointer (some ⟨bd, 0, none⟩)] w fun e w' => e = .returned (.int .i64 (cmpRem p hs i k)) ∧ Below w.heap.size w w' := by
  obtain ⟨hd, hb0, hb1, hbx, hr, lb, ld, le⟩ := he
  obtain ⟨bh, oh, rfl, hbh, hc1, hc2, hc3⟩ := hr.trip hi
  obtain ⟨hc4, hc5, hc6⟩ := hr.trip' hk
  have hbh' : bh < w.heap.size := Nat.lt_of_lt_of_le hbh le
  obtain ⟨hV1, hV2⟩ := valueSum_pos ho h0
  have hT : ∀ W, Below w.heap.size w W → Hid (Calls Tryz.prog 76 #[.pointer (some ⟨g, 0, none⟩)] W fun e w' => e = .returned (.int .i64 (valueSum hs)) ∧ Below W.heap.size W w') := fun W hW => total_any g p _ c hs ps W (hd.below hW) ((hr.more le).next hW) ho
  obtain ⟨u1, u2, _⟩ := ho.2 hs[i] (List.getElem_mem _)
  obtain ⟨v1, v2, _⟩ := ho.2 hs[k] (List.getElem_mem _)
  obtain ⟨m1, m2⟩ := mul_bd hp hp5 u1 u2 (by omega)
  obtain ⟨m3, m4⟩ := mul_bd hp hp5 v1 v2 (by omega)
  have e1 : (hs.getD i (0, 0, 0)) = hs[i] := by simp [List.getD_eq_getElem?_getD, List.getElem?_eq_getElem hi]
  have e2 : (hs.getD k (0, 0, 0)) = hs[k] := by simp [List.getD_eq_getElem?_getD, List.getElem?_eq_getElem hk]
  have hres : cmpRem p hs i k = (p * hs[k].1) % valueSum hs - (p * hs[i].1) % valueSum hs := by
    unfold cmpRem remOf
    rw [Int.toNat_natCast, Int.toNat_natCast, e1, e2]
  have HR := Lib.hid hres
  have w1 : IntKind.i64.wrap (p * hs[i].1) = p * hs[i].1 := IntWalk.i64_in _ (by omega)
  have w2 : IntKind.i64.wrap (p * hs[k].1) = p * hs[k].1 := IntWalk.i64_in _ (by omega)
  have r1 : 0 ≤ (p * hs[i].1) % valueSum hs := Int.emod_nonneg _ h0
  have r2 : (p * hs[i].1) % valueSum hs < valueSum hs := Int.emod_lt_of_pos _ hV1
  have r3 : 0 ≤ (p * hs[k].1) % valueSum hs := Int.emod_nonneg _ h0
  have r4 : (p * hs[k].1) % valueSum hs < valueSum hs := Int.emod_lt_of_pos _ hV1
  have t1 : (p * hs[i].1).tmod (valueSum hs) = (p * hs[i].1) % valueSum hs := Int.tmod_eq_emod_of_nonneg m1
  have t2 : (p * hs[k].1).tmod (valueSum hs) = (p * hs[k].1) % valueSum hs := Int.tmod_eq_emod_of_nonneg m3
  have w3 : IntKind.i64.wrap ((p * hs[k].1) % valueSum hs) = (p * hs[k].1) % valueSum hs := IntWalk.i64_in _ (by omega)
  have w4 : IntKind.i64.wrap ((p * hs[i].1) % valueSum hs) = (p * hs[i].1) % valueSum hs := IntWalk.i64_in _ (by omega)
  have w5 : IntKind.i64.wrap ((p * hs[k].1) % valueSum hs - (p * hs[i].1) % valueSum hs) = (p * hs[k].1) % valueSum hs - (p * hs[i].1) % valueSum hs := IntWalk.i64_in _ (by omega)
  have hz : (valueSum hs == 0) = false := by rw [beq_eq_false_iff_ne]; exact h0
  have hil : (i : Int) < hs.length := by omega
  have hkl : (k : Int) < hs.length := by omega
  clear hres e1 e2 hd hr ho
  go_enter Tryz.func81, Tryz.ntmps81
  go_wp2_with fail
  go_region_held3 (fun w' => w'.cell? ⟨bb, 0, none⟩ = some (.int .i64 p) ∧ w'.cell? ⟨bb, 1, none⟩ = some (.slice (some ⟨bh, oh, none⟩) hs.length c) ∧ w'.cell? ⟨bd, 0, none⟩ = some (.pointer (some ⟨g, 0, none⟩)) ∧ w'.cell? ⟨bh, oh + i * 3, none⟩ = some (.int .i64 hs[i].1) ∧ w'.cell? ⟨bh, oh + k * 3, none⟩ = some (.int .i64 hs[k].1) ∧ Below w.heap.size w w')
    (first | exact ⟨hb0, hb1, hbx, hc1, hc4, (Below.refl _ _).drew⟩ | exact keepC lb ld hbh' (by assumption) (by assumption))
    (first | (go_at_call 76; refine ((hT _ (and6 (by assumption))).out).mono ?_; rintro e w' ⟨rfl, hbT⟩))
  go_wp2_with fail
  go_ret
  exact ⟨ret_int HR.out.symm, and6 (by assumption)⟩
end Go.Proofs.YtfojjecnmfkcfaaGreat
namespace Go.Proofs.YtfojjecnmfkcfaaGreat
open Go.RowKit
set_option linter.unusedVariables false
theorem Lst.put {w : World} {b : Nat} {d : List Int} (h : Lst w b d) {j : Nat} (hj : j < d.length) (v : Int) : Lst (w.setCell ⟨b, j, none⟩ (.int .i64 v)) b (d.set j v) := by
  have hat := h.at_ hj
  refine ⟨by simpa [World.setCell] using h.lt, fun i u hu => ?_, fun o => by rw [World.frozen?_setCell]; exact h.free o⟩
  rw [List.getElem?_set] at hu
  by_cases e : j = i
  · subst e
    rw [if_pos rfl, if_pos hj] at hu
    cases hu
    exact World.cell?_setCell_same' _ _ _ (by rw [hat]; rfl)
  · rw [if_neg e] at hu
    rw [World.cell?_setCell_other _ _ _ _ (by intro e'; injection e'; omega)]
    exact h.cells i u hu
theorem swapL_eq {d : List Int} {j : Nat} (hj : j + 1 < d.length) : swapL d j = (d.set (j + 1) (d[j]'(by omega))).set j d[j + 1] := by
  have e1 : d.getD (j + 1) 0 = d[j + 1] := by simp [List.getD_eq_getElem?_getD, List.getElem?_eq_getElem hj]
  have e2 : d.getD j 0 = d[j]'(by omega) := by simp [List.getD_eq_getElem?_getD, List.getElem?_eq_getElem (show j < d.length by omega)]
  unfold swapL
  rw [e1, e2]
theorem Lst.drewN {w : World} {b : Nat} {d : List Int} (h : Lst w b d) (n : Nat) : Lst (w.drewN n) b d := ⟨h.lt, h.cells, h.free⟩
theorem below_grown {w w' : World} (g : Option Nat) (h : Below w.heap.size w w') : w.grownBy w' g := ⟨h.os, h.tape, h.output, h.size, fun k hk _ => h.block k hk⟩
theorem keepL {w0 w1 w2 : World} {b o1 o2 : Nat} {v1 v2 : Value} (h1 : b < w0.heap.size) (h : w1.cell? ⟨b, o1, none⟩ = some v1 ∧ w1.cell? ⟨b, o2, none⟩ = some v2 ∧ Below w0.heap.size w0 w1) (hb : Below w1.heap.size w1 w2) :
    w2.cell? ⟨b, o1, none⟩ = some v1 ∧ w2.cell? ⟨b, o2, none⟩ = some v2 ∧ Below w0.heap.size w0 w2 := by
  obtain ⟨a, b, e⟩ := h
  have hz := e.size
  exact ⟨(hb.cell (p := ⟨_, o1, none⟩) (Nat.lt_of_lt_of_le h1 hz)).trans a, (hb.cell (p := ⟨_, o2, none⟩) (Nat.lt_of_lt_of_le h1 hz)).trans b, e.trans (hb.mono hz)⟩
theorem and3s {a b c : Prop} (h : a ∧ b ∧ c) : c := h.2.2
theorem insI_stop {lt : Int → Int → Bool} {j : Nat} {d : List Int} (h : lt (d.getD (j + 1) 0) (d.getD j 0) = false) : insI lt (j + 1) d = d := by unfold insI; rw [if_neg (by rw [h]; simp)]
theorem insI_go {lt : Int → Int → Bool} {j : Nat} {d : List Int} (h : lt (d.getD (j + 1) 0) (d.getD j 0) = true) : insI lt (j + 1) d = insI lt j (swapL d j) := by rw [insI, if_pos h]
def ltRem (p : Int) (hs : List (Int × Int × Int)) (i k : Int) : Bool := decide (cmpRem p hs i k < 0)
/-- What the sort leaves. -/
def SortedTo (bs : Nat) (d : List Int) (W : World) (e : Ending) (w' : World) : Prop := e = .returned (.tuple #[]) ∧ Lst w' bs d ∧ W.grownBy w' (some bs)
set_option maxHeartbeats 4000000 in
theorem insertion_any (bb bd g : Nat) (p : Int) (A : Option Addr) (c : Nat) (hs : List (Int × Int × Int)) (ps : List Int) (B bs cap : Nat) (d : List Int) (w : World) (he : CmpEnv w bb bd g p A c hs ps B) (ho : housesOk hs) (h0 : valueSum hs ≠ 0) (hp : 0 ≤ p) (hp5 : p ≤ 500)
    (hL : Lst w bs d) (h1 : bs ≠ bb) (h2 : bs ≠ bd) (h3 : bs ≠ g) (h4 : B ≤ bs) (hd1 : 1 ≤ d.length) (hd6 : d.length ≤ 6) (hm : ∀ x ∈ d, ∃ i : Nat, x = i ∧ i < hs.length) :
    Calls Tryz.prog 129 #[.slice (some ⟨bs, 0, none⟩) d.length cap, .int .i64 0, .int .i64 d.length, .func (.func 81) #[] #[.pointer (some ⟨bb, 0, none⟩), .pointer (some ⟨bd, 0, none⟩)]] w (SortedTo bs (insSort (ltRem p hs) d) w) := by
  have HC : ∀ (W : World), w.grownBy W (some bs) → ∀ x y : Int, (∃ i : Nat, x = i ∧ i < hs.length) → (∃ i : Nat, y = i ∧ i < hs.length) → Hid (Calls Tryz.prog 81 #[.int .i64 x, .int .i64 y, .pointer (some ⟨bb, 0, none⟩), .pointer (some ⟨bd, 0, none⟩)] W fun e w' => e = .returned (.int .i64 (cmpRem p hs x y)) ∧ Below W.heap.size W w') := by
    rintro W hW x y ⟨i, rfl, hi⟩ ⟨k, rfl, hk⟩
    exact cmp_any bb bd g p A c hs ps B W (he.grown hW h1 h2 h3 h4) ho h0 hp hp5 i k hi hk
  have HLw := Lib.hid hL
  have HM := Lib.hid hm
  clear hL hm he ho h0
  go_enter Tryz.func129, Tryz.ntmps129
  go_wp2_with fail
  go_loopw [8] (fun vi wr => ∃ (i : Nat) (dk : List Int), vi = .int .i64 i ∧ 1 ≤ i ∧ i ≤ d.length ∧ dk.length = d.length ∧ Hid (insO (ltRem p hs) (d.length - i) i dk = insSort (ltRem p hs) d) ∧ Hid (Lst wr bs dk) ∧ w.grownBy wr (some bs) ∧ Hid (∀ x ∈ dk, x ∈ d)) (fun i _ => d.length - (intOf i).toNat)
  case atStart => exact ⟨1, d, by go_num, by omega, hd1, rfl, rfl, HLw, grownBy_self _ _, fun x hx => hx⟩
  case round =>
    obtain ⟨i, dk, rfl, hi1, hin, hdl, HO, HL, hgr, HMk⟩ := hrel
    by_cases hlt : i < d.length
    · have hltz : (i : Int) < (d.length : Int) := by omega
      go_wp2_with fail
      go_loopw [9] (fun vj wr2 => ∃ (j : Nat) (dj : List Int), vj = .int .i64 j ∧ j ≤ i ∧ dj.length = d.length ∧ Hid (insI (ltRem p hs) j dj = insI (ltRem p hs) i dk) ∧ Hid (Lst wr2 bs dj) ∧ w.grownBy wr2 (some bs) ∧ Hid (∀ x ∈ dj, x ∈ d)) (fun j _ => (intOf j).toNat)
      case atStart => exact ⟨i, dk, rfl, Nat.le_refl _, hdl, rfl, HL, hgr, HMk⟩
      case round =>
        obtain ⟨j, dj, rfl, hji, hjl, HI, HLj, hgj, HMj⟩ := hrel
        have OUT : Hid (insI (ltRem p hs) j dj = dj → insO (ltRem p hs) (d.length - (i + 1)) (i + 1) dj = insSort (ltRem p hs) d) := by
          show _ → _
          intro hs'
          rw [← HO.out, show d.length - i = (d.length - (i + 1)) + 1 by omega]
          simp only [insO]
          rw [← HI.out, hs']
        cases j with
        | zero =>
          have hz : ((0 : Nat) : Int) = 0 := rfl
          have hO := OUT.out rfl
          have HO2 := Lib.hid hO
          clear hO
          go_wp2_with fail
          go_big_region
          all_goals go_wp2_with fail
          go_roundw
          case rel => exact ⟨i + 1, dj, by go_num, by omega, by omega, hjl, HO2, HLj.out.drewN 1, only_drewN hgj 1, HMj⟩
          case measure => simp [intOf]; omega
        | succ jp =>
          have jl1 : jp + 1 < dj.length := by omega
          have jl0 : jp < dj.length := by omega
          have cj := HLj.out.at_ jl1
          have cp := HLj.out.at_ jl0
          have fj := HLj.out.free (jp + 1)
          have fp := HLj.out.free jp
          have jz : (jp : Int) + 1 < (d.length : Int) := by omega
          have jz1 : (jp : Int) < (d.length : Int) := by omega
          have hwp : IntKind.i64.wrap (jp : Int) = (jp : Int) := IntWalk.i64_in _ (by omega)
          have p0 : (0 : Int) ≤ (jp : Int) + 1 := by omega
          have p1 : (0 : Int) < (jp : Int) + 1 := by omega
          have e0 : ((jp : Int) + 1).toNat = jp + 1 := by omega
          have hbs := HLj.out.lt
          have g1 : dj.getD (jp + 1) 0 = dj[jp + 1] := by simp [List.getD_eq_getElem?_getD, List.getElem?_eq_getElem jl1]
          have g2 : dj.getD jp 0 = dj[jp] := by simp [List.getD_eq_getElem?_getD, List.getElem?_eq_getElem jl0]
          have m1 := HM.out _ (HMj.out _ (List.getElem_mem jl1))
          have m2 := HM.out _ (HMj.out _ (List.getElem_mem jl0))
          have hCC := fun W (hW : Below wr.heap.size wr W) => HC W (grownBy_trans hgj ⟨hW.os, hW.tape, hW.output, hW.size, fun k hk _ => hW.block k hk⟩) dj[jp + 1] dj[jp] m1 m2
          clear m1 m2
          by_cases hlv : cmpRem p hs dj[jp + 1] dj[jp] < 0
          · have hI := insI_go (lt := ltRem p hs) (j := jp) (d := dj) (by unfold ltRem; rw [g1, g2]; exact decide_eq_true hlv)
            have HI2 := Lib.hid hI
            clear hI g1 g2
            go_wp2_with fail
            go_region_held3 (fun w' => w'.cell? ⟨bs, jp + 1, none⟩ = some (.int .i64 dj[jp + 1]) ∧ w'.cell? ⟨bs, jp, none⟩ = some (.int .i64 dj[jp]) ∧ Below wr.heap.size wr w') (first | exact ⟨cj, cp, (Below.refl _ _).drew⟩ | exact keepL hbs (by assumption) (by assumption))
              (first | (go_at_call 81; refine ((hCC _ (and3s (by assumption))).out).mono ?_; rintro e w' ⟨rfl, hbT⟩))
            have hbz : Below wr.heap.size wr _ := and3s (by assumption)
            obtain ⟨c1', c2', _⟩ := (by assumption : World.cell? _ _ = _ ∧ World.cell? _ _ = _ ∧ Below _ _ _)
            have hL2 := HLj.out.below hbz
            have f1' := hL2.free (jp + 1)
            have f2' := hL2.free jp
            have HL2 := Lib.hid hL2
            have hz2 := hL2.lt
            clear hL2 hCC cj cp fj fp
            go_wp2_with fail
            go_region
            all_goals go_wp2_with fail
            go_roundw
            case rel =>
              refine ⟨jp, swapL dj jp, rfl, by omega, by rw [swapL_length]; exact hjl, ?_, ?_, ?_, ?_⟩
              · show _ = _
                rw [← HI.out, HI2.out]
              · show Lst _ _ _
                rw [swapL_eq jl1]
                exact ((HL2.out.put jl1 dj[jp]).put (by rw [List.length_set]; exact jl0) dj[jp + 1]).drewN 1
              · exact only_drewN (grownBy_trans (grownBy_trans (grownBy_trans hgj (below_grown _ hbz)) (grownBy_setCell _ _ _ _)) (grownBy_setCell _ _ _ _)) 1
              · exact fun x hx => HMj.out x (swapL_mem jl1 x hx)
            case measure => simp [intOf]
          · have hI := insI_stop (lt := ltRem p hs) (j := jp) (d := dj) (by unfold ltRem; rw [g1, g2]; exact decide_eq_false hlv)
            have HO2 := Lib.hid (OUT.out hI)
            clear hI g1 g2 OUT
            go_wp2_with fail
            go_region_held3 (fun w' => w'.cell? ⟨bs, jp + 1, none⟩ = some (.int .i64 dj[jp + 1]) ∧ w'.cell? ⟨bs, jp, none⟩ = some (.int .i64 dj[jp]) ∧ Below wr.heap.size wr w') (first | exact ⟨cj, cp, (Below.refl _ _).drew⟩ | exact keepL hbs (by assumption) (by assumption))
              (first | (go_at_call 81; refine ((hCC _ (and3s (by assumption))).out).mono ?_; rintro e w' ⟨rfl, hbT⟩))
            have hbz : Below wr.heap.size wr _ := and3s (by assumption)
            go_wp2_with fail
            go_roundw
            case rel => exact ⟨i + 1, dj, by go_num, by omega, by omega, hjl, HO2, HLj.out.below hbz, grownBy_trans hgj (below_grown _ hbz), HMj⟩
            case measure => simp [intOf]; omega
    · have hii : i = d.length := by omega
      subst hii
      have h := HO.out
      rw [Nat.sub_self] at h
      have h2 : insSort (ltRem p hs) d = dk := h.symm
      have H2 := Lib.hid h2
      clear h h2
      go_wp2_with fail
      go_end0
      exact ⟨rfl, by rw [H2.out]; exact HL.out, hgr⟩
end Go.Proofs.YtfojjecnmfkcfaaGreat
namespace Go.Proofs.YtfojjecnmfkcfaaGreat
open Go.RowKit
set_option linter.unusedVariables false
set_option maxHeartbeats 1000000 in
theorem stable_any (bb bd g : Nat) (p : Int) (A : Option Addr) (c : Nat) (hs : List (Int × Int × Int)) (ps : List Int) (B bs cap : Nat) (d : List Int) (w : World) (he : CmpEnv w bb bd g p A c hs ps B) (ho : housesOk hs) (h0 : valueSum hs ≠ 0) (hp : 0 ≤ p) (hp5 : p ≤ 500)
    (hL : Lst w bs d) (h1 : bs ≠ bb) (h2 : bs ≠ bd) (h3 : bs ≠ g) (h4 : B ≤ bs) (hd1 : 1 ≤ d.length) (hd6 : d.length ≤ 6) (hm : ∀ x ∈ d, ∃ i : Nat, x = i ∧ i < hs.length) :
    Calls Tryz.prog 117 #[.slice (some ⟨bs, 0, none⟩) d.length cap, .int .i64 d.length, .func (.func 81) #[] #[.pointer (some ⟨bb, 0, none⟩), .pointer (some ⟨bd, 0, none⟩)]] w (SortedTo bs (insSort (ltRem p hs) d) w) := by
  have HI := Lib.hid (insertion_any bb bd g p A c hs ps B bs cap d w he ho h0 hp hp5 hL h1 h2 h3 h4 hd1 hd6 hm)
  clear he ho h0 hL hm
  go_enter Tryz.func117, Tryz.ntmps117
  go_wp2_with fail
  go_loopw [7, 8] (fun a b wr => a = .int .i64 0 ∧ b = .int .i64 20 ∧ wr = w) (fun _ _ _ => 0)
  case atStart => exact ⟨rfl, rfl, rfl⟩
  case round =>
    obtain ⟨rfl, rfl, rfl⟩ := hrel
    have hn : ¬ ((20 : Int) ≤ (d.length : Int)) := by omega
    have hn2 : ¬ ((20 : Int) < (d.length : Int)) := by omega
    go_wp2_with fail
    refine HI.out.mono ?_
    rintro e w' ⟨rfl, hL', hg'⟩
    go_wp2_with fail
    go_loopw [6, 7, 8, 9] (fun a _ _ _ wr => a = .int .i64 20 ∧ wr = w') (fun _ _ _ _ _ => 0)
    case atStart => exact ⟨rfl, rfl⟩
    case round =>
      obtain ⟨rfl, rfl⟩ := hrel
      go_wp2_with fail
      go_end0
      exact ⟨rfl, hL', hg'⟩
theorem sortStable_any (bb bd g : Nat) (p : Int) (A : Option Addr) (c : Nat) (hs : List (Int × Int × Int)) (ps : List Int) (B bs cap : Nat) (d : List Int) (w : World) (he : CmpEnv w bb bd g p A c hs ps B) (ho : housesOk hs) (h0 : valueSum hs ≠ 0) (hp : 0 ≤ p) (hp5 : p ≤ 500)
    (hL : Lst w bs d) (h1 : bs ≠ bb) (h2 : bs ≠ bd) (h3 : bs ≠ g) (h4 : B ≤ bs) (hd1 : 1 ≤ d.length) (hd6 : d.length ≤ 6) (hm : ∀ x ∈ d, ∃ i : Nat, x = i ∧ i < hs.length) :
    Calls Tryz.prog 80 #[.slice (some ⟨bs, 0, none⟩) d.length cap, .func (.func 81) #[] #[.pointer (some ⟨bb, 0, none⟩), .pointer (some ⟨bd, 0, none⟩)]] w (SortedTo bs (insSort (ltRem p hs) d) w) := by
  have HI := Lib.hid (stable_any bb bd g p A c hs ps B bs cap d w he ho h0 hp hp5 hL h1 h2 h3 h4 hd1 hd6 hm)
  clear he ho h0 hL hm
  go_enter Tryz.func80, Tryz.ntmps80
  go_wp2_with fail
  refine HI.out.mono ?_
  rintro e w' ⟨rfl, hL', hg'⟩
  go_wp2_with fail
  go_end0
  exact ⟨rfl, hL', hg'⟩
end Go.Proofs.YtfojjecnmfkcfaaGreat
namespace Go.Proofs.YtfojjecnmfkcfaaGreat
open Go.RowKit
set_option linter.unusedVariables false
def floorOf (p : Int) (hs : List (Int × Int × Int)) (i : Nat) : Int := p * (hs.getD i (0, 0, 0)).1 / valueSum hs
def floorsK (p : Int) (hs : List (Int × Int × Int)) (k : Nat) : List Int := (List.range 6).map fun i => if i < k then floorOf p hs i else 0
theorem floorsK_len (p : Int) (hs : List (Int × Int × Int)) (k : Nat) : (floorsK p hs k).length = 6 := by simp [floorsK]
theorem floorsK_get (p : Int) (hs : List (Int × Int × Int)) (k i : Nat) : (floorsK p hs k).getD i 0 = if i < 6 ∧ i < k then floorOf p hs i else 0 := by
  unfold floorsK
  by_cases h : i < 6
  · simp [List.getD_eq_getElem?_getD, h]
  · simp [List.getD_eq_getElem?_getD, h]
theorem floorsK_zero (p : Int) (hs : List (Int × Int × Int)) : floorsK p hs 0 = [0, 0, 0, 0, 0, 0] := by simp [floorsK, List.range, List.range.loop]
theorem floorsK_set (p : Int) (hs : List (Int × Int × Int)) (k : Nat) (h6 : k < 6) : (floorsK p hs k).set k (floorOf p hs k) = floorsK p hs (k + 1) := by
  apply List.ext_getElem
  · simp [floorsK]
  · intro i h1 h2
    rw [List.getElem_set]
    simp only [floorsK, List.getElem_map, List.getElem_range]
    by_cases e : k = i
    · subst e
      rw [if_pos rfl, if_pos (Nat.lt_succ_self k)]
    · rw [if_neg e]
      by_cases h3 : i < k
      · rw [if_pos h3, if_pos (by omega)]
      · rw [if_neg h3, if_neg (by omega)]
/-- The sum of what is rounded down, and what is left. -/
theorem floors_list (p T : Int) (hT : 0 < T) (hp : 0 ≤ p) : ∀ l : List (Int × Int × Int), (∀ x ∈ l, 0 ≤ x.1) →
    T * (l.map fun x => p * x.1 / T).sum + (l.map fun x => p * x.1 % T).sum = p * (l.map (·.1)).sum ∧ 0 ≤ (l.map fun x => p * x.1 / T).sum ∧ 0 ≤ (l.map fun x => p * x.1 % T).sum ∧ (l.map fun x => p * x.1 % T).sum ≤ T * l.length
  | [], _ => by simp
  | x :: l, h => by
    obtain ⟨i1, i2, i3, i4⟩ := floors_list p T hT hp l (fun y hy => h y (List.mem_cons_of_mem _ hy))
    have h1 := Int.mul_ediv_add_emod (p * x.1) T
    have h2 := Int.emod_nonneg (p * x.1) (Int.ne_of_gt hT)
    have h3 := Int.emod_lt_of_pos (p * x.1) hT
    have h4 : 0 ≤ p * x.1 / T := Int.ediv_nonneg (Int.mul_nonneg hp (h x List.mem_cons_self)) (Int.le_of_lt hT)
    simp only [List.map_cons, List.sum_cons, List.length_cons]
    refine ⟨?_, by omega, by omega, ?_⟩
    · rw [Int.mul_add, Int.mul_add]; omega
    · have : T * ((l.length + 1 : Nat) : Int) = T * l.length + T := by
        rw [Int.natCast_add, Int.mul_add]; simp
      omega
theorem floors_sum (p : Int) (hs : List (Int × Int × Int)) (h6 : hs.length ≤ 6) : (floorsK p hs hs.length).sum = (hs.map fun x => p * x.1 / valueSum hs).sum := by
  have e : floorsK p hs hs.length = (hs.map fun x => p * x.1 / valueSum hs) ++ List.replicate (6 - hs.length) 0 := by
    apply List.ext_getElem
    · simp [floorsK]; omega
    · intro i h1 h2
      simp only [floorsK, List.getElem_map, List.getElem_range]
      by_cases h3 : i < hs.length
      · rw [if_pos h3, List.getElem_append_left (by simpa using h3)]
        simp [floorOf, List.getD_eq_getElem?_getD, List.getElem?_eq_getElem h3]
      · rw [if_neg h3, List.getElem_append_right (by simpa using h3)]
        simp
  rw [e, List.sum_append]
  have : ∀ n : Nat, (List.replicate n (0 : Int)).sum = 0 := fun n => by induction n with
    | zero => rfl
    | succ n ih => rw [List.replicate_succ, List.sum_cons, ih]; rfl
  rw [this]; simp
theorem floors_bd {p : Int} {hs : List (Int × Int × Int)} (ho : housesOk hs) (h0 : valueSum hs ≠ 0) (hp : 0 ≤ p) : 0 ≤ (floorsK p hs hs.length).sum ∧ (floorsK p hs hs.length).sum ≤ p ∧ p ≤ (floorsK p hs hs.length).sum + hs.length := by
  obtain ⟨hT, _⟩ := valueSum_pos ho h0
  rw [floors_sum p hs ho.1]
  obtain ⟨a1, a2, a3, a4⟩ := floors_list p (valueSum hs) hT hp hs (fun x hx => (ho.2 x hx).1)
  have e : (hs.map (·.1)).sum = valueSum hs := rfl
  rw [e] at a1
  generalize (hs.map fun x => p * x.1 / valueSum hs).sum = S at *
  generalize (hs.map fun x => p * x.1 % valueSum hs).sum = R at *
  generalize valueSum hs = T at *
  have b1 : T * (p - S) = R := by rw [Int.mul_sub, Int.mul_comm T p]; omega
  refine ⟨a2, ?_, ?_⟩
  · by_cases h : S ≤ p
    · exact h
    · exfalso
      have : T * (p - S) < 0 := Int.mul_neg_of_pos_of_neg hT (by omega)
      omega
  · by_cases h : p - S ≤ hs.length
    · omega
    · exfalso
      have : T * (hs.length : Int) < T * (p - S) := Int.mul_lt_mul_of_pos_left (by omega) hT
      omega
theorem floor_get_bd {p : Int} {hs : List (Int × Int × Int)} (ho : housesOk hs) (h0 : valueSum hs ≠ 0) (hp : 0 ≤ p) (i : Nat) : 0 ≤ floorOf p hs i ∧ floorOf p hs i ≤ p := by
  obtain ⟨hT, _⟩ := valueSum_pos ho h0
  obtain ⟨v1, v2⟩ := hV_nonneg ho i
  have hv : (hs.getD i (0, 0, 0)).1 ≤ valueSum hs := by
    by_cases h : i < hs.length
    · have e : hs.getD i (0, 0, 0) = hs[i] := by simp [List.getD_eq_getElem?_getD, List.getElem?_eq_getElem h]
      rw [e]
      have h1 := map_take_sum hs i h
      have h2 := valueSum_bd hs ho i
      have h3 : (hs.map (·.1)).sum = ((hs.map (·.1)).take (i + 1)).sum + ((hs.map (·.1)).drop (i + 1)).sum := by rw [← List.sum_append, List.take_append_drop]
      have h4 : 0 ≤ ((hs.map (·.1)).drop (i + 1)).sum := by
        have : ∀ l : List Int, (∀ x ∈ l, 0 ≤ x) → 0 ≤ l.sum := fun l => by
          induction l with
          | nil => simp
          | cons a l ih => intro h; have := ih (fun x hx => h x (List.mem_cons_of_mem _ hx)); have := h a List.mem_cons_self; simp only [List.sum_cons]; omega
        refine this _ fun x hx => ?_
        obtain ⟨y, hy, rfl⟩ := List.mem_map.1 (List.mem_of_mem_drop hx)
        exact (ho.2 y hy).1
      have : valueSum hs = (hs.map (·.1)).sum := rfl
      omega
    · rw [List.getD_eq_getElem?_getD, List.getElem?_eq_none (by omega)]; simp; omega
  unfold floorOf hV at *
  refine ⟨Int.ediv_nonneg (Int.mul_nonneg hp v1) (Int.le_of_lt hT), ?_⟩
  refine Int.le_trans (Int.ediv_le_ediv hT (Int.mul_le_mul_of_nonneg_left hv hp)) ?_
  rw [Int.mul_ediv_cancel _ (Int.ne_of_gt hT)]
  exact Int.le_refl _
/-- Houses that pay one more. -/
def bumps (ps : List Int) (l : List Int) : List Int := l.foldl (fun ps h => bump ps h.toNat) ps
theorem bumps_snoc (ps : List Int) (l : List Int) (j : Nat) (h : j < l.length) : bumps ps (l.take (j + 1)) = bump (bumps ps (l.take j)) l[j].toNat := by
  unfold bumps; rw [List.take_succ_eq_append_getElem h, List.foldl_append]; rfl
theorem bumps_len (ps : List Int) : ∀ l : List Int, (bumps ps l).length = ps.length := by
  intro l
  induction l generalizing ps with
  | nil => rfl
  | cons a l ih => show (bumps (bump ps a.toNat) l).length = _; rw [ih]; simp [bump]
theorem bumps_bd {ps : List Int} {M : Int} (h6 : ps.length = 6) (h : ∀ i, 0 ≤ ps.getD i 0 ∧ ps.getD i 0 ≤ M) (l : List Int) : ∀ j, j ≤ l.length → ∀ i, 0 ≤ (bumps ps (l.take j)).getD i 0 ∧ (bumps ps (l.take j)).getD i 0 ≤ M + j
  | 0, _, i => by simpa [bumps] using h i
  | j + 1, hj, i => by
    have ih := bumps_bd h6 h l j (by omega)
    have i1 := ih i
    have i2 := ih l[j].toNat
    rw [bumps_snoc ps l j (by omega)]
    by_cases hl : l[j].toNat < 6
    · rw [bump_getD _ _ _ (by rw [bumps_len, h6]; exact hl)]
      split <;> omega
    · have e : bump (bumps ps (l.take j)) l[j].toNat = bumps ps (l.take j) := by
        unfold bump; rw [List.set_eq_of_length_le (by rw [bumps_len, h6]; omega)]
      rw [e]; omega
def idxL (n : Nat) : List Int := (List.range n).map fun (i : Nat) => (i : Int)
theorem insI_length (lt : Int → Int → Bool) : ∀ (j : Nat) (d : List Int), (insI lt j d).length = d.length
  | 0, d => rfl
  | j + 1, d => by
    rw [insI]
    split
    · rw [insI_length lt j, swapL_length]
    · rfl
theorem insI_mem (lt : Int → Int → Bool) : ∀ (j : Nat) (d : List Int), j < d.length → ∀ x ∈ insI lt j d, x ∈ d
  | 0, d, _, x, hx => hx
  | j + 1, d, hj, x, hx => by
    rw [insI] at hx
    split at hx
    · exact swapL_mem hj x (insI_mem lt j (swapL d j) (by rw [swapL_length]; omega) x hx)
    · exact hx
theorem insO_length (lt : Int → Int → Bool) : ∀ (f i : Nat) (d : List Int), (insO lt f i d).length = d.length
  | 0, _, _ => rfl
  | f + 1, i, d => by simp only [insO]; rw [insO_length lt f, insI_length]
theorem insO_mem (lt : Int → Int → Bool) : ∀ (f i : Nat) (d : List Int), i + f ≤ d.length → ∀ x ∈ insO lt f i d, x ∈ d
  | 0, _, _, _, x, hx => hx
  | f + 1, i, d, h, x, hx => insI_mem lt i d (by omega) x (insO_mem lt f (i + 1) (insI lt i d) (by rw [insI_length]; omega) x hx)
theorem insSort_length (lt : Int → Int → Bool) (d : List Int) : (insSort lt d).length = d.length := insO_length _ _ _ _
theorem insSort_mem (lt : Int → Int → Bool) (d : List Int) (h : 1 ≤ d.length) : ∀ x ∈ insSort lt d, x ∈ d := insO_mem _ _ _ _ (by omega)
theorem idxL_mem {n : Nat} : ∀ x ∈ idxL n, ∃ i : Nat, x = i ∧ i < n := by
  intro x hx
  unfold idxL at hx
  obtain ⟨i, hi, rfl⟩ := List.mem_map.1 hx
  exact ⟨i, rfl, List.mem_range.1 hi⟩
def byRem (p : Int) (hs : List (Int × Int × Int)) : List Int := insSort (ltRem p hs) (idxL hs.length)
def sharesPs (p : Int) (hs : List (Int × Int × Int)) : List Int := bumps (floorsK p hs hs.length) ((byRem p hs).take (p - (floorsK p hs hs.length).sum).toNat)
def shareCode (p : Int) (hs : List (Int × Int × Int)) : Int := if ckBill p hs = 0 then (if valueSum hs = 0 then 1 else 0) else ckBill p hs
def sharesL (p : Int) (hs : List (Int × Int × Int)) : List Int := if shareCode p hs = 0 then (sharesPs p hs).take hs.length else []
end Go.Proofs.YtfojjecnmfkcfaaGreat
