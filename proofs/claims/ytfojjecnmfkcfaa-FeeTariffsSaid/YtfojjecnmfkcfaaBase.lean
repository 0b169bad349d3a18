/- Words for memory that the walks of this seat share: a slice that reads as a list of cells ('Rd'), and small facts on Below. -/
import Derived.WalkKit
import Derived.ProofKit
import Derived.OpenShut
import Derived.Below
import Derived.Handy
import Derived.Laws.OwnMore
import Derived.Deep.Draws
import Derived.Lib.Hide
import Derived.Maps.AppendAt
import Derived.Deep.AppendLies
import Derived.OwnWalk
import Derived.WalkSmall
namespace Go.Proofs.Ytfojjecnmfkcfaa
open Go.RowKit

/-- The slice value at address 'A' holds the cells 'xs', in blocks below 'B'. -/
def Rd (w : World) (B : Nat) (A : Option Addr) (xs : List Value) : Prop :=
  xs ≠ [] → ∃ b off, A = some ⟨b, off, none⟩ ∧ b < B ∧ ∀ j u, xs[j]? = some u → w.cell? ⟨b, off + j, none⟩ = some u

section
variable {w w' : World} {B B' : Nat} {A : Option Addr} {xs : List Value}
theorem Rd.nil : Rd w B A [] := fun h => absurd rfl h
theorem Rd.keep (h : Rd w B A xs) (hk : ∀ b o, b < B → w'.cell? ⟨b, o, none⟩ = w.cell? ⟨b, o, none⟩) : Rd w' B A xs := fun hn => by
  obtain ⟨b, off, e, hb, hc⟩ := h hn
  exact ⟨b, off, e, hb, fun j u hu => (hk _ _ hb).trans (hc j u hu)⟩
theorem Rd.more (h : Rd w B A xs) (hB : B ≤ B') : Rd w B' A xs := fun hn => by
  obtain ⟨b, off, e, hb, hc⟩ := h hn
  exact ⟨b, off, e, by omega, hc⟩
theorem Rd.below (h : Rd w B A xs) (hb : Below B w w') : Rd w' B A xs := h.keep fun _ _ hp => hb.cell (p := ⟨_, _, none⟩) hp
theorem Rd.belowM {C : Nat} (h : Rd w B A xs) (hb : Below C w w') (hC : B ≤ C) : Rd w' B A xs := h.keep fun _ _ hp => hb.cell (p := ⟨_, _, none⟩) (Nat.lt_of_lt_of_le hp hC)
theorem Rd.next (h : Rd w w.heap.size A xs) (hb : Below w.heap.size w w') : Rd w' w'.heap.size A xs := (h.below hb).more hb.size
theorem Rd.alloc (h : Rd w w.heap.size A xs) (o : Obj) : Rd (w.alloc o) (w.alloc o).heap.size A xs := h.next ((Below.refl _ _).alloc (Nat.le_refl _) _)
theorem Rd.drew (h : Rd w B A xs) : Rd w.drew B A xs := h
theorem Rd.at_ {k : Nat} (h : Rd w B A xs) (hk : k < xs.length) : ∃ b off, A = some ⟨b, off, none⟩ ∧ b < B ∧ w.cell? ⟨b, off + k, none⟩ = some xs[k] := by
  obtain ⟨b, off, e, hb, hc⟩ := h (by intro h0; subst h0; simp at hk)
  exact ⟨b, off, e, hb, hc k _ (List.getElem?_eq_getElem hk)⟩
/-- A slice is nil, or has an address: for walks that must know which. -/
theorem Rd.addr {k : Nat} (h : Rd w B A xs) (hk : k < xs.length) : ∃ b off, A = some ⟨b, off, none⟩ ∧ b < B := by
  obtain ⟨b, off, e, hb, _⟩ := h.at_ hk
  exact ⟨b, off, e, hb⟩
end

/-- What a region's loads read stays through a call that makes memory alone. -/
theorem keep4 {w0 w1 w2 : World} {b o1 o2 o3 o4 : Nat} {v1 v2 v3 v4 : Value} (hB : b < w0.heap.size) (h : w1.cell? ⟨b, o1, none⟩ = some v1 ∧ w1.cell? ⟨b, o2, none⟩ = some v2 ∧ w1.cell? ⟨b, o3, none⟩ = some v3 ∧ w1.cell? ⟨b, o4, none⟩ = some v4 ∧ Below w0.heap.size w0 w1)
    (hb : Below w1.heap.size w1 w2) : w2.cell? ⟨b, o1, none⟩ = some v1 ∧ w2.cell? ⟨b, o2, none⟩ = some v2 ∧ w2.cell? ⟨b, o3, none⟩ = some v3 ∧ w2.cell? ⟨b, o4, none⟩ = some v4 ∧ Below w0.heap.size w0 w2 := by
  obtain ⟨h1, h2, h3, h4, h5⟩ := h
  have hB' := Nat.lt_of_lt_of_le hB h5.size
  exact ⟨(hb.cell (p := ⟨b, o1, none⟩) hB').trans h1, (hb.cell (p := ⟨b, o2, none⟩) hB').trans h2, (hb.cell (p := ⟨b, o3, none⟩) hB').trans h3, (hb.cell (p := ⟨b, o4, none⟩) hB').trans h4, h5.trans (hb.mono h5.size)⟩

theorem and5 {a b c d e : Prop} (h : a ∧ b ∧ c ∧ d ∧ e) : e := h.2.2.2.2

theorem bcell {W w1 : World} {B : Nat} (hb : Below B W w1) : (∀ b o, b < B → w1.cell? ⟨b, o, none⟩ = W.cell? ⟨b, o, none⟩) ∧ (∀ b o, b < B → w1.frozen? ⟨b, o, none⟩ = W.frozen? ⟨b, o, none⟩) :=
  ⟨fun b o h => hb.cell (p := ⟨b, o, none⟩) h, fun b o h => hb.frozen (p := ⟨b, o, none⟩) h⟩

theorem ret_int {k : IntKind} {a b : Int} (h : a = b) : Ending.returned (.int k a) = .returned (.int k b) := by rw [h]
theorem ret_bool {a b : Bool} (h : a = b) : Ending.returned (.bool a) = .returned (.bool b) := by rw [h]

/-- The numbers of a list as cells. -/
def ints (zs : List Int) : List Value := zs.map (Value.int .i64)
theorem ints_length (zs : List Int) : (ints zs).length = zs.length := by simp [ints]
theorem ints_get {zs : List Int} {k : Nat} (h : k < (ints zs).length) : (ints zs)[k] = .int .i64 (zs[k]'(by simpa [ints] using h)) := by simp [ints]

theorem Rd.int {w : World} {B : Nat} {A : Option Addr} {t : List Int} {k : Nat} (h : Rd w B A (ints t)) (hk : k < t.length) : ∃ b off, A = some ⟨b, off, none⟩ ∧ b < B ∧ w.cell? ⟨b, off + k, none⟩ = some (.int .i64 t[k]) := by
  obtain ⟨b, off, e, hb, hc⟩ := h.at_ (k := k) (by rw [ints_length]; exact hk)
  rw [ints_get] at hc
  exact ⟨b, off, e, hb, hc⟩
theorem Rd.int' {w : World} {B b off : Nat} {t : List Int} {k : Nat} (h : Rd w B (some ⟨b, off, none⟩) (ints t)) (hk : k < t.length) : w.cell? ⟨b, off + k, none⟩ = some (.int .i64 t[k]) := by
  obtain ⟨b', off', e, _, hc⟩ := h.int hk
  injection e with e
  injection e with e1 e2
  subst e1 e2
  exact hc
theorem take_sum (zs : List Int) (k : Nat) (h : k < zs.length) : (zs.take (k + 1)).sum = (zs.take k).sum + zs[k] := by
  rw [List.take_succ_eq_append_getElem h, List.sum_append]; simp
/-- Sums of at most so many small numbers are small. -/
theorem sum_le (M : Int) : ∀ zs : List Int, (∀ z ∈ zs, -M ≤ z ∧ z ≤ M) → -(M * zs.length) ≤ zs.sum ∧ zs.sum ≤ M * zs.length
  | [], _ => by simp
  | z :: zs, h => by
    obtain ⟨a, b⟩ := sum_le M zs fun y hy => h y (List.mem_cons_of_mem _ hy)
    obtain ⟨c, d⟩ := h z List.mem_cons_self
    simp only [List.sum_cons, List.length_cons]
    have e : M * ((zs.length + 1 : Nat) : Int) = M * zs.length + M := by push_cast; rw [Int.mul_add, Int.mul_one]
    rw [e]
    omega
theorem Rd.new (w : World) (l : List Value) (t : TypeId) {H : Nat} (hH : w.heap.size = H) : Rd (w.alloc (.cells l.toArray t)) (w.alloc (.cells l.toArray t)).heap.size (some ⟨H, 0, none⟩) l := fun _ => by
  subst hH
  refine ⟨_, _, rfl, by simp, fun j u hu => ?_⟩
  rw [Nat.zero_add, World.cell?_alloc_new]
  simpa using hu
theorem below_new (w : World) (o : Obj) : Below w.heap.size w (w.alloc o) := (Below.refl _ _).alloc (Nat.le_refl _) _
theorem addr_add (b off j : Nat) : (⟨b, off, none⟩ : Addr).add j = ⟨b, off + j, none⟩ := by
  unfold Addr.add; split <;> simp_all
theorem Rd.news {w : World} {B b off : Nat} {xs : List Value} (h : Rd w B (some ⟨b, off, none⟩) xs) : ∀ j u, xs[j]? = some u → w.cell? ((⟨b, off, none⟩ : Addr).add j) = some u := by
  intro j u hu
  obtain ⟨b', off', e, _, hc⟩ := h (by rintro rfl; simp at hu)
  injection e with e
  injection e with e1 e2
  subst e1 e2
  rw [addr_add]
  exact hc j u hu
/-- The call returns a slice of its own that holds the cells. -/
def RetOwn (E : TypeId) (size n : Nat) (cells : List Value) (W : World) (e : Ending) (w' : World) : Prop :=
  ∃ v, e = .returned v ∧ w'.ownsRow W.heap.size E size v n cells ∧ Below W.heap.size W w'
theorem own_slice {w : World} {base : Nat} {E : TypeId} {size n : Nat} {v : Value} {xs : List Value} (h : w.ownsRow base E size v n xs) : ∃ A c, v = .slice A n c ∧ n ≤ c ∧ Rd w w.heap.size A xs := by
  rcases h.2 with ⟨rfl, rfl⟩ | ⟨g, cap, cur, rfl, hb, hg, hn, hm, hs, ht⟩
  · have hx : xs = [] := List.eq_nil_of_length_eq_zero (by simpa using h.1)
    subst hx
    exact ⟨none, 0, rfl, Nat.le_refl _, Rd.nil⟩
  · refine ⟨_, _, rfl, hn, fun _ => ⟨g, 0, rfl, (Array.getElem?_eq_some_iff.1 hg).1, fun j u hu => ?_⟩⟩
    have := h.cells (g := g) rfl j u hu
    rwa [addr_add] at this
theorem _root_.Go.World.ownsRow.base_ {w : World} {base base' : Nat} {E : TypeId} {size n : Nat} {v : Value} {xs : List Value} (h : w.ownsRow base E size v n xs) (hb : base' ≤ base) : w.ownsRow base' E size v n xs := by
  refine ⟨h.1, ?_⟩
  rcases h.2 with h | ⟨g, cap, cur, h1, h2, h3⟩
  · exact .inl h
  · exact .inr ⟨g, cap, cur, h1, by omega, h3⟩
theorem ints_one (zs : List Int) : ∀ u ∈ ints zs, u.oneCell' = true := by
  intro u hu
  simp only [ints, List.mem_map] at hu
  obtain ⟨a, _, rfl⟩ := hu
  rfl
/-- Pairs of numbers as cells; triples. -/
def pairs (t : List (Int × Int)) : List Value := t.flatMap fun s => [.int .i64 s.1, .int .i64 s.2]
theorem pairs_length (t : List (Int × Int)) : (pairs t).length = t.length * 2 := by
  induction t with
  | nil => rfl
  | cons a t ih => simp only [pairs, List.flatMap_cons, List.length_append, List.length_cons, List.length_nil] at *; omega
theorem pairs_get (t : List (Int × Int)) : ∀ (k : Nat) (h : k < t.length), (pairs t)[k * 2]? = some (.int .i64 t[k].1) ∧ (pairs t)[k * 2 + 1]? = some (.int .i64 t[k].2) := by
  induction t with
  | nil => intro k h; simp at h
  | cons a t ih =>
    intro k h
    match k with
    | 0 => exact ⟨rfl, rfl⟩
    | k + 1 =>
      have := ih k (by simpa using h)
      rw [show (k + 1) * 2 = k * 2 + 2 from by omega, show k * 2 + 2 + 1 = (k * 2 + 1) + 2 from by omega]
      exact this
theorem Rd.pair' {w : World} {B : Nat} {b off : Nat} {t : List (Int × Int)} {k : Nat} (h : Rd w B (some ⟨b, off, none⟩) (pairs t)) (hk : k < t.length) :
    w.cell? ⟨b, off + k * 2, none⟩ = some (.int .i64 t[k].1) ∧ w.cell? ⟨b, off + k * 2 + 1, none⟩ = some (.int .i64 t[k].2) := by
  obtain ⟨b', off', e, hb, hc⟩ := h (by intro h0; have := pairs_length t; rw [h0] at this; simp at this; omega)
  injection e with e
  injection e with e1 e2
  subst e1 e2
  obtain ⟨h1, h2⟩ := pairs_get t k hk
  exact ⟨hc _ _ h1, by have := hc _ _ h2; rwa [← Nat.add_assoc] at this⟩
theorem Rd.pair {w : World} {B : Nat} {A : Option Addr} {t : List (Int × Int)} {k : Nat} (h : Rd w B A (pairs t)) (hk : k < t.length) :
    ∃ b off, A = some ⟨b, off, none⟩ ∧ b < B ∧ w.cell? ⟨b, off + k * 2, none⟩ = some (.int .i64 t[k].1) ∧ w.cell? ⟨b, off + k * 2 + 1, none⟩ = some (.int .i64 t[k].2) := by
  obtain ⟨b, off, e, hb, hc⟩ := h (by intro h0; have := pairs_length t; rw [h0] at this; simp at this; omega)
  obtain ⟨h1, h2⟩ := pairs_get t k hk
  exact ⟨b, off, e, hb, hc _ _ h1, by have := hc _ _ h2; rwa [← Nat.add_assoc] at this⟩
theorem pairs_one (t : List (Int × Int)) : ∀ u ∈ pairs t, u.oneCell' = true := by
  intro u hu
  simp only [pairs, List.mem_flatMap] at hu
  obtain ⟨a, _, h⟩ := hu
  simp at h
  rcases h with rfl | rfl <;> rfl
def trips (t : List (Int × Int × Int)) : List Value := t.flatMap fun s => [.int .i64 s.1, .int .i64 s.2.1, .int .i64 s.2.2]
theorem trips_length (t : List (Int × Int × Int)) : (trips t).length = t.length * 3 := by
  induction t with
  | nil => rfl
  | cons a t ih => simp only [trips, List.flatMap_cons, List.length_append, List.length_cons, List.length_nil] at *; omega
theorem trips_get (t : List (Int × Int × Int)) : ∀ (k : Nat) (h : k < t.length), (trips t)[k * 3]? = some (.int .i64 t[k].1) ∧ (trips t)[k * 3 + 1]? = some (.int .i64 t[k].2.1) ∧ (trips t)[k * 3 + 2]? = some (.int .i64 t[k].2.2) := by
  induction t with
  | nil => intro k h; simp at h
  | cons a t ih =>
    intro k h
    match k with
    | 0 => exact ⟨rfl, rfl, rfl⟩
    | k + 1 =>
      have := ih k (by simpa using h)
      rw [show (k + 1) * 3 = k * 3 + 3 from by omega, show k * 3 + 3 + 1 = (k * 3 + 1) + 3 from by omega, show k * 3 + 3 + 2 = (k * 3 + 2) + 3 from by omega]
      exact this
theorem trips_one (t : List (Int × Int × Int)) : ∀ u ∈ trips t, u.oneCell' = true := by
  intro u hu
  simp only [trips, List.mem_flatMap] at hu
  obtain ⟨a, _, h⟩ := hu
  simp at h
  rcases h with rfl | rfl | rfl <;> rfl
theorem Rd.trip' {w : World} {B : Nat} {b off : Nat} {t : List (Int × Int × Int)} {k : Nat} (h : Rd w B (some ⟨b, off, none⟩) (trips t)) (hk : k < t.length) :
    w.cell? ⟨b, off + k * 3, none⟩ = some (.int .i64 t[k].1) ∧ w.cell? ⟨b, off + k * 3 + 1, none⟩ = some (.int .i64 t[k].2.1) ∧ w.cell? ⟨b, off + k * 3 + 2, none⟩ = some (.int .i64 t[k].2.2) := by
  obtain ⟨b', off', e, hb, hc⟩ := h (by intro h0; have := trips_length t; rw [h0] at this; simp at this; omega)
  injection e with e
  injection e with e1 e2
  subst e1 e2
  obtain ⟨h1, h2, h3⟩ := trips_get t k hk
  exact ⟨hc _ _ h1, by have := hc _ _ h2; rwa [← Nat.add_assoc] at this, by have := hc _ _ h3; rwa [← Nat.add_assoc] at this⟩
theorem Rd.trip {w : World} {B : Nat} {A : Option Addr} {t : List (Int × Int × Int)} {k : Nat} (h : Rd w B A (trips t)) (hk : k < t.length) :
    ∃ b off, A = some ⟨b, off, none⟩ ∧ b < B ∧ w.cell? ⟨b, off + k * 3, none⟩ = some (.int .i64 t[k].1) ∧ w.cell? ⟨b, off + k * 3 + 1, none⟩ = some (.int .i64 t[k].2.1) ∧ w.cell? ⟨b, off + k * 3 + 2, none⟩ = some (.int .i64 t[k].2.2) := by
  obtain ⟨b, off, rfl, hb⟩ := h.addr (k := 0) (by rw [trips_length]; omega)
  exact ⟨b, off, rfl, hb, h.trip' hk⟩
/-- 'IndexFunc' found one, or none. -/
def Found (b : Bool) (W : World) (e : Ending) (w' : World) : Prop := ∃ i : Int, e = .returned (.int .i64 i) ∧ decide (0 ≤ i) = b ∧ Below W.heap.size W w'
theorem any_take_succ {α : Type} (p : α → Bool) (l : List α) (k : Nat) (h : k < l.length) : (l.take (k + 1)).any p = ((l.take k).any p || p l[k]) := by
  rw [List.take_succ_eq_append_getElem h, List.any_append]; simp
end Go.Proofs.Ytfojjecnmfkcfaa
