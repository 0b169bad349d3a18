/- Words for memory that the walks of this seat share: a slice that reads as a list of cells ('Rd'), and small facts on Below. sum: the sum of numbers of bounded size. in, upto, and whether the steps of a tariff rise, at every slice of at most 1000 steps. CheckTariff: the error of a tariff, at every tariff of at most 1000 steps. cost: what pounds cost by a tariff that is right, from 0 to 20000 pounds. -/
import Derived.WalkKit
import Derived.ProofKit
import Derived.OpenShut
import Derived.Below
import Derived.Handy
import Derived.Laws.OwnMore
import Derived.Deep.Draws
import Derived.Lib.Hide
import Derived.Maps.AppendAt
import Derived.Deep.AppendLies
import Derived.OwnWalk
import Derived.WalkSmall
import Derived.Test.YtfojjecnmfkcfaaGreatProg
import Derived.Deep.RegionHeld3
namespace Go.Proofs.YtfojjecnmfkcfaaGreat
open Go.RowKit

/-- The slice value at address 'A' holds the cells 'xs', in blocks below 'B'. -/
def Rd (w : World) (B : Nat) (A : Option Addr) (xs : List Value) : Prop :=
  xs ≠ [] → ∃ b off, A = some ⟨b, off, none⟩ ∧ b < B ∧ ∀ j u, xs[j]? = some u → w.cell? ⟨b, off + j, none⟩ = some u

section
variable {w w' : World} {B B' : Nat} {A : Option Addr} {xs : List Value}
theorem Rd.nil : Rd w B A [] := fun h => absurd rfl h
theorem Rd.keep (h : Rd w B A xs) (hk : ∀ b o, b < B → w'.cell? ⟨b, o, none⟩ = w.cell? ⟨b, o, none⟩) : Rd w' B A xs := fun hn => by
  obtain ⟨b, off, e, hb, hc⟩ := h hn
  exact ⟨b, off, e, hb, fun j u hu => (hk _ _ hb).trans (hc j u hu)⟩
theorem Rd.more (h : Rd w B A xs) (hB : B ≤ B') : Rd w B' A xs := fun hn => by
  obtain ⟨b, off, e, hb, hc⟩ := h hn
  exact ⟨b, off, e, by omega, hc⟩
theorem Rd.below (h : Rd w B A xs) (hb : Below B w w') : Rd w' B A xs := h.keep fun _ _ hp => hb.cell (p := ⟨_, _, none⟩) hp
theorem Rd.belowM {C : Nat} (h : Rd w B A xs) (hb : Below C w w') (hC : B ≤ C) : Rd w' B A xs := h.keep fun _ _ hp => hb.cell (p := ⟨_, _, none⟩) (Nat.lt_of_lt_of_le hp hC)
theorem Rd.next (h : Rd w w.heap.size A xs) (hb : Below w.heap.size w w') : Rd w' w'.heap.size A xs := (h.below hb).more hb.size
theorem Rd.alloc (h : Rd w w.heap.size A xs) (o : Obj) : Rd (w.alloc o) (w.alloc o).heap.size A xs := h.next ((Below.refl _ _).alloc (Nat.le_refl _) _)
theorem Rd.drew (h : Rd w B A xs) : Rd w.drew B A xs := h
theorem Rd.at_ {k : Nat} (h : Rd w B A xs) (hk : k < xs.length) : ∃ b off, A = some ⟨b, off, none⟩ ∧ b < B ∧ w.cell? ⟨b, off + k, none⟩ = some xs[k] := by
  obtain ⟨b, off, e, hb, hc⟩ := h (by intro h0; subst h0; simp at hk)
  exact ⟨b, off, e, hb, hc k _ (List.getElem?_eq_getElem hk)⟩
/-- A slice is nil, or has an address: for walks that must know which. -/
theorem Rd.addr {k : Nat} (h : Rd w B A xs) (hk : k < xs.length) : ∃ b off, A = some ⟨b, off, none⟩ ∧ b < B := by
  obtain ⟨b, off, e, hb, _⟩ := h.at_ hk
  exact ⟨b, off, e, hb⟩
end

/-- What a region's loads read stays through a call that makes memory alone. -/
theorem keep4 {w0 w1 w2 : World} {b o1 o2 o3 o4 : Nat} {v1 v2 v3 v4 : Value} (hB : b < w0.heap.size) (h : w1.cell? ⟨b, o1, none⟩ = some v1 ∧ w1.cell? ⟨b, o2, none⟩ = some v2 ∧ w1.cell? ⟨b, o3, none⟩ = some v3 ∧ w1.cell? ⟨b, o4, none⟩ = some v4 ∧ Below w0.heap.size w0 w1)
    (hb : Below w1.heap.size w1 w2) : w2.cell? ⟨b, o1, none⟩ = some v1 ∧ w2.cell? ⟨b, o2, none⟩ = some v2 ∧ w2.cell? ⟨b, o3, none⟩ = some v3 ∧ w2.cell? ⟨b, o4, none⟩ = some v4 ∧ Below w0.heap.size w0 w2 := by
  obtain ⟨h1, h2, h3, h4, h5⟩ := h
  have hB' := Nat.lt_of_lt_of_le hB h5.size
  exact ⟨(hb.cell (p := ⟨b, o1, none⟩) hB').trans h1, (hb.cell (p := ⟨b, o2, none⟩) hB').trans h2, (hb.cell (p := ⟨b, o3, none⟩) hB').trans h3, (hb.cell (p := ⟨b, o4, none⟩) hB').trans h4, h5.trans (hb.mono h5.size)⟩

theorem and5 {a b c d e : Prop} (h : a ∧ b ∧ c ∧ d ∧ e) : e := h.2.2.2.2

theorem bcell {W w1 : World} {B : Nat} (hb : Below B W w1) : (∀ b o, b < B → w1.cell? ⟨b, o, none⟩ = W.cell? ⟨b, o, none⟩) ∧ (∀ b o, b < B → w1.frozen? ⟨b, o, none⟩ = W.frozen? ⟨b, o, none⟩) :=
  ⟨fun b o h => hb.cell (p := ⟨b, o, none⟩) h, fun b o h => hb.frozen (p := ⟨b, o, none⟩) h⟩

theorem ret_int {k : IntKind} {a b : Int} (h : a = b) : Ending.returned (.int k a) = .returned (.int k b) := by rw [h]
theorem ret_bool {a b : Bool} (h : a = b) : Ending.returned (.bool a) = .returned (.bool b) := by rw [h]

/-- The numbers of a list as cells. -/
def ints (zs : List Int) : List Value := zs.map (Value.int .i64)
theorem ints_length (zs : List Int) : (ints zs).length = zs.length := by simp [ints]
theorem ints_get {zs : List Int} {k : Nat} (h : k < (ints zs).length) : (ints zs)[k] = .int .i64 (zs[k]'(by simpa [ints] using h)) := by simp [ints]

theorem Rd.int {w : World} {B : Nat} {A : Option Addr} {t : List Int} {k : Nat} (h : Rd w B A (ints t)) (hk : k < t.length) : ∃ b off, A = some ⟨b, off, none⟩ ∧ b < B ∧ w.cell? ⟨b, off + k, none⟩ = some (.int .i64 t[k]) := by
  obtain ⟨b, off, e, hb, hc⟩ := h.at_ (k := k) (by rw [ints_length]; exact hk)
  rw [ints_get] at hc
  exact ⟨b, off, e, hb, hc⟩
theorem Rd.int' {w : World} {B b off : Nat} {t : List Int} {k : Nat} (h : Rd w B (some ⟨b, off, none⟩) (ints t)) (hk : k < t.length) : w.cell? ⟨b, off + k, none⟩ = some (.int .i64 t[k]) := by
  obtain ⟨b', off', e, _, hc⟩ := h.int hk
  injection e with e
  injection e with e1 e2
  subst e1 e2
  exact hc
theorem take_sum (zs : List Int) (k : Nat) (h : k < zs.length) : (zs.take (k + 1)).sum = (zs.take k).sum + zs[k] := by
  rw [List.take_succ_eq_append_getElem h, List.sum_append]; simp
/-- Sums of at most so many small numbers are small. -/
theorem sum_le (M : Int) : ∀ zs : List Int, (∀ z ∈ zs, -M ≤ z ∧ z ≤ M) → -(M * zs.length) ≤ zs.sum ∧ zs.sum ≤ M * zs.length
  | [], _ => by simp
  | z :: zs, h => by
    obtain ⟨a, b⟩ := sum_le M zs fun y hy => h y (List.mem_cons_of_mem _ hy)
    obtain ⟨c, d⟩ := h z List.mem_cons_self
    simp only [List.sum_cons, List.length_cons]
    have e : M * ((zs.length + 1 : Nat) : Int) = M * zs.length + M := by push_cast; rw [Int.mul_add, Int.mul_one]
    rw [e]
    omega
theorem Rd.new (w : World) (l : List Value) (t : TypeId) {H : Nat} (hH : w.heap.size = H) : Rd (w.alloc (.cells l.toArray t)) (w.alloc (.cells l.toArray t)).heap.size (some ⟨H, 0, none⟩) l := fun _ => by
  subst hH
  refine ⟨_, _, rfl, by simp, fun j u hu => ?_⟩
  rw [Nat.zero_add, World.cell?_alloc_new]
  simpa using hu
theorem below_new (w : World) (o : Obj) : Below w.heap.size w (w.alloc o) := (Below.refl _ _).alloc (Nat.le_refl _) _
theorem addr_add (b off j : Nat) : (⟨b, off, none⟩ : Addr).add j = ⟨b, off + j, none⟩ := by
  unfold Addr.add; split <;> simp_all
theorem Rd.news {w : World} {B b off : Nat} {xs : List Value} (h : Rd w B (some ⟨b, off, none⟩) xs) : ∀ j u, xs[j]? = some u → w.cell? ((⟨b, off, none⟩ : Addr).add j) = some u := by
  intro j u hu
  obtain ⟨b', off', e, _, hc⟩ := h (by rintro rfl; simp at hu)
  injection e with e
  injection e with e1 e2
  subst e1 e2
  rw [addr_add]
  exact hc j u hu
/-- The call returns a slice of its own that holds the cells. -/
def RetOwn (E : TypeId) (size n : Nat) (cells : List Value) (W : World) (e : Ending) (w' : World) : Prop :=
  ∃ v, e = .returned v ∧ w'.ownsRow W.heap.size E size v n cells ∧ Below W.heap.size W w'
theorem own_slice {w : World} {base : Nat} {E : TypeId} {size n : Nat} {v : Value} {xs : List Value} (h : w.ownsRow base E size v n xs) : ∃ A c, v = .slice A n c ∧ n ≤ c ∧ Rd w w.heap.size A xs := by
  rcases h.2 with ⟨rfl, rfl⟩ | ⟨g, cap, cur, rfl, hb, hg, hn, hm, hs, ht⟩
  · have hx : xs = [] := List.eq_nil_of_length_eq_zero (by simpa using h.1)
    subst hx
    exact ⟨none, 0, rfl, Nat.le_refl _, Rd.nil⟩
  · refine ⟨_, _, rfl, hn, fun _ => ⟨g, 0, rfl, (Array.getElem?_eq_some_iff.1 hg).1, fun j u hu => ?_⟩⟩
    have := h.cells (g := g) rfl j u hu
    rwa [addr_add] at this
theorem _root_.Go.World.ownsRow.base_ {w : World} {base base' : Nat} {E : TypeId} {size n : Nat} {v : Value} {xs : List Value} (h : w.ownsRow base E size v n xs) (hb : base' ≤ base) : w.ownsRow base' E size v n xs := by
  refine ⟨h.1, ?_⟩
  rcases h.2 with h | ⟨g, cap, cur, h1, h2, h3⟩
  · exact .inl h
  · exact .inr ⟨g, cap, cur, h1, by omega, h3⟩
theorem ints_one (zs : List Int) : ∀ u ∈ ints zs, u.oneCell' = true := by
  intro u hu
  simp only [ints, List.mem_map] at hu
  obtain ⟨a, _, rfl⟩ := hu
  rfl
/-- Pairs of numbers as cells; triples. -/
def pairs (t : List (Int × Int)) : List Value := t.flatMap fun s => [.int .i64 s.1, .int .i64 s.2]
theorem pairs_length (t : List (Int × Int)) : (pairs t).length = t.length * 2 := by
  induction t with
  | nil => rfl
  | cons a t ih => simp only [pairs, List.flatMap_cons, List.length_append, List.length_cons, List.length_nil] at *; omega
theorem pairs_get (t : List (Int × Int)) : ∀ (k : Nat) (h : k < t.length), (pairs t)[k * 2]? = some (.int .i64 t[k].1) ∧ (pairs t)[k * 2 + 1]? = some (.int .i64 t[k].2) := by
  induction t with
  | nil => intro k h; simp at h
  | cons a t ih =>
    intro k h
    match k with
    | 0 => exact ⟨rfl, rfl⟩
    | k + 1 =>
      have := ih k (by simpa using h)
      rw [show (k + 1) * 2 = k * 2 + 2 from by omega, show k * 2 + 2 + 1 = (k * 2 + 1) + 2 from by omega]
      exact this
theorem Rd.pair' {w : World} {B : Nat} {b off : Nat} {t : List (Int × Int)} {k : Nat} (h : Rd w B (some ⟨b, off, none⟩) (pairs t)) (hk : k < t.length) :
    w.cell? ⟨b, off + k * 2, none⟩ = some (.int .i64 t[k].1) ∧ w.cell? ⟨b, off + k * 2 + 1, none⟩ = some (.int .i64 t[k].2) := by
  obtain ⟨b', off', e, hb, hc⟩ := h (by intro h0; have := pairs_length t; rw [h0] at this; simp at this; omega)
  injection e with e
  injection e with e1 e2
  subst e1 e2
  obtain ⟨h1, h2⟩ := pairs_get t k hk
  exact ⟨hc _ _ h1, by have := hc _ _ h2; rwa [← Nat.add_assoc] at this⟩
theorem Rd.pair {w : World} {B : Nat} {A : Option Addr} {t : List (Int × Int)} {k : Nat} (h : Rd w B A (pairs t)) (hk : k < t.length) :
    ∃ b off, A = some ⟨b, off, none⟩ ∧ b < B ∧ w.cell? ⟨b, off + k * 2, none⟩ = some (.int .i64 t[k].1) ∧ w.cell? ⟨b, off + k * 2 + 1, none⟩ = some (.int .i64 t[k].2) := by
  obtain ⟨b, off, e, hb, hc⟩ := h (by intro h0; have := pairs_length t; rw [h0] at this; simp at this; omega)
  obtain ⟨h1, h2⟩ := pairs_get t k hk
  exact ⟨b, off, e, hb, hc _ _ h1, by have := hc _ _ h2; rwa [← Nat.add_assoc] at this⟩
theorem pairs_one (t : List (Int × Int)) : ∀ u ∈ pairs t, u.oneCell' = true := by
  intro u hu
  simp only [pairs, List.mem_flatMap] at hu
  obtain ⟨a, _, h⟩ := hu
  simp at h
  rcases h with rfl | rfl <;> rfl
def trips (t : List (Int × Int × Int)) : List Value := t.flatMap fun s => [.int .i64 s.1, .int .i64 s.2.1, .int .i64 s.2.2]
theorem trips_length (t : List (Int × Int × Int)) : (trips t).length = t.length * 3 := by
  induction t with
  | nil => rfl
  | cons a t ih => simp only [trips, List.flatMap_cons, List.length_append, List.length_cons, List.length_nil] at *; omega
theorem trips_get (t : List (Int × Int × Int)) : ∀ (k : Nat) (h : k < t.length), (trips t)[k * 3]? = some (.int .i64 t[k].1) ∧ (trips t)[k * 3 + 1]? = some (.int .i64 t[k].2.1) ∧ (trips t)[k * 3 + 2]? = some (.int .i64 t[k].2.2) := by
  induction t with
  | nil => intro k h; simp at h
  | cons a t ih =>
    intro k h
    match k with
    | 0 => exact ⟨rfl, rfl, rfl⟩
    | k + 1 =>
      have := ih k (by simpa using h)
      rw [show (k + 1) * 3 = k * 3 + 3 from by omega, show k * 3 + 3 + 1 = (k * 3 + 1) + 3 from by omega, show k * 3 + 3 + 2 = (k * 3 + 2) + 3 from by omega]
      exact this
theorem trips_one (t : List (Int × Int × Int)) : ∀ u ∈ trips t, u.oneCell' = true := by
  intro u hu
  simp only [trips, List.mem_flatMap] at hu
  obtain ⟨a, _, h⟩ := hu
  simp at h
  rcases h with rfl | rfl | rfl <;> rfl
theorem Rd.trip' {w : World} {B : Nat} {b off : Nat} {t : List (Int × Int × Int)} {k : Nat} (h : Rd w B (some ⟨b, off, none⟩) (trips t)) (hk : k < t.length) :
    w.cell? ⟨b, off + k * 3, none⟩ = some (.int .i64 t[k].1) ∧ w.cell? ⟨b, off + k * 3 + 1, none⟩ = some (.int .i64 t[k].2.1) ∧ w.cell? ⟨b, off + k * 3 + 2, none⟩ = some (.int .i64 t[k].2.2) := by
  obtain ⟨b', off', e, hb, hc⟩ := h (by intro h0; have := trips_length t; rw [h0] at this; simp at this; omega)
  injection e with e
  injection e with e1 e2
  subst e1 e2
  obtain ⟨h1, h2, h3⟩ := trips_get t k hk
  exact ⟨hc _ _ h1, by have := hc _ _ h2; rwa [← Nat.add_assoc] at this, by have := hc _ _ h3; rwa [← Nat.add_assoc] at this⟩
theorem Rd.trip {w : World} {B : Nat} {A : Option Addr} {t : List (Int × Int × Int)} {k : Nat} (h : Rd w B A (trips t)) (hk : k < t.length) :
    ∃ b off, A = some ⟨b, off, none⟩ ∧ b < B ∧ w.cell? ⟨b, off + k * 3, none⟩ = some (.int .i64 t[k].1) ∧ w.cell? ⟨b, off + k * 3 + 1, none⟩ = some (.int .i64 t[k].2.1) ∧ w.cell? ⟨b, off + k * 3 + 2, none⟩ = some (.int .i64 t[k].2.2) := by
  obtain ⟨b, off, rfl, hb⟩ := h.addr (k := 0) (by rw [trips_length]; omega)
  exact ⟨b, off, rfl, hb, h.trip' hk⟩
/-- 'IndexFunc' found one, or none. -/
def Found (b : Bool) (W : World) (e : Ending) (w' : World) : Prop := ∃ i : Int, e = .returned (.int .i64 i) ∧ decide (0 ≤ i) = b ∧ Below W.heap.size W w'
theorem any_take_succ {α : Type} (p : α → Bool) (l : List α) (k : Nat) (h : k < l.length) : (l.take (k + 1)).any p = ((l.take k).any p || p l[k]) := by
  rw [List.take_succ_eq_append_getElem h, List.any_append]; simp
end Go.Proofs.YtfojjecnmfkcfaaGreat
namespace Go.Proofs.YtfojjecnmfkcfaaGreat
open Go.RowKit
set_option maxHeartbeats 400000 in
/-- 'fee.sum': what is added. -/
theorem sum_any (A : Option Addr) (c : Nat) (zs : List Int) (w : World) (hr : Rd w w.heap.size A (ints zs)) (hl : zs.length ≤ 1000) (hz : ∀ z ∈ zs, -1000000000000 ≤ z ∧ z ≤ 1000000000000) :
    Calls Tryz.prog 82 #[.slice A zs.length c] w fun e w' => e = .returned (.int .i64 zs.sum) ∧ w = w' := by
  go_enter Tryz.func82, Tryz.ntmps82
  go_wp2
  go_loop [3, 5, 8] (fun n x i => ∃ k : Nat, k ≤ zs.length ∧ i = .int .i64 k ∧ n = .int .i64 (zs.take k).sum) (fun _ _ i => zs.length - (intOf i).toNat)
  case atStart => exact ⟨0, Nat.zero_le _, rfl, by simp⟩
  case round =>
    obtain ⟨k, hk, rfl, rfl⟩ := hrel
    have hb := sum_le 1000000000000 (zs.take k) fun z h => hz z (List.mem_of_mem_take h)
    have hlen : ((zs.take k).length : Int) ≤ 1000 := by simp; omega
    have hlo : -1000000000000000 ≤ (zs.take k).sum := by omega
    have hhi : (zs.take k).sum ≤ 1000000000000000 := by omega
    clear hb hlen
    by_cases hlt : k < zs.length
    · obtain ⟨b, off, rfl, hbb, hcell⟩ := hr.at_ (k := k) (by rw [ints_length]; exact hlt)
      rw [ints_get] at hcell
      have hv := hz zs[k] (List.getElem_mem _)
      have hv1 := hv.1
      have hv2 := hv.2
      clear hv
      have HS := Lib.hid (take_sum zs k hlt)
      go_wp2
      go_round
      case rel => exact ⟨k + 1, by omega, by go_num, by rw [HS.out]⟩
      case measure => simp [intOf]; omega
    · go_wp2
      go_ret
      exact ⟨ret_int (by rw [List.take_of_length_le (by omega)]), rfl⟩
theorem sum2_any {w : World} {H : Nat} (hH : w.heap.size = H) (a b : Int) (h1 : -1000000000000 ≤ a) (h2 : a ≤ 1000000000000) (h3 : -1000000000000 ≤ b) (h4 : b ≤ 1000000000000) :
    Calls Tryz.prog 82 #[.slice (some ⟨H, 0, none⟩) 2 2] (w.alloc (.cells #[.int .i64 a, .int .i64 b] 3)) fun e w' => e = .returned (.int .i64 (a + b)) ∧ w.alloc (.cells #[.int .i64 a, .int .i64 b] 3) = w' := by
  refine (sum_any (some ⟨H, 0, none⟩) 2 [a, b] _ (Rd.new w _ _ hH) (by simp) ?_).mono fun e w' ⟨he, hw⟩ => ⟨by rw [he]; simp, hw⟩
  intro z hz
  simp at hz
  rcases hz with rfl | rfl <;> constructor <;> assumption
end Go.Proofs.YtfojjecnmfkcfaaGreat
namespace Go.Proofs.YtfojjecnmfkcfaaGreat
open Go.RowKit
def inB (n lo hi : Int) : Bool := decide (lo ≤ n) && decide (n ≤ hi)
theorem inB_iff {n lo hi : Int} : inB n lo hi = true ↔ lo ≤ n ∧ n ≤ hi := by simp [inB]
theorem inB_no {n lo hi : Int} : inB n lo hi = false ↔ n < lo ∨ hi < n := by simp [inB]; omega
theorem in_any (n lo hi : Int) (w : World) : Calls Tryz.prog 62 #[.int .i64 n, .int .i64 lo, .int .i64 hi] w fun e w' => e = .returned (.bool (inB n lo hi)) ∧ w = w' := by
  by_cases h1 : lo ≤ n
  all_goals
    by_cases h2 : n ≤ hi
    all_goals
      go_enter Tryz.func62, Tryz.ntmps62
      go_wp2
      go_ret
      exact ⟨ret_bool (by simp [inB, h1, h2]), rfl⟩
theorem off_any (n lo hi : Int) (w : World) : Calls Tryz.prog 75 #[.int .i64 n, .int .i64 lo, .int .i64 hi] w fun e w' => e = .returned (.bool (!inB n lo hi)) ∧ w = w' := by
  by_cases h1 : n < lo
  all_goals
    by_cases h2 : hi < n
    all_goals
      go_enter Tryz.func75, Tryz.ntmps75
      go_wp2
      go_ret
      exact ⟨ret_bool (by simp [inB, Int.not_le, h1, h2]; try omega), rfl⟩
def stepOk (u p : Int) : Bool := inB u 1 20000 && inB p 0 500
theorem stepOk_any (u p : Int) (w : World) : Calls Tryz.prog 64 #[.agg #[.int .i64 u, .int .i64 p]] w fun e w' => e = .returned (.bool (stepOk u p)) ∧ Below w.heap.size w w' := by
  go_enter Tryz.func64, Tryz.ntmps64
  go_wp2_with (go_at_call 62; refine (in_any _ _ _ _).mono ?_; rintro e w' ⟨rfl, rfl⟩)
  all_goals
    go_ret
    exact ⟨ret_bool (by simp [stepOk, *]), by go_grown⟩
def stepF : Value := .func (.func 64) #[] #[]
theorem everyStep1_any (u p : Int) (a : Addr) (w : World) (ha : w.cell? a = some stepF) (hb : a.block < w.heap.size) :
    Calls Tryz.prog 112 #[.agg #[.int .i64 u, .int .i64 p], .pointer (some a)] w fun e w' => e = .returned (.bool (!stepOk u p)) ∧ Below w.heap.size w w' := by
  unfold stepF at ha
  go_enter Tryz.func112, Tryz.ntmps112
  go_wp2_with fail
  refine (stepOk_any _ _ _).mono ?_
  rintro e w1 ⟨rfl, hb1⟩
  go_wp2_with fail
  go_ret
  exact ⟨rfl, ((Below.refl _ _).alloc (Nat.le_refl _) _).trans (hb1.mono (by simp))⟩
def stepG (a : Addr) : Value := .func (.func 112) #[] #[.pointer (some a)]
def notOk (s : Int × Int) : Bool := !stepOk s.1 s.2
set_option maxHeartbeats 400000 in
theorem indexStep_any (A : Option Addr) (c : Nat) (t : List (Int × Int)) (a : Addr) (w : World) (ha : w.cell? a = some stepF) (hb : a.block < w.heap.size) (hr : Rd w w.heap.size A (pairs t)) (hl : t.length ≤ 1000) :
    Calls Tryz.prog 126 #[.slice A t.length c, stepG a] w (Found (t.any notOk) w) := by
  unfold stepG
  go_enter Tryz.func126, Tryz.ntmps126
  go_wp2_with fail
  go_loopw [5, 8] (fun _ i wr => ∃ k : Nat, k ≤ t.length ∧ i = .int .i64 k ∧ (t.take k).any notOk = false ∧ Below w.heap.size w wr) (fun _ i _ => t.length - (intOf i).toNat)
  case atStart => exact ⟨0, Nat.zero_le _, rfl, by simp, Below.refl _ _⟩
  case round =>
    obtain ⟨k, hk, rfl, hno, hbw⟩ := hrel
    by_cases hlt : k < t.length
    · obtain ⟨b, off, rfl, hbb, hc1, hc2⟩ := (hr.below hbw).pair hlt
      go_wp2_with fail
      refine (everyStep1_any _ _ _ _ (by rw [hbw.cell hb]; exact ha) (Nat.lt_of_lt_of_le hb hbw.size)).mono ?_
      rintro e w1 ⟨rfl, hb1⟩
      have hbw1 := hbw.trans (hb1.mono hbw.size)
      have hs := any_take_succ notOk t k hlt
      by_cases hp : stepOk t[k].1 t[k].2 = true
      · have hs2 : Hid ((t.take (k + 1)).any notOk = false) := by rw [hs, hno]; simp [notOk, hp, Hid]
        clear hs
        go_wp2_with fail
        go_roundw
        case rel => exact ⟨k + 1, by omega, by go_num, hs2.out, hbw1⟩
        case measure => simp [intOf]; omega
      · have hs2 : Hid (t.any notOk = true) := by
          refine List.any_eq_true.2 ⟨t[k], List.getElem_mem _, ?_⟩
          simp [notOk, hp]
        clear hs
        go_wp2_with fail
        go_ret
        exact ⟨k, rfl, by rw [hs2.out]; simp, hbw1⟩
    · have hs2 : Hid (t.any notOk = false) := by rwa [List.take_of_length_le (by omega)] at hno
      clear hno
      go_wp2_with fail
      go_ret
      exact ⟨-1, rfl, by rw [hs2.out]; rfl, hbw⟩
theorem containsStep_any (A : Option Addr) (c : Nat) (t : List (Int × Int)) (a : Addr) (w : World) (ha : w.cell? a = some stepF) (hb : a.block < w.heap.size) (hr : Rd w w.heap.size A (pairs t)) (hl : t.length ≤ 1000) :
    Calls Tryz.prog 111 #[.slice A t.length c, stepG a] w fun e w' => e = .returned (.bool (t.any notOk)) ∧ Below w.heap.size w w' := by
  have H := Lib.hid (indexStep_any A c t a w ha hb hr hl)
  unfold stepG at H ⊢
  go_enter Tryz.func111, Tryz.ntmps111
  go_wp2_with fail
  refine H.out.mono ?_
  rintro e w1 ⟨i, rfl, hi, hb1⟩
  go_wp2_with fail
  go_ret
  exact ⟨rfl, hb1⟩
theorem everyStep_any (A : Option Addr) (c : Nat) (t : List (Int × Int)) (w : World) (hr : Rd w w.heap.size A (pairs t)) (hl : t.length ≤ 1000) :
    Calls Tryz.prog 63 #[.slice A t.length c, stepF] w fun e w' => e = .returned (.bool (!t.any notOk)) ∧ Below w.heap.size w w' := by
  have H := Lib.hid (containsStep_any A c t ⟨w.heap.size, 0, none⟩ (w.alloc (.cells #[stepF] 118)) (by simp) (by simp) (hr.alloc _) hl)
  unfold stepF at H ⊢
  unfold stepG at H
  go_enter Tryz.func63, Tryz.ntmps63
  go_wp2_with fail
  refine H.out.mono ?_
  rintro e w1 ⟨rfl, hb1⟩
  go_wp2_with fail
  go_ret
  exact ⟨rfl, ((Below.refl _ _).alloc (Nat.le_refl _) _).trans (hb1.mono (by simp))⟩
def upF : Value := .func (.func 66) #[] #[]
theorem stepUpto_any (u p : Int) (w : World) : Calls Tryz.prog 66 #[.agg #[.int .i64 u, .int .i64 p]] w fun e w' => e = .returned (.int .i64 u) ∧ Below w.heap.size w w' := by
  go_enter Tryz.func66, Tryz.ntmps66
  go_wp2_with fail
  go_ret
  exact ⟨rfl, by go_grown⟩
/-- Neighbours rise, each by at least so much. -/
def risesB (by_ : Int) : List Int → Bool
  | [] => true
  | [_] => true
  | a :: b :: l => decide (a + by_ ≤ b) && risesB by_ (b :: l)
theorem rises_snoc (b : Int) : ∀ (l : List Int) (k : Nat) (h : k + 1 < l.length), risesB b (l.take (k + 2)) = (risesB b (l.take (k + 1)) && decide (l[k] + b ≤ l[k + 1]))
  | [], k, h => by simp at h
  | [_], k, h => by simp at h
  | x :: y :: l, 0, h => by simp [risesB]
  | x :: y :: l, k + 1, h => by
    have := rises_snoc b (y :: l) k (by simpa using h)
    simp only [List.take_succ_cons, risesB, List.getElem_cons_succ] at this ⊢
    rw [this, Bool.and_assoc]
theorem rises_no (b : Int) (l : List Int) (k : Nat) (h : k + 1 < l.length) (hn : l[k + 1] < l[k] + b) : risesB b l = false := by
  have hm : ∀ m, k + 2 ≤ m → m ≤ l.length → risesB b (l.take m) = false := by
    intro m
    induction m with
    | zero => intro h0; omega
    | succ m ih =>
      intro h0 h1
      by_cases e : k + 2 = m + 1
      · rw [← e, rises_snoc b l k h, show decide (l[k] + b ≤ l[k + 1]) = false from by simpa using hn]; simp
      · obtain ⟨m, rfl⟩ : ∃ q, m = q + 1 := ⟨m - 1, by omega⟩
        rw [rises_snoc b l m (by omega), ih (by omega) (by omega)]; rfl
  have := hm l.length (by omega) (Nat.le_refl _)
  rwa [List.take_of_length_le (Nat.le_refl _)] at this
theorem rises_one (b : Int) (l : List Int) : risesB b (l.take 1) = true := by
  match l with
  | [] => rfl
  | [_] => rfl
  | _ :: _ :: _ => rfl
set_option maxHeartbeats 400000 in
theorem risingStep_any (A : Option Addr) (c : Nat) (t : List (Int × Int)) (by_ : Int) (w : World) (hr : Rd w w.heap.size A (pairs t)) (hl : t.length ≤ 1000) (hc : t.length ≤ c) (h2 : 2 ≤ t.length)
    (hu : ∀ s ∈ t, -1000000000000 ≤ s.1 ∧ s.1 ≤ 1000000000000) (hb0 : 0 ≤ by_) (hb1 : by_ ≤ 1000) :
    Calls Tryz.prog 65 #[.slice A t.length c, upF, .int .i64 by_] w fun e w' => e = .returned (.bool (risesB by_ (t.map (·.1)))) ∧ Below w.heap.size w w' := by
  unfold upF
  obtain ⟨b, off, rfl, hbb, _, _⟩ := hr.pair (k := 0) (by omega)
  have hc1 : ¬ c = 1 := by omega
  have hm : ¬ t.length < 1 := by omega
  go_enter Tryz.func65, Tryz.ntmps65
  go_wp2_with fail
  go_loopw [7, 14] (fun _ i wr => ∃ k : Nat, k + 1 ≤ t.length ∧ i = .int .i64 k ∧ risesB by_ ((t.map (·.1)).take (k + 1)) = true ∧ Below w.heap.size w wr) (fun _ i _ => t.length - (intOf i).toNat)
  case atStart => exact ⟨0, by omega, rfl, rises_one _ _, Below.refl _ _⟩
  case round =>
    obtain ⟨k, hk, rfl, hri, hbw⟩ := hrel
    have Hri := Lib.hid hri
    clear hri
    by_cases hlt : k + 1 < t.length
    · obtain ⟨hc1, hc2⟩ := (hr.below hbw).pair' (k := k) (by omega)
      obtain ⟨hc3, hc4⟩ := (hr.below hbw).pair' hlt
      have hbr : b < wr.heap.size := Nat.lt_of_lt_of_le hbb hbw.size
      have hk1 : (k : Int) + 1 < t.length := by omega
      have hk0 : (k : Int) < t.length := by omega
      obtain ⟨u1, u2⟩ := hu t[k] (List.getElem_mem _)
      have g0 : 0 ≤ by_ := hb0
      have hS := rises_snoc by_ (t.map (·.1)) k (by simpa using hlt)
      have hN := rises_no by_ (t.map (·.1)) k (by simpa using hlt)
      simp only [List.getElem_map] at hS hN
      rw [Hri.out, Bool.true_and] at hS
      have HS := Lib.hid hS
      have HN := Lib.hid hN
      clear hS hN
      go_wp2_with fail
      have q1 : IntKind.i64.wrap ((k : Int) + 1) = (k : Int) + 1 := IntWalk.i64_in _ (by omega)
      have q2 : (0 : Int) ≤ (k : Int) + 1 := by omega
      have q3 : ((k : Int) + 1).toNat = k + 1 := by omega
      have q4 : IntKind.i64.wrap (t[k].1 + by_) = t[k].1 + by_ := IntWalk.i64_in _ (by omega)
      go_region_held3 (fun w' => w'.cell? ⟨b, off + k * 2, none⟩ = some (.int .i64 t[k].1) ∧ w'.cell? ⟨b, off + k * 2 + 1, none⟩ = some (.int .i64 t[k].2) ∧ w'.cell? ⟨b, off + (k + 1) * 2, none⟩ = some (.int .i64 t[k + 1].1) ∧ w'.cell? ⟨b, off + (k + 1) * 2 + 1, none⟩ = some (.int .i64 t[k + 1].2) ∧ Below wr.heap.size wr w') (first | exact ⟨hc1, hc2, hc3, hc4, (Below.refl _ _).drew⟩ | exact keep4 hbr (by assumption) (by assumption))
        (first | (go_at_call 66; refine (stepUpto_any _ _ _).mono ?_; rintro e w' ⟨rfl, hb⟩))
      clear q1 q2 q3
      all_goals go_wp2_with fail
      · have hq : t[k + 1].1 < t[k].1 + by_ := by assumption
        clear q4
        go_ret
        exact ⟨ret_bool (HN.out hq).symm, hbw.trans (Below.mono (and5 (by assumption)) hbw.size)⟩
      · have hq : t[k].1 + by_ ≤ t[k + 1].1 := by assumption
        clear q4
        go_roundw
        case rel => exact ⟨k + 1, by omega, by go_num, by rw [HS.out]; simpa using hq, hbw.trans (Below.mono (and5 (by assumption)) hbw.size)⟩
        case measure => simp [intOf]; omega
    · have hfin : Hid (risesB by_ (t.map (·.1)) = true) := by
        have := Hri.out
        rwa [List.take_of_length_le (by simp; omega)] at this
      go_wp2_with fail
      go_ret
      exact ⟨ret_bool hfin.out.symm, hbw⟩
end Go.Proofs.YtfojjecnmfkcfaaGreat
namespace Go.Proofs.YtfojjecnmfkcfaaGreat
open Go.RowKit
set_option maxHeartbeats 400000 in
theorem risingStep_one (A : Option Addr) (c : Nat) (t : List (Int × Int)) (by_ : Int) (w : World) (h1 : t.length = 1) (hc : 1 ≤ c) :
    Calls Tryz.prog 65 #[.slice A t.length c, upF, .int .i64 by_] w fun e w' => e = .returned (.bool (risesB by_ (t.map (·.1)))) ∧ Below w.heap.size w w' := by
  unfold upF
  obtain ⟨x, rfl⟩ : ∃ x, t = [x] := by
    match t, h1 with
    | [x], _ => exact ⟨x, rfl⟩
  by_cases hc1 : c = 1
  · subst hc1
    go_enter Tryz.func65, Tryz.ntmps65
    go_wp2_with fail
    go_loop [14] (fun i => i = .int .i64 0) (fun _ => 0)
    case atStart => rfl
    case round =>
      subst hrel
      go_wp2_with fail
      go_ret
      exact ⟨rfl, Below.refl _ _⟩
  · go_enter Tryz.func65, Tryz.ntmps65
    go_wp2_with fail
    go_loop [14] (fun i => i = .int .i64 0) (fun _ => 0)
    case atStart => rfl
    case round =>
      subst hrel
      go_wp2_with fail
      go_ret
      exact ⟨rfl, Below.refl _ _⟩
def ckTariff (t : List (Int × Int)) : Int :=
  if t.length < 1 ∨ 4 < t.length then 3 else if t.any notOk then 4 else if risesB 1 (t.map (·.1)) then 0 else 6
set_option maxHeartbeats 400000 in
theorem checkTariff_any (A : Option Addr) (c : Nat) (t : List (Int × Int)) (w : World) (hr : Rd w w.heap.size A (pairs t)) (hl : t.length ≤ 1000) (hc : t.length ≤ c) :
    Calls Tryz.prog 13 #[.slice A t.length c] w fun e w' => e = .returned (.int .i64 (ckTariff t)) ∧ Below w.heap.size w w' := by
  have H1 := fun n => Lib.hid (in_any n 1 4 w)
  have H2 := Lib.hid (everyStep_any A c t w hr hl)
  by_cases hL : inB t.length 1 4 = true
  · have hL' := inB_iff.1 hL
    have e1 : ¬(t.length < 1 ∨ 4 < t.length) := by omega
    by_cases hE : t.any notOk = true
    · have HF : Hid (ckTariff t = 4) := by unfold ckTariff; rw [if_neg e1, if_pos hE]; rfl
      clear hL' e1
      unfold stepF at H2
      go_enter Tryz.func13, Tryz.ntmps13
      go_wp2_with fail
      refine (H1 _).out.mono ?_
      rintro e w1 ⟨rfl, rfl⟩
      go_wp2_with fail
      refine H2.out.mono ?_
      rintro e w1 ⟨rfl, hb1⟩
      go_wp2_with fail
      go_ret
      exact ⟨ret_int HF.out.symm, hb1⟩
    · have hE' : t.any notOk = false := by simpa using hE
      clear hE
      have hall : ∀ s ∈ t, stepOk s.1 s.2 = true := by
        intro s hs
        have := List.any_eq_false.1 hE' s hs
        simpa [notOk] using this
      have HR : ∀ w1, Below w.heap.size w w1 → Hid (Calls Tryz.prog 65 #[.slice A t.length c, upF, .int .i64 1] w1 fun e w' => e = .returned (.bool (risesB 1 (t.map (·.1)))) ∧ Below w1.heap.size w1 w') := by
        intro w1 hb1
        by_cases h1 : t.length = 1
        · exact risingStep_one A c t 1 w1 h1 (by omega)
        · refine risingStep_any A c t 1 w1 (hr.next hb1) hl hc (by omega) ?_ (by omega) (by omega)
          intro s hs
          have := hall s hs
          simp only [stepOk, Bool.and_eq_true, inB_iff] at this
          omega
      have HF : Hid (ckTariff t = if risesB 1 (t.map (·.1)) then 0 else 6) := by unfold ckTariff; rw [if_neg e1, hE', if_neg (by simp)]; rfl
      clear hL' e1 hall
      unfold stepF at H2
      unfold upF at HR
      by_cases hR : risesB 1 (t.map (·.1)) = true
      all_goals
        go_enter Tryz.func13, Tryz.ntmps13
        go_wp2_with fail
        refine (H1 _).out.mono ?_
        rintro e w1 ⟨rfl, rfl⟩
        go_wp2_with fail
        refine H2.out.mono ?_
        rintro e w1 ⟨rfl, hb1⟩
        go_wp2_with fail
        refine (HR _ hb1).out.mono ?_
        rintro e w2 ⟨rfl, hb2⟩
        go_wp2_with fail
        go_ret
        exact ⟨ret_int (by rw [HF.out]; simp [hR]), hb1.trans (hb2.mono hb1.size)⟩
  · have hL' := inB_no.1 (by simpa using hL)
    have HF : Hid (ckTariff t = 3) := by unfold ckTariff; rw [if_pos (by omega)]; rfl
    clear hL'
    go_enter Tryz.func13, Tryz.ntmps13
    go_wp2_with fail
    refine (H1 _).out.mono ?_
    rintro e w1 ⟨rfl, rfl⟩
    go_wp2_with fail
    go_ret
    exact ⟨ret_int HF.out.symm, Below.refl _ _⟩
end Go.Proofs.YtfojjecnmfkcfaaGreat
namespace Go.Proofs.YtfojjecnmfkcfaaGreat
open Go.RowKit
/-- What the first k steps cost, in hundredths, and up to where they are counted. -/
def costK (t : List (Int × Int)) (pounds : Int) : Nat → Int × Int
  | 0 => (0, 0)
  | k + 1 =>
    let s := t.getD k (0, 0)
    let to := if k + 1 = t.length then pounds else min pounds s.1
    ((costK t pounds k).1 + max 0 (to - (costK t pounds k).2) * s.2, s.1)
def costF (t : List (Int × Int)) (pounds : Int) : Int := ((costK t pounds t.length).1 + 99) / 100
def stepsOk (t : List (Int × Int)) : Prop := ∀ s ∈ t, 1 ≤ s.1 ∧ s.1 ≤ 20000 ∧ 0 ≤ s.2 ∧ s.2 ≤ 500
theorem stepsOk_of {t : List (Int × Int)} (h : t.any notOk = false) : stepsOk t := by
  intro s hs
  have := List.any_eq_false.1 h s hs
  simp only [notOk, Bool.not_eq_true', stepOk, Bool.not_eq_false, Bool.and_eq_true, inB_iff] at this
  omega
theorem costK_bd (t : List (Int × Int)) (pounds : Int) (hs : stepsOk t) (h0 : 0 ≤ pounds) (h1 : pounds ≤ 20000) : ∀ k, k ≤ t.length → 0 ≤ (costK t pounds k).1 ∧ (costK t pounds k).1 ≤ 10000000 * k ∧ 0 ≤ (costK t pounds k).2 ∧ (costK t pounds k).2 ≤ 20000 := by
  intro k
  induction k with
  | zero => intro _; simp [costK]
  | succ k ih =>
    intro hk
    obtain ⟨a, b, c, d⟩ := ih (by omega)
    have hm : t.getD k (0, 0) ∈ t := by rw [List.getD_eq_getElem?_getD, List.getElem?_eq_getElem (by omega)]; exact List.getElem_mem _
    obtain ⟨e, f, g, h⟩ := hs _ hm
    simp only [costK]
    generalize t.getD k (0, 0) = s at *
    generalize (costK t pounds k).2 = fr at *
    generalize (costK t pounds k).1 = ou at *
    have hto : (if k + 1 = t.length then pounds else min pounds s.1) ≤ 20000 := by split <;> omega
    generalize (if k + 1 = t.length then pounds else min pounds s.1) = to at *
    have hm0 : 0 ≤ max 0 (to - fr) := by omega
    have hm1 : max 0 (to - fr) ≤ 20000 := by omega
    generalize max 0 (to - fr) = m at *
    have p0 : 0 ≤ m * s.2 := Int.mul_nonneg hm0 g
    have p1 : m * s.2 ≤ 20000 * 500 := Int.mul_le_mul hm1 h g (by omega)
    refine ⟨by omega, by push_cast; omega, by omega, by omega⟩
set_option maxHeartbeats 1000000 in
theorem cost_any (A : Option Addr) (c : Nat) (t : List (Int × Int)) (p : Int) (w : World) (hr : Rd w w.heap.size A (pairs t)) (hl : t.length ≤ 1000) (hs : stepsOk t) (h0 : 0 ≤ p) (h1 : p ≤ 20000) :
    Calls Tryz.prog 102 #[.slice A t.length c, .int .i64 p] w fun e w' => e = .returned (.int .i64 (costF t p)) ∧ Below w.heap.size w w' := by
  go_enter Tryz.func102, Tryz.ntmps102
  go_wp2_with fail
  go_loopw [5, 6, 12] (fun o f i wr => ∃ k : Nat, k ≤ t.length ∧ i = .int .i64 k ∧ o = .int .i64 (costK t p k).1 ∧ f = .int .i64 (costK t p k).2 ∧ Below w.heap.size w wr) (fun _ _ i _ => t.length - (intOf i).toNat)
  case atStart => exact ⟨0, by omega, rfl, rfl, rfl, Below.refl _ _⟩
  case round =>
    obtain ⟨k, hk, rfl, rfl, rfl, hbw⟩ := hrel
    obtain ⟨b1, b2, b3, b4⟩ := costK_bd t p hs h0 h1 k hk
    have b5 : (k : Int) ≤ 1000 := by omega
    by_cases hlt : k < t.length
    · obtain ⟨b, off, rfl, hbb, hc1, hc2⟩ := (hr.below hbw).pair hlt
      obtain ⟨e, f, g, h⟩ := hs _ (List.getElem_mem hlt)
      have hK : costK t p (k + 1) = ((costK t p k).1 + max 0 ((if k + 1 = t.length then p else min p t[k].1) - (costK t p k).2) * t[k].2, t[k].1) := by
        simp only [costK, List.getD_eq_getElem?_getD, List.getElem?_eq_getElem hlt, Option.getD_some]
      have HK := Lib.hid hK
      clear hK
      generalize (costK t p k).2 = fr at *
      generalize (costK t p k).1 = ou at *
      generalize t[k].1 = u at *
      generalize t[k].2 = q at *
      obtain ⟨to, hto⟩ : ∃ to, to = (if k + 1 = t.length then p else min p u) := ⟨_, rfl⟩
      have hto2 : to ≤ 20000 := by rw [hto]; split <;> omega
      have hto3 : 0 ≤ to := by rw [hto]; split <;> omega
      rw [← hto] at HK
      have Hto := Lib.hid hto
      clear hto
      have hm0 : 0 ≤ max 0 (to - fr) := by omega
      have hm1 : max 0 (to - fr) ≤ 20000 := by omega
      have hm2 : 0 ≤ max 0 (to - fr) * q := Int.mul_nonneg hm0 g
      have hm3 : max 0 (to - fr) * q ≤ 20000 * 500 := Int.mul_le_mul hm1 h g (by omega)
      have hw0 : wrap64 0 = 0 := IntWalk.wrap64_in _ (by omega)
      have hcase : (0 < to - fr ∧ 0 ≤ (to - fr) * q ∧ (to - fr) * q ≤ 10000000 ∧ costK t p (k + 1) = (ou + (to - fr) * q, u)) ∨ (to - fr ≤ 0 ∧ costK t p (k + 1) = (ou, u)) := by
        by_cases hsg : 0 < to - fr
        · rw [show max 0 (to - fr) = to - fr from by omega] at hm2 hm3 HK
          exact .inl ⟨hsg, hm2, by omega, HK.out⟩
        · rw [show max 0 (to - fr) = 0 from by omega, Int.zero_mul, Int.add_zero] at HK
          exact .inr ⟨by omega, HK.out⟩
      clear hm0 hm1 hm2 hm3 HK
      have hbw2 : ∀ x y, Below w.heap.size w ((wr.alloc x).alloc y) := fun x y => (hbw.alloc hbw.size _).alloc (by simp; have := hbw.size; omega) _
      have Hbw2 := Lib.hid hbw2
      clear hbw2
      by_cases hla : k + 1 = t.length
      · have hpo : p = to := by rw [Hto.out, if_pos hla]
        subst hpo
        have hla2 : ((k : Int) == (t.length : Int) - 1) = true := by rw [beq_iff_eq]; omega
        have Hla := Lib.hid hla
        clear hla Hto
        by_cases hmn : u < p
        all_goals
          rcases hcase with ⟨s1, s2, s3, s4⟩ | ⟨s1, s4⟩
          all_goals
            have S4 := Lib.hid s4
            clear s4
            go_wp2_with fail
            refine (sum2_any (by simp) _ _ (by omega) (by omega) (by omega) (by omega)).mono ?_
            rintro e w1 ⟨rfl, rfl⟩
            go_wp2_with fail
            go_roundw
            case rel => exact ⟨k + 1, by omega, by go_num, by rw [S4.out], by rw [S4.out], Hbw2.out _ _⟩
            case measure => simp [intOf]; omega
      · have hla2 : ((k : Int) == (t.length : Int) - 1) = false := by rw [beq_eq_false_iff_ne]; omega
        have hto : to = min p u := by rw [Hto.out, if_neg hla]
        clear hla Hto
        by_cases hmn : u < p
        all_goals
          obtain rfl : to = _ := by first | exact hto.trans (Int.min_eq_right (by omega)) | exact hto.trans (Int.min_eq_left (by omega))
          clear hto
          rcases hcase with ⟨s1, s2, s3, s4⟩ | ⟨s1, s4⟩
          all_goals
            have S4 := Lib.hid s4
            clear s4
            go_wp2_with fail
            refine (sum2_any (by simp) _ _ (by omega) (by omega) (by omega) (by omega)).mono ?_
            rintro e w1 ⟨rfl, rfl⟩
            go_wp2_with fail
            go_roundw
            case rel => exact ⟨k + 1, by omega, by go_num, by rw [S4.out], by rw [S4.out], Hbw2.out _ _⟩
            case measure => simp [intOf]; omega
    · have hk2 : Hid (costF t p = ((costK t p k).1 + 99) / 100) := by
        unfold costF; rw [show t.length = k from by omega]; rfl
      go_wp2_with fail
      go_ret
      exact ⟨ret_int hk2.out.symm, hbw⟩
end Go.Proofs.YtfojjecnmfkcfaaGreat
