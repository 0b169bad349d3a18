/- Words for memory that the walks of this seat share: a slice that reads as a list of cells ('Rd'), and small facts on Below. A region that draws its order, of operations that only read or make memory, ahead of a tail: one proof serves every order. A region that draws its order ahead of a tail: an invariant of the world, and a fact for each operation that is done; one proof serves every order. Its operations may write. A region that reads and calls quietly, in the frame of a round of a range over a function: one walk in the order of the text serves every order, if no operation defers. Words for memory and for ranges over functions that the walks share. Drifts over events, plainly: which values fit, what they sum to, and the best sums. Events in the order of their minutes: how one is put in, and that what stands at each minute determines the list. -/
import Derived.WalkKit
import Derived.ProofKit
import Derived.OpenShut
import Derived.Below
import Derived.Handy
import Derived.Laws.OwnMore
import Derived.Deep.Draws
import Derived.Lib.Hide
import Derived.Maps.AppendAt
import Derived.Deep.AppendLies
import Derived.OwnWalk
import Derived.WalkSmall
import Derived.RegionTactic
import Derived.Sort.QuietIn
import Derived.RangeFuncCalls
import Derived.OwnWalkIn
import Derived.RangeFuncNested
import Derived.RangeFuncBound
import Derived.RangeFuncLeaves
import Derived.TacticsInMore
import Derived.LoopNIn
import Derived.LoopIn
import Derived.Deep.RegionHeld3
import Derived.Deep.DeepCutAuto
import Derived.Deep.Cut
import Init
namespace Go.Proofs.YtcdjoegihmfanaaGreat
open Go.RowKit

/-- The slice value at address 'A' holds the cells 'xs', in blocks below 'B'. -/
def Rd (w : World) (B : Nat) (A : Option Addr) (xs : List Value) : Prop :=
  xs ≠ [] → ∃ b off, A = some ⟨b, off, none⟩ ∧ b < B ∧ ∀ j u, xs[j]? = some u → w.cell? ⟨b, off + j, none⟩ = some u

section
variable {w w' : World} {B B' : Nat} {A : Option Addr} {xs : List Value}
theorem Rd.nil : Rd w B A [] := fun h => absurd rfl h
theorem Rd.keep (h : Rd w B A xs) (hk : ∀ b o, b < B → w'.cell? ⟨b, o, none⟩ = w.cell? ⟨b, o, none⟩) : Rd w' B A xs := fun hn => by
  obtain ⟨b, off, e, hb, hc⟩ := h hn
  exact ⟨b, off, e, hb, fun j u hu => (hk _ _ hb).trans (hc j u hu)⟩
theorem Rd.more (h : Rd w B A xs) (hB : B ≤ B') : Rd w B' A xs := fun hn => by
  obtain ⟨b, off, e, hb, hc⟩ := h hn
  exact ⟨b, off, e, by omega, hc⟩
theorem Rd.below (h : Rd w B A xs) (hb : Below B w w') : Rd w' B A xs := h.keep fun _ _ hp => hb.cell (p := ⟨_, _, none⟩) hp
theorem Rd.belowM {C : Nat} (h : Rd w B A xs) (hb : Below C w w') (hC : B ≤ C) : Rd w' B A xs := h.keep fun _ _ hp => hb.cell (p := ⟨_, _, none⟩) (Nat.lt_of_lt_of_le hp hC)
theorem Rd.next (h : Rd w w.heap.size A xs) (hb : Below w.heap.size w w') : Rd w' w'.heap.size A xs := (h.below hb).more hb.size
theorem Rd.alloc (h : Rd w w.heap.size A xs) (o : Obj) : Rd (w.alloc o) (w.alloc o).heap.size A xs := h.next ((Below.refl _ _).alloc (Nat.le_refl _) _)
theorem Rd.drew (h : Rd w B A xs) : Rd w.drew B A xs := h
theorem Rd.at_ {k : Nat} (h : Rd w B A xs) (hk : k < xs.length) : ∃ b off, A = some ⟨b, off, none⟩ ∧ b < B ∧ w.cell? ⟨b, off + k, none⟩ = some xs[k] := by
  obtain ⟨b, off, e, hb, hc⟩ := h (by intro h0; subst h0; simp at hk)
  exact ⟨b, off, e, hb, hc k _ (List.getElem?_eq_getElem hk)⟩
/-- A slice is nil, or has an address: for walks that must know which. -/
theorem Rd.addr {k : Nat} (h : Rd w B A xs) (hk : k < xs.length) : ∃ b off, A = some ⟨b, off, none⟩ ∧ b < B := by
  obtain ⟨b, off, e, hb, _⟩ := h.at_ hk
  exact ⟨b, off, e, hb⟩
end

/-- What a region's loads read stays through a call that makes memory alone. -/
theorem keep4 {w0 w1 w2 : World} {b o1 o2 o3 o4 : Nat} {v1 v2 v3 v4 : Value} (hB : b < w0.heap.size) (h : w1.cell? ⟨b, o1, none⟩ = some v1 ∧ w1.cell? ⟨b, o2, none⟩ = some v2 ∧ w1.cell? ⟨b, o3, none⟩ = some v3 ∧ w1.cell? ⟨b, o4, none⟩ = some v4 ∧ Below w0.heap.size w0 w1)
    (hb : Below w1.heap.size w1 w2) : w2.cell? ⟨b, o1, none⟩ = some v1 ∧ w2.cell? ⟨b, o2, none⟩ = some v2 ∧ w2.cell? ⟨b, o3, none⟩ = some v3 ∧ w2.cell? ⟨b, o4, none⟩ = some v4 ∧ Below w0.heap.size w0 w2 := by
  obtain ⟨h1, h2, h3, h4, h5⟩ := h
  have hB' := Nat.lt_of_lt_of_le hB h5.size
  exact ⟨(hb.cell (p := ⟨b, o1, none⟩) hB').trans h1, (hb.cell (p := ⟨b, o2, none⟩) hB').trans h2, (hb.cell (p := ⟨b, o3, none⟩) hB').trans h3, (hb.cell (p := ⟨b, o4, none⟩) hB').trans h4, h5.trans (hb.mono h5.size)⟩

theorem and5 {a b c d e : Prop} (h : a ∧ b ∧ c ∧ d ∧ e) : e := h.2.2.2.2

theorem bcell {W w1 : World} {B : Nat} (hb : Below B W w1) : (∀ b o, b < B → w1.cell? ⟨b, o, none⟩ = W.cell? ⟨b, o, none⟩) ∧ (∀ b o, b < B → w1.frozen? ⟨b, o, none⟩ = W.frozen? ⟨b, o, none⟩) :=
  ⟨fun b o h => hb.cell (p := ⟨b, o, none⟩) h, fun b o h => hb.frozen (p := ⟨b, o, none⟩) h⟩

theorem ret_int {k : IntKind} {a b : Int} (h : a = b) : Ending.returned (.int k a) = .returned (.int k b) := by rw [h]
theorem ret_bool {a b : Bool} (h : a = b) : Ending.returned (.bool a) = .returned (.bool b) := by rw [h]

/-- The numbers of a list as cells. -/
def ints (zs : List Int) : List Value := zs.map (Value.int .i64)
theorem ints_length (zs : List Int) : (ints zs).length = zs.length := by simp [ints]
theorem ints_get {zs : List Int} {k : Nat} (h : k < (ints zs).length) : (ints zs)[k] = .int .i64 (zs[k]'(by simpa [ints] using h)) := by simp [ints]

theorem Rd.int {w : World} {B : Nat} {A : Option Addr} {t : List Int} {k : Nat} (h : Rd w B A (ints t)) (hk : k < t.length) : ∃ b off, A = some ⟨b, off, none⟩ ∧ b < B ∧ w.cell? ⟨b, off + k, none⟩ = some (.int .i64 t[k]) := by
  obtain ⟨b, off, e, hb, hc⟩ := h.at_ (k := k) (by rw [ints_length]; exact hk)
  rw [ints_get] at hc
  exact ⟨b, off, e, hb, hc⟩
theorem Rd.int' {w : World} {B b off : Nat} {t : List Int} {k : Nat} (h : Rd w B (some ⟨b, off, none⟩) (ints t)) (hk : k < t.length) : w.cell? ⟨b, off + k, none⟩ = some (.int .i64 t[k]) := by
  obtain ⟨b', off', e, _, hc⟩ := h.int hk
  injection e with e
  injection e with e1 e2
  subst e1 e2
  exact hc
theorem take_sum (zs : List Int) (k : Nat) (h : k < zs.length) : (zs.take (k + 1)).sum = (zs.take k).sum + zs[k] := by
  rw [List.take_succ_eq_append_getElem h, List.sum_append]; simp
/-- Sums of at most so many small numbers are small. -/
theorem sum_le (M : Int) : ∀ zs : List Int, (∀ z ∈ zs, -M ≤ z ∧ z ≤ M) → -(M * zs.length) ≤ zs.sum ∧ zs.sum ≤ M * zs.length
  | [], _ => by simp
  | z :: zs, h => by
    obtain ⟨a, b⟩ := sum_le M zs fun y hy => h y (List.mem_cons_of_mem _ hy)
    obtain ⟨c, d⟩ := h z List.mem_cons_self
    simp only [List.sum_cons, List.length_cons]
    have e : M * ((zs.length + 1 : Nat) : Int) = M * zs.length + M := by push_cast; rw [Int.mul_add, Int.mul_one]
    rw [e]
    omega
theorem Rd.new (w : World) (l : List Value) (t : TypeId) {H : Nat} (hH : w.heap.size = H) : Rd (w.alloc (.cells l.toArray t)) (w.alloc (.cells l.toArray t)).heap.size (some ⟨H, 0, none⟩) l := fun _ => by
  subst hH
  refine ⟨_, _, rfl, by simp, fun j u hu => ?_⟩
  rw [Nat.zero_add, World.cell?_alloc_new]
  simpa using hu
theorem below_new (w : World) (o : Obj) : Below w.heap.size w (w.alloc o) := (Below.refl _ _).alloc (Nat.le_refl _) _
theorem addr_add (b off j : Nat) : (⟨b, off, none⟩ : Addr).add j = ⟨b, off + j, none⟩ := by
  unfold Addr.add; split <;> simp_all
theorem Rd.news {w : World} {B b off : Nat} {xs : List Value} (h : Rd w B (some ⟨b, off, none⟩) xs) : ∀ j u, xs[j]? = some u → w.cell? ((⟨b, off, none⟩ : Addr).add j) = some u := by
  intro j u hu
  obtain ⟨b', off', e, _, hc⟩ := h (by rintro rfl; simp at hu)
  injection e with e
  injection e with e1 e2
  subst e1 e2
  rw [addr_add]
  exact hc j u hu
/-- The call returns a slice of its own that holds the cells. -/
def RetOwn (E : TypeId) (size n : Nat) (cells : List Value) (W : World) (e : Ending) (w' : World) : Prop :=
  ∃ v, e = .returned v ∧ w'.ownsRow W.heap.size E size v n cells ∧ Below W.heap.size W w'
theorem own_slice {w : World} {base : Nat} {E : TypeId} {size n : Nat} {v : Value} {xs : List Value} (h : w.ownsRow base E size v n xs) : ∃ A c, v = .slice A n c ∧ n ≤ c ∧ Rd w w.heap.size A xs := by
  rcases h.2 with ⟨rfl, rfl⟩ | ⟨g, cap, cur, rfl, hb, hg, hn, hm, hs, ht⟩
  · have hx : xs = [] := List.eq_nil_of_length_eq_zero (by simpa using h.1)
    subst hx
    exact ⟨none, 0, rfl, Nat.le_refl _, Rd.nil⟩
  · refine ⟨_, _, rfl, hn, fun _ => ⟨g, 0, rfl, (Array.getElem?_eq_some_iff.1 hg).1, fun j u hu => ?_⟩⟩
    have := h.cells (g := g) rfl j u hu
    rwa [addr_add] at this
theorem _root_.Go.World.ownsRow.base_ {w : World} {base base' : Nat} {E : TypeId} {size n : Nat} {v : Value} {xs : List Value} (h : w.ownsRow base E size v n xs) (hb : base' ≤ base) : w.ownsRow base' E size v n xs := by
  refine ⟨h.1, ?_⟩
  rcases h.2 with h | ⟨g, cap, cur, h1, h2, h3⟩
  · exact .inl h
  · exact .inr ⟨g, cap, cur, h1, by omega, h3⟩
theorem ints_one (zs : List Int) : ∀ u ∈ ints zs, u.oneCell' = true := by
  intro u hu
  simp only [ints, List.mem_map] at hu
  obtain ⟨a, _, rfl⟩ := hu
  rfl
/-- Pairs of numbers as cells; triples. -/
def pairs (t : List (Int × Int)) : List Value := t.flatMap fun s => [.int .i64 s.1, .int .i64 s.2]
theorem pairs_length (t : List (Int × Int)) : (pairs t).length = t.length * 2 := by
  induction t with
  | nil => rfl
  | cons a t ih => simp only [pairs, List.flatMap_cons, List.length_append, List.length_cons, List.length_nil] at *; omega
theorem pairs_get (t : List (Int × Int)) : ∀ (k : Nat) (h : k < t.length), (pairs t)[k * 2]? = some (.int .i64 t[k].1) ∧ (pairs t)[k * 2 + 1]? = some (.int .i64 t[k].2) := by
  induction t with
  | nil => intro k h; simp at h
  | cons a t ih =>
    intro k h
    match k with
    | 0 => exact ⟨rfl, rfl⟩
    | k + 1 =>
      have := ih k (by simpa using h)
      rw [show (k + 1) * 2 = k * 2 + 2 from by omega, show k * 2 + 2 + 1 = (k * 2 + 1) + 2 from by omega]
      exact this
theorem Rd.pair' {w : World} {B : Nat} {b off : Nat} {t : List (Int × Int)} {k : Nat} (h : Rd w B (some ⟨b, off, none⟩) (pairs t)) (hk : k < t.length) :
    w.cell? ⟨b, off + k * 2, none⟩ = some (.int .i64 t[k].1) ∧ w.cell? ⟨b, off + k * 2 + 1, none⟩ = some (.int .i64 t[k].2) := by
  obtain ⟨b', off', e, hb, hc⟩ := h (by intro h0; have := pairs_length t; rw [h0] at this; simp at this; omega)
  injection e with e
  injection e with e1 e2
  subst e1 e2
  obtain ⟨h1, h2⟩ := pairs_get t k hk
  exact ⟨hc _ _ h1, by have := hc _ _ h2; rwa [← Nat.add_assoc] at this⟩
theorem Rd.pair {w : World} {B : Nat} {A : Option Addr} {t : List (Int × Int)} {k : Nat} (h : Rd w B A (pairs t)) (hk : k < t.length) :
    ∃ b off, A = some ⟨b, off, none⟩ ∧ b < B ∧ w.cell? ⟨b, off + k * 2, none⟩ = some (.int .i64 t[k].1) ∧ w.cell? ⟨b, off + k * 2 + 1, none⟩ = some (.int .i64 t[k].2) := by
  obtain ⟨b, off, e, hb, hc⟩ := h (by intro h0; have := pairs_length t; rw [h0] at this; simp at this; omega)
  obtain ⟨h1, h2⟩ := pairs_get t k hk
  exact ⟨b, off, e, hb, hc _ _ h1, by have := hc _ _ h2; rwa [← Nat.add_assoc] at this⟩
theorem pairs_one (t : List (Int × Int)) : ∀ u ∈ pairs t, u.oneCell' = true := by
  intro u hu
  simp only [pairs, List.mem_flatMap] at hu
  obtain ⟨a, _, h⟩ := hu
  simp at h
  rcases h with rfl | rfl <;> rfl
def trips (t : List (Int × Int × Int)) : List Value := t.flatMap fun s => [.int .i64 s.1, .int .i64 s.2.1, .int .i64 s.2.2]
theorem trips_length (t : List (Int × Int × Int)) : (trips t).length = t.length * 3 := by
  induction t with
  | nil => rfl
  | cons a t ih => simp only [trips, List.flatMap_cons, List.length_append, List.length_cons, List.length_nil] at *; omega
theorem trips_get (t : List (Int × Int × Int)) : ∀ (k : Nat) (h : k < t.length), (trips t)[k * 3]? = some (.int .i64 t[k].1) ∧ (trips t)[k * 3 + 1]? = some (.int .i64 t[k].2.1) ∧ (trips t)[k * 3 + 2]? = some (.int .i64 t[k].2.2) := by
  induction t with
  | nil => intro k h; simp at h
  | cons a t ih =>
    intro k h
    match k with
    | 0 => exact ⟨rfl, rfl, rfl⟩
    | k + 1 =>
      have := ih k (by simpa using h)
      rw [show (k + 1) * 3 = k * 3 + 3 from by omega, show k * 3 + 3 + 1 = (k * 3 + 1) + 3 from by omega, show k * 3 + 3 + 2 = (k * 3 + 2) + 3 from by omega]
      exact this
theorem trips_one (t : List (Int × Int × Int)) : ∀ u ∈ trips t, u.oneCell' = true := by
  intro u hu
  simp only [trips, List.mem_flatMap] at hu
  obtain ⟨a, _, h⟩ := hu
  simp at h
  rcases h with rfl | rfl | rfl <;> rfl
theorem Rd.trip' {w : World} {B : Nat} {b off : Nat} {t : List (Int × Int × Int)} {k : Nat} (h : Rd w B (some ⟨b, off, none⟩) (trips t)) (hk : k < t.length) :
    w.cell? ⟨b, off + k * 3, none⟩ = some (.int .i64 t[k].1) ∧ w.cell? ⟨b, off + k * 3 + 1, none⟩ = some (.int .i64 t[k].2.1) ∧ w.cell? ⟨b, off + k * 3 + 2, none⟩ = some (.int .i64 t[k].2.2) := by
  obtain ⟨b', off', e, hb, hc⟩ := h (by intro h0; have := trips_length t; rw [h0] at this; simp at this; omega)
  injection e with e
  injection e with e1 e2
  subst e1 e2
  obtain ⟨h1, h2, h3⟩ := trips_get t k hk
  exact ⟨hc _ _ h1, by have := hc _ _ h2; rwa [← Nat.add_assoc] at this, by have := hc _ _ h3; rwa [← Nat.add_assoc] at this⟩
theorem Rd.trip {w : World} {B : Nat} {A : Option Addr} {t : List (Int × Int × Int)} {k : Nat} (h : Rd w B A (trips t)) (hk : k < t.length) :
    ∃ b off, A = some ⟨b, off, none⟩ ∧ b < B ∧ w.cell? ⟨b, off + k * 3, none⟩ = some (.int .i64 t[k].1) ∧ w.cell? ⟨b, off + k * 3 + 1, none⟩ = some (.int .i64 t[k].2.1) ∧ w.cell? ⟨b, off + k * 3 + 2, none⟩ = some (.int .i64 t[k].2.2) := by
  obtain ⟨b, off, rfl, hb⟩ := h.addr (k := 0) (by rw [trips_length]; omega)
  exact ⟨b, off, rfl, hb, h.trip' hk⟩
/-- 'IndexFunc' found one, or none. -/
def Found (b : Bool) (W : World) (e : Ending) (w' : World) : Prop := ∃ i : Int, e = .returned (.int .i64 i) ∧ decide (0 ≤ i) = b ∧ Below W.heap.size W w'
theorem any_take_succ {α : Type} (p : α → Bool) (l : List α) (k : Nat) (h : k < l.length) : (l.take (k + 1)).any p = ((l.take k).any p || p l[k]) := by
  rw [List.take_succ_eq_append_getElem h, List.any_append]; simp
end Go.Proofs.YtcdjoegihmfanaaGreat
namespace Go.Proofs.YtcdjoegihmfanaaGreat
open Go.RowKit
def dstOf (ops : Array Oper) (i : Nat) : Option Tmp := (ops[i]?).bind (·.dst)
/-- The first n operations have each a place of its own, no guard, and edges to earlier ones alone. -/
def headOk (ops : Array Oper) (n size : Nat) : Bool :=
  (List.range n).all fun i => match ops[i]? with
    | none => false
    | some o => o.guard.isNone && o.after.all (fun e => decide (e.on < i)) && (match o.dst with | none => false | some d => decide (d < size) && (List.range i).all fun j => dstOf ops j != some d)
/-- Operation i waits for operation j, directly or through others of the first n. -/
def waitsB (ops : Array Oper) (n : Nat) : Nat → Nat → Nat → Bool
  | 0, _, _ => false
  | f + 1, i, j => match ops[i]? with
    | none => false
    | some o => o.after.any fun e => Region.binds .any e && (e.on == j || decide (e.on < n) && waitsB ops n f e.on j)
/-- Operation i waits for one that is not among the first n. -/
def waitsTail (ops : Array Oper) (n i : Nat) : Bool := match ops[i]? with
  | none => false
  | some o => o.after.any fun e => Region.binds .any e && decide (n ≤ e.on)
theorem waitsTail_no {ops : Array Oper} {n i : Nat} {o : Oper} {listed : Array Bool} (ho : ops[i]? = some o) (hr : ∀ j, n ≤ j → listed.getD j false = false) (he : ∀ e ∈ o.after, Region.binds .any e = true → listed.getD e.on false = true) (h : waitsTail ops n i = true) : False := by
  unfold waitsTail at h
  rw [ho] at h
  have h' : (o.after.any fun e => Region.binds .any e && decide (n ≤ e.on)) = true := h
  rw [← Array.any_toList] at h'
  obtain ⟨e, h1, h2⟩ := List.any_eq_true.1 h'
  simp only [Bool.and_eq_true, decide_eq_true_eq] at h2
  have h3 := he e (by simpa using h1) h2.1
  rw [hr _ h2.2] at h3
  cases h3
/-- The others wait for all of them. -/
def tailOkW (ops : Array Oper) (n : Nat) : Bool := (List.range ops.size).all fun i => decide (i < n) || (waitsTail ops n i || (List.range n).all fun j => waitsB ops n (n + 1) i j)
def maskOf (size n : Nat) : Array Bool := ((List.range size).map fun i => decide (i < n)).toArray
/-- What the first k operations have left. -/
def putAll (ops : Array Oper) (vals : Nat → Value) (a0 : Act) (k : Nat) : Act := (List.range k).foldl (fun a i => a.put (dstOf ops i) (vals i)) a0
structure ActAt (ops : Array Oper) (n : Nat) (a0 a : Act) (listed : Array Bool) (vals : Nat → Value) : Prop where
  defers : a.defers = a0.defers
  size : a.tmps.size = a0.tmps.size
  done : ∀ i d, i < n → listed.getD i false = true → dstOf ops i = some d → a.tmps[d]? = some (vals i)
  rest : ∀ t, (∀ i, i < n → listed.getD i false = true → dstOf ops i ≠ some t) → a.tmps[t]? = a0.tmps[t]?
structure Mk (F : Nat → Value → Nat → Nat → World → Prop) (n B0 : Nat) (listed : Array Bool) (vals : Nat → Value) (lo hi : Nat → Nat) (w : World) : Prop where
  ge : ∀ i, i < n → listed.getD i false = true → B0 ≤ lo i ∧ lo i ≤ hi i ∧ hi i ≤ w.heap.size
  apart : ∀ i j, i < n → j < n → i ≠ j → listed.getD i false = true → listed.getD j false = true → hi i ≤ lo j ∨ hi j ≤ lo i
  fact : ∀ i, i < n → listed.getD i false = true → F i (vals i) (lo i) (hi i) w
def cnt (listed : Array Bool) : Nat → Nat
  | 0 => 0
  | k + 1 => cnt listed k + (if listed.getD k false = true then 0 else 1)
theorem getD_set (l : Array Bool) (i j : Nat) (hi : i < l.size) : (l.setIfInBounds i true).getD j false = if j = i then true else l.getD j false := by
  simp only [Array.getD_eq_getD_getElem?, Array.getElem?_setIfInBounds]
  by_cases e : i = j
  · subst e; simp [hi]
  · simp [e, Ne.symm e]
theorem cnt_set (l : Array Bool) (i : Nat) (hi : i < l.size) (h : l.getD i false = false) : ∀ k, cnt (l.setIfInBounds i true) k + (if i < k then 1 else 0) = cnt l k
  | 0 => by simp [cnt]
  | k + 1 => by
    have ih := cnt_set l i hi h k
    simp only [cnt, getD_set l i k hi]
    by_cases e : k = i
    · subst e
      rw [if_pos rfl, h]
      simp at ih ⊢
      omega
    · rw [if_neg e]
      by_cases h1 : i < k
      · rw [if_pos h1] at ih; rw [if_pos (show i < k + 1 by omega)]; omega
      · rw [if_neg h1] at ih; rw [if_neg (show ¬ i < k + 1 by omega)]; omega
theorem cnt_zero (l : Array Bool) : ∀ k, cnt l k = 0 → ∀ i, i < k → l.getD i false = true
  | 0, _, i, h => by omega
  | k + 1, h, i, hi => by
    simp only [cnt] at h
    by_cases e : i = k
    · subst e
      by_cases h1 : l.getD i false = true
      · exact h1
      · rw [if_neg h1] at h; omega
    · exact cnt_zero l k (by omega) i (by omega)
theorem cnt_pos (l : Array Bool) : ∀ k, 0 < cnt l k → ∃ i, i < k ∧ l.getD i false = false ∧ ∀ j, j < i → l.getD j false = true
  | 0, h => by simp [cnt] at h
  | k + 1, h => by
    by_cases h1 : 0 < cnt l k
    · obtain ⟨i, h2, h3, h4⟩ := cnt_pos l k h1
      exact ⟨i, by omega, h3, h4⟩
    · simp only [cnt] at h
      by_cases h2 : l.getD k false = true
      · rw [if_pos h2] at h; omega
      · exact ⟨k, by omega, by simpa using h2, fun j hj => cnt_zero l k (by omega) j hj⟩
theorem head_at {ops : Array Oper} {n size : Nat} (h : headOk ops n size = true) {i : Nat} (hi : i < n) : ∃ o d, ops[i]? = some o ∧ o.guard = none ∧ (∀ e ∈ o.after, e.on < i) ∧ o.dst = some d ∧ d < size ∧ ∀ j, j < i → dstOf ops j ≠ some d := by
  have h1 := List.all_eq_true.1 h i (List.mem_range.2 hi)
  cases ho : ops[i]? with
  | none => rw [ho] at h1; simp at h1
  | some o =>
    rw [ho] at h1
    simp only [Bool.and_eq_true] at h1
    obtain ⟨⟨g1, g2⟩, g3⟩ := h1
    cases hd : o.dst with
    | none => rw [hd] at g3; simp at g3
    | some d =>
      rw [hd] at g3
      simp only [Bool.and_eq_true, decide_eq_true_eq, List.all_eq_true, List.mem_range, bne_iff_ne] at g3
      refine ⟨o, d, rfl, by simpa using g1, fun e he => ?_, hd, g3.1, g3.2⟩
      have := Array.all_eq_true_iff_forall_mem.1 g2 e he
      simpa using this
theorem dst_inj {ops : Array Oper} {n size : Nat} (h : headOk ops n size = true) {i j : Nat} (hi : i < n) (hj : j < n) {d : Tmp} (h1 : dstOf ops i = some d) (h2 : dstOf ops j = some d) : i = j := by
  have key : ∀ i j, i < n → j < n → i < j → dstOf ops i = some d → dstOf ops j = some d → False := by
    intro i j hi hj hij h1 h2
    obtain ⟨o, d', ho, _, _, hd, _, hx⟩ := head_at h hj
    have : d' = d := by
      have h3 : dstOf ops j = some d' := by unfold dstOf; rw [ho]; exact hd
      rw [h3] at h2; injection h2
    subst this
    exact hx i hij h1
  rcases Nat.lt_trichotomy i j with h3 | h3 | h3
  · exact (key i j hi hj h3 h1 h2).elim
  · exact h3
  · exact (key j i hj hi h3 h2 h1).elim
theorem put_at (a : Act) (d t : Tmp) (v : Value) (h : d < a.tmps.size) : (a.put (some d) v).tmps[t]? = if t = d then some v else a.tmps[t]? := by
  simp only [Act.put, Array.getElem?_setIfInBounds]
  by_cases e : d = t
  · subst e; simp [h]
  · simp [e, Ne.symm e]
theorem putAll_at {ops : Array Oper} {n : Nat} {a0 : Act} (h : headOk ops n a0.tmps.size = true) (vals : Nat → Value) : ∀ k, k ≤ n →
    (putAll ops vals a0 k).defers = a0.defers ∧ (putAll ops vals a0 k).tmps.size = a0.tmps.size ∧ (∀ i d, i < k → dstOf ops i = some d → (putAll ops vals a0 k).tmps[d]? = some (vals i)) ∧
    (∀ t, (∀ i, i < k → dstOf ops i ≠ some t) → (putAll ops vals a0 k).tmps[t]? = a0.tmps[t]?)
  | 0, _ => ⟨rfl, rfl, fun i d hi => by omega, fun _ _ => rfl⟩
  | k + 1, hk => by
    obtain ⟨i1, i2, i3, i4⟩ := putAll_at h vals k (by omega)
    obtain ⟨o, d, ho, _, _, hd, hs, hx⟩ := head_at h (show k < n by omega)
    have hdk : dstOf ops k = some d := by unfold dstOf; rw [ho]; exact hd
    have e : putAll ops vals a0 (k + 1) = (putAll ops vals a0 k).put (some d) (vals k) := by
      unfold putAll; rw [List.range_succ, List.foldl_append]; simp only [List.foldl_cons, List.foldl_nil]; rw [hdk]
    rw [e]
    refine ⟨i1, by simp [Act.put, i2], fun i d' hi hd' => ?_, fun t ht => ?_⟩
    · rw [put_at _ _ _ _ (by rw [i2]; exact hs)]
      by_cases e2 : d' = d
      · have : i = k := dst_inj h (by omega) (by omega) (e2 ▸ hd') hdk
        rw [if_pos e2, this]
      · rw [if_neg e2]
        refine i3 i d' ?_ hd'
        have : i ≠ k := by
          rintro rfl
          rw [hdk] at hd'; injection hd' with hd'; exact e2 hd'.symm
        omega
    · rw [put_at _ _ _ _ (by rw [i2]; exact hs), if_neg (by rintro rfl; exact ht k (by omega) hdk)]
      exact i4 t fun i hi => ht i (by omega)
theorem act_eq {ops : Array Oper} {n : Nat} {a0 a : Act} (h : headOk ops n a0.tmps.size = true) {listed : Array Bool} {vals : Nat → Value} (hA : ActAt ops n a0 a listed vals) (hl : ∀ i, i < n → listed.getD i false = true) : a = putAll ops vals a0 n := by
  obtain ⟨i1, i2, i3, i4⟩ := putAll_at h vals n (Nat.le_refl _)
  have e1 : a.tmps = (putAll ops vals a0 n).tmps := by
    refine Array.ext_getElem? fun t => ?_
    by_cases hx : ∃ i, i < n ∧ dstOf ops i = some t
    · obtain ⟨i, hi, hd⟩ := hx
      rw [hA.done i t hi (hl i hi) hd, i3 i t hi hd]
    · have hx' : ∀ i, i < n → dstOf ops i ≠ some t := fun i hi hd => hx ⟨i, hi, hd⟩
      rw [hA.rest t fun i hi _ => hx' i hi, i4 t hx']
  have e2 : a.defers = (putAll ops vals a0 n).defers := by rw [hA.defers, i1]
  cases a; cases hp : putAll ops vals a0 n
  rw [hp] at e1 e2
  simp_all
theorem mem_ready {ops : Array Oper} {listed : Array Bool} {i : Nat} : i ∈ Region.ready .any ops listed ↔ i < ops.size ∧ listed.getD i true = false ∧ ∃ o, ops[i]? = some o ∧ ∀ e ∈ o.after, Region.binds .any e = true → listed.getD e.on false = true := by
  unfold Region.ready
  simp only [List.mem_filter, List.mem_range, Bool.and_eq_true, Bool.not_eq_true']
  constructor
  · rintro ⟨h1, h2, h3⟩
    refine ⟨h1, h2, ?_⟩
    cases ho : ops[i]? with
    | none => rw [ho] at h3; simp at h3
    | some o =>
      rw [ho] at h3
      refine ⟨o, rfl, fun e he hb => ?_⟩
      have := Array.all_eq_true_iff_forall_mem.1 (by simpa using h3 : (o.after.all fun e => !Region.binds .any e || listed.getD e.on false) = true) e he
      simpa [hb] using this
  · rintro ⟨h1, h2, o, ho, h3⟩
    refine ⟨h1, h2, ?_⟩
    rw [ho]
    simp only [Option.map_some, Option.getD_some]
    refine Array.all_eq_true_iff_forall_mem.2 fun e he => ?_
    cases hb : Region.binds .any e with
    | false => rfl
    | true => simp [h3 e he hb]
def freeSlot (ops : Array Oper) (n t : Nat) : Bool := (List.range n).all fun i => dstOf ops i != some t
theorem ActAt.slot {ops : Array Oper} {n : Nat} {a0 a : Act} {listed : Array Bool} {vals : Nat → Value} (hA : ActAt ops n a0 a listed vals) (t : Nat) {v : Value} (h : freeSlot ops n t = true) (hv : a0.tmps[t]? = some v) : a.tmps[t]? = some v ∧ a.tmps.getD t undef = v := by
  have e : a.tmps[t]? = some v := (hA.rest t fun i hi _ => by
    have := List.all_eq_true.1 h i (List.mem_range.2 hi)
    simpa using this).trans hv
  exact ⟨e, by rw [Array.getD_eq_getD_getElem?, e]; rfl⟩
theorem ActAt.dep {ops : Array Oper} {n : Nat} {a0 a : Act} {listed : Array Bool} {vals : Nat → Value} (hA : ActAt ops n a0 a listed vals) (i : Nat) {d : Nat} {v : Value} (hi : i < n) (hl : listed.getD i false = true) (hd : dstOf ops i = some d) (hv : vals i = v) : a.tmps[d]? = some v ∧ a.tmps.getD d undef = v := by
  have e : a.tmps[d]? = some v := (hA.done i d hi hl hd).trans (by rw [hv])
  exact ⟨e, by rw [Array.getD_eq_getD_getElem?, e]; rfl⟩
theorem waits_listed {ops : Array Oper} {n : Nat} {listed : Array Bool} (hcl : ∀ k o, k < n → listed.getD k false = true → ops[k]? = some o → ∀ e ∈ o.after, Region.binds .any e = true → listed.getD e.on false = true) :
    ∀ f i j, (∀ o, ops[i]? = some o → ∀ e ∈ o.after, Region.binds .any e = true → listed.getD e.on false = true) → waitsB ops n f i j = true → listed.getD j false = true
  | 0, _, _, _, h => by simp [waitsB] at h
  | f + 1, i, j, hd, h => by
    simp only [waitsB] at h
    cases ho : ops[i]? with
    | none => rw [ho] at h; cases h
    | some o =>
      rw [ho] at h
      have h' : (o.after.any fun e => Region.binds .any e && (e.on == j || decide (e.on < n) && waitsB ops n f e.on j)) = true := h
      rw [← Array.any_toList] at h'
      obtain ⟨e, he, h1⟩ := List.any_eq_true.1 h'
      simp only [Bool.and_eq_true, Bool.or_eq_true, decide_eq_true_eq, beq_iff_eq] at h1
      obtain ⟨h2, h3⟩ := h1
      have hl := hd o ho e (by simpa using he) h2
      rcases h3 with h3 | ⟨h3, h4⟩
      · rw [← h3]; exact hl
      · exact waits_listed hcl f e.on j (fun o2 ho2 => hcl e.on o2 h3 hl ho2) h4
theorem makers {P : Program} {ops : Array Oper} {Q : Exit → Act → World → Prop} {n B0 : Nat} {a0 : Act} {W1 : World} (hh : headOk ops n a0.tmps.size = true) (ht : tailOkW ops n = true) (hn : n ≤ ops.size)
    (F : Nat → Value → Nat → Nat → World → Prop) (hF : ∀ i v l h w w', F i v l h w → (∀ b, l ≤ b → b < h → w'.heap[b]? = w.heap[b]?) → F i v l h w')
    (step : ∀ i o, i < n → ops[i]? = some o → ∀ listed vals lo hi a w, (∀ e ∈ o.after, Region.binds .any e = true → listed.getD e.on false = true) → Mk F n B0 listed vals lo hi w → Below B0 W1 w → B0 ≤ w.heap.size → ActAt ops n a0 a listed vals →
      ∀ K : Act → World → Prop, (∀ v w', Below w.heap.size w w' → F i v w.heap.size w'.heap.size w' → K (a.put o.dst v) w') → o.wp P a w K Q)
    (tail : ∀ vals lo hi w, Mk F n B0 (maskOf ops.size n) vals lo hi w → Below B0 W1 w → wpAny P .any ops Q (ops.size - n) (maskOf ops.size n) (putAll ops vals a0 n) w) :
    ∀ (m : Nat) (listed : Array Bool) (vals : Nat → Value) (lo hi : Nat → Nat) (a : Act) (w : World), listed.size = ops.size → (∀ i, n ≤ i → listed.getD i false = false) → (∀ k o, k < n → listed.getD k false = true → ops[k]? = some o → ∀ e ∈ o.after, Region.binds .any e = true → listed.getD e.on false = true) → cnt listed n = m → Mk F n B0 listed vals lo hi w → Below B0 W1 w → B0 ≤ w.heap.size → ActAt ops n a0 a listed vals →
      wpAny P .any ops Q (m + (ops.size - n)) listed a w
  | 0, listed, vals, lo, hi, a, w, hs, hr, hcl, hc, hM, hB, hBw, hA => by
    have hl := cnt_zero listed n hc
    have e : listed = maskOf ops.size n := by
      refine Array.ext_getElem? fun i => ?_
      by_cases h1 : i < ops.size
      · have h2 : i < listed.size := by omega
        have h3 : (maskOf ops.size n)[i]? = some (decide (i < n)) := by simp [maskOf, h1]
        rw [h3, Array.getElem?_eq_getElem h2]
        by_cases h4 : i < n
        · have := hl i h4
          rw [Array.getD_eq_getD_getElem?, Array.getElem?_eq_getElem h2] at this
          simpa [h4] using this
        · have := hr i (by omega)
          rw [Array.getD_eq_getD_getElem?, Array.getElem?_eq_getElem h2] at this
          simpa [h4] using this
      · rw [Array.getElem?_eq_none (by omega), Array.getElem?_eq_none (by simp [maskOf]; omega)]
    rw [act_eq hh hA hl, Nat.zero_add]
    subst e
    exact tail vals lo hi w hM hB
  | m + 1, listed, vals, lo, hi, a, w, hs, hr, hcl, hc, hM, hB, hBw, hA => by
    obtain ⟨x, hx, hx1, hx2⟩ := cnt_pos listed n (by omega)
    have hxd : listed.getD x true = false := by
      rw [Array.getD_eq_getD_getElem?] at hx1 ⊢
      rw [Array.getElem?_eq_getElem (by omega)] at hx1 ⊢
      exact hx1
    rw [Nat.add_right_comm]
    refine ⟨fun h0 => ?_, fun i hi' => ?_⟩
    · obtain ⟨o, d, ho, _, he, _⟩ := head_at hh hx
      have : x ∈ Region.ready .any ops listed := mem_ready.2 ⟨by omega, hxd, o, ho, fun e hm _ => hx2 _ (he e hm)⟩
      rw [h0] at this; cases this
    · obtain ⟨hi1, hi2, o, ho, he⟩ := mem_ready.1 hi'
      have hi3 : listed.getD i false = false := by
        rw [Array.getD_eq_getD_getElem?] at hi2 ⊢
        rw [Array.getElem?_eq_getElem (by omega)] at hi2 ⊢
        exact hi2
      have hin : i < n := by
        rcases Nat.lt_or_ge i n with h | h
        · exact h
        · have h1 := List.all_eq_true.1 ht i (List.mem_range.2 hi1)
          simp only [Bool.or_eq_true, decide_eq_true_eq, List.all_eq_true, List.mem_range] at h1
          rcases h1 with h1 | h1 | h1
          · omega
          · exact (waitsTail_no ho hr he h1).elim
          · have := waits_listed hcl (n + 1) i x (fun o2 ho2 => by rw [ho] at ho2; injection ho2 with ho2; subst ho2; exact he) (h1 x hx)
            rw [hx1] at this; cases this
      obtain ⟨o', d, ho', hg, _, hd, hds, _⟩ := head_at hh hin
      rw [ho] at ho'; injection ho' with ho'; subst ho'
      have hdi : dstOf ops i = some d := by unfold dstOf; rw [ho]; exact hd
      unfold wpOp
      rw [ho]
      show if Region.wanted o (yielded ops a.tmps) = true then _ else _
      rw [if_pos (by simp [Region.wanted, hg])]
      refine .inl (step i o hin ho listed vals lo hi a w he hM hB hBw hA _ fun v w' hb hf => ?_)
      have hsz := hb.size
      refine makers hh ht hn F hF step tail m _ (fun j => if j = i then v else vals j) (fun j => if j = i then w.heap.size else lo j) (fun j => if j = i then w'.heap.size else hi j) _ _ (by simpa using hs) (fun j hj => ?_) (fun k o3 hk hl ho3 e3 he3 hb3 => ?_) ?_ ?_ (hB.trans (hb.mono hBw)) (by omega) ?_
      · rw [getD_set _ _ _ (by omega), if_neg (by omega)]; exact hr j hj
      · have key : listed.getD e3.on false = true := by
          rw [getD_set _ _ _ (by omega)] at hl
          by_cases e : k = i
          · subst e
            rw [ho] at ho3; injection ho3 with ho3; subst ho3
            exact he e3 he3 hb3
          · rw [if_neg e] at hl
            exact hcl k o3 hk hl ho3 e3 he3 hb3
        rw [getD_set _ _ _ (by omega)]
        by_cases e : e3.on = i
        · rw [if_pos e]
        · rw [if_neg e]; exact key
      · have := cnt_set listed i (by omega) hi3 n
        rw [if_pos hin] at this; omega
      · refine ⟨fun j hj hl => ?_, fun j k hj hk hjk hlj hlk => ?_, fun j hj hl => ?_⟩
        · rw [getD_set _ _ _ (by omega)] at hl
          by_cases e : j = i
          · simp only [if_pos e]; omega
          · rw [if_neg e] at hl
            simp only [if_neg e]
            have := hM.ge j hj hl
            omega
        · rw [getD_set _ _ _ (by omega)] at hlj hlk
          by_cases e1 : j = i
          · have e2 : ¬ k = i := by omega
            rw [if_neg e2] at hlk
            simp only [if_pos e1, if_neg e2]
            have := hM.ge k hk hlk
            omega
          · rw [if_neg e1] at hlj
            have g1 := hM.ge j hj hlj
            by_cases e2 : k = i
            · simp only [if_neg e1, if_pos e2]; omega
            · rw [if_neg e2] at hlk
              simp only [if_neg e1, if_neg e2]
              exact hM.apart j k hj hk hjk hlj hlk
        · rw [getD_set _ _ _ (by omega)] at hl
          by_cases e : j = i
          · subst e; simpa using hf
          · rw [if_neg e] at hl
            simp only [if_neg e]
            have g1 := hM.ge j hj hl
            exact hF _ _ _ _ _ _ (hM.fact j hj hl) fun b _ hb2 => hb.block b (by omega)
      · have hsd : d < a.tmps.size := by rw [hA.size]; exact hds
        refine ⟨by rw [hd]; exact hA.defers, by rw [hd]; simpa [Act.put] using hA.size, fun j d' hj hl hd' => ?_, fun t htt => ?_⟩
        · rw [hd, put_at _ _ _ _ hsd]
          rw [getD_set _ _ _ (by omega)] at hl
          by_cases e : j = i
          · subst e
            rw [hdi] at hd'; injection hd' with hd'
            simp [hd']
          · rw [if_neg e] at hl
            rw [if_neg (by rintro rfl; exact e (dst_inj hh hj hin hd' hdi)), if_neg e]
            exact hA.done j d' hj hl hd'
        · have hti : t ≠ d := by
            rintro rfl
            exact htt i hin (by rw [getD_set _ _ _ (by omega), if_pos rfl]) hdi
          rw [hd, put_at _ _ _ _ hsd, if_neg hti]
          refine hA.rest t fun j hj hl => htt j hj ?_
          rw [getD_set _ _ _ (by omega)]
          by_cases e : j = i
          · rw [if_pos e]
          · rw [if_neg e]; exact hl
/-- A step of the tail, where one operation alone is ready. -/
theorem tail_step {P : Program} {ops : Array Oper} {Q : Exit → Act → World → Prop} {fuel : Nat} {listed : Array Bool} {a : Act} {w : World} (i : Nat) (o : Oper) (hr : Region.ready .any ops listed = [i]) (ho : ops[i]? = some o) (hg : o.guard = none)
    (h : ∀ K : Act → World → Prop, (∀ a w, wpAny P .any ops Q fuel (listed.setIfInBounds i true) a w → K a w) → o.wp P a w K Q) : wpAny P .any ops Q (fuel + 1) listed a w :=
  wpAny_ready hr (by simp) (AllReady.cons ho (fun K hK => by rw [if_pos (by simp [Region.wanted, hg])]; exact h K hK) AllReady.nil)
/-- The rule. -/
theorem wp_makers {P : Program} {id : Nat} {ops : Array Oper} {Q : Exit → Act → World → Prop} {a0 : Act} {W1 : World} (n : Nat) (hm : P.follows .mixedOrders = true) (hh : headOk ops n a0.tmps.size = true) (ht : tailOkW ops n = true) (hn : n ≤ ops.size)
    (F : Nat → Value → Nat → Nat → World → Prop) (hF : ∀ i v l h w w', F i v l h w → (∀ b, l ≤ b → b < h → w'.heap[b]? = w.heap[b]?) → F i v l h w')
    (step : ∀ i o, i < n → ops[i]? = some o → ∀ listed vals lo hi a w, (∀ e ∈ o.after, Region.binds .any e = true → listed.getD e.on false = true) → Mk F n W1.heap.size listed vals lo hi w → Below W1.heap.size W1 w → W1.heap.size ≤ w.heap.size → ActAt ops n a0 a listed vals →
      ∀ K : Act → World → Prop, (∀ v w', Below w.heap.size w w' → F i v w.heap.size w'.heap.size w' → K (a.put o.dst v) w') → o.wp P a w K Q)
    (tail : ∀ vals lo hi w, Mk F n W1.heap.size (maskOf ops.size n) vals lo hi w → Below W1.heap.size W1 w → wpAny P .any ops Q (ops.size - n) (maskOf ops.size n) (putAll ops vals a0 n) w) : (Code.region id ops true).wp P Q a0 W1 := by
  refine wp_region_any hm ?_
  have hz : ∀ i, (Array.replicate ops.size false).getD i false = false := by
    intro i
    rw [Array.getD_eq_getD_getElem?]
    by_cases h : i < ops.size
    · simp [h]
    · simp [h]
  have hc : ∀ k, cnt (Array.replicate ops.size false) k = k := by
    intro k
    induction k with
    | zero => rfl
    | succ k ih => simp only [cnt, ih, hz]; simp
  have := makers (Q := Q) (a0 := a0) (W1 := W1) hh ht hn F hF step tail n (Array.replicate ops.size false) (fun _ => undef) (fun _ => W1.heap.size) (fun _ => W1.heap.size) a0 W1.drew (by simp) (fun i _ => hz i) (fun k _ _ h => (by rw [hz] at h; cases h)) (hc n)
    ⟨fun i _ h => (by rw [hz] at h; cases h), fun i _ _ _ _ h => (by rw [hz] at h; cases h), fun i _ h => (by rw [hz] at h; cases h)⟩ ((Below.refl _ _).drew) (Nat.le_refl _)
    ⟨rfl, rfl, fun i _ _ h => (by rw [hz] at h; cases h), fun _ _ => rfl⟩
  rw [show n + (ops.size - n) = ops.size by omega] at this
  exact this
end Go.Proofs.YtcdjoegihmfanaaGreat
namespace Go.Proofs.YtcdjoegihmfanaaGreat
open Go.RowKit
structure Hd (F : Nat → Value → World → Prop) (I : World → Prop) (n : Nat) (listed : Array Bool) (vals : Nat → Value) (w : World) : Prop where
  inv : I w
  fact : ∀ i, i < n → listed.getD i false = true → F i (vals i) w
theorem inv_steps {P : Program} {ops : Array Oper} {Q : Exit → Act → World → Prop} {n : Nat} {a0 : Act} (hh : headOk ops n a0.tmps.size = true) (ht : tailOkW ops n = true) (hn : n ≤ ops.size)
    (F : Nat → Value → World → Prop) (I : World → Prop) (R : World → World → Prop) (hF : ∀ i v w w', F i v w → R w w' → F i v w')
    (step : ∀ i o, i < n → ops[i]? = some o → ∀ listed vals a w, (∀ e ∈ o.after, Region.binds .any e = true → listed.getD e.on false = true) → Hd F I n listed vals w → ActAt ops n a0 a listed vals →
      ∀ K : Act → World → Prop, (∀ v w', R w w' → I w' → F i v w' → K (a.put o.dst v) w') → o.wp P a w K Q)
    (tail : ∀ vals w, Hd F I n (maskOf ops.size n) vals w → wpAny P .any ops Q (ops.size - n) (maskOf ops.size n) (putAll ops vals a0 n) w) :
    ∀ (m : Nat) (listed : Array Bool) (vals : Nat → Value) (a : Act) (w : World), listed.size = ops.size → (∀ i, n ≤ i → listed.getD i false = false) → (∀ k o, k < n → listed.getD k false = true → ops[k]? = some o → ∀ e ∈ o.after, Region.binds .any e = true → listed.getD e.on false = true) → cnt listed n = m → Hd F I n listed vals w → ActAt ops n a0 a listed vals →
      wpAny P .any ops Q (m + (ops.size - n)) listed a w
  | 0, listed, vals, a, w, hs, hr, hcl, hc, hM, hA => by
    have hl := cnt_zero listed n hc
    have e : listed = maskOf ops.size n := by
      refine Array.ext_getElem? fun i => ?_
      by_cases h1 : i < ops.size
      · have h2 : i < listed.size := by omega
        have h3 : (maskOf ops.size n)[i]? = some (decide (i < n)) := by simp [maskOf, h1]
        rw [h3, Array.getElem?_eq_getElem h2]
        by_cases h4 : i < n
        · have := hl i h4
          rw [Array.getD_eq_getD_getElem?, Array.getElem?_eq_getElem h2] at this
          simpa [h4] using this
        · have := hr i (by omega)
          rw [Array.getD_eq_getD_getElem?, Array.getElem?_eq_getElem h2] at this
          simpa [h4] using this
      · rw [Array.getElem?_eq_none (by omega), Array.getElem?_eq_none (by simp [maskOf]; omega)]
    rw [act_eq hh hA hl, Nat.zero_add]
    subst e
    exact tail vals w hM
  | m + 1, listed, vals, a, w, hs, hr, hcl, hc, hM, hA => by
    obtain ⟨x, hx, hx1, hx2⟩ := cnt_pos listed n (by omega)
    have hxd : listed.getD x true = false := by
      rw [Array.getD_eq_getD_getElem?] at hx1 ⊢
      rw [Array.getElem?_eq_getElem (by omega)] at hx1 ⊢
      exact hx1
    rw [Nat.add_right_comm]
    refine ⟨fun h0 => ?_, fun i hi' => ?_⟩
    · obtain ⟨o, d, ho, _, he, _⟩ := head_at hh hx
      have : x ∈ Region.ready .any ops listed := mem_ready.2 ⟨by omega, hxd, o, ho, fun e hm _ => hx2 _ (he e hm)⟩
      rw [h0] at this; cases this
    · obtain ⟨hi1, hi2, o, ho, he⟩ := mem_ready.1 hi'
      have hi3 : listed.getD i false = false := by
        rw [Array.getD_eq_getD_getElem?] at hi2 ⊢
        rw [Array.getElem?_eq_getElem (by omega)] at hi2 ⊢
        exact hi2
      have hin : i < n := by
        rcases Nat.lt_or_ge i n with h | h
        · exact h
        · have h1 := List.all_eq_true.1 ht i (List.mem_range.2 hi1)
          simp only [Bool.or_eq_true, decide_eq_true_eq, List.all_eq_true, List.mem_range] at h1
          rcases h1 with h1 | h1 | h1
          · omega
          · exact (waitsTail_no ho hr he h1).elim
          · have := waits_listed hcl (n + 1) i x (fun o2 ho2 => by rw [ho] at ho2; injection ho2 with ho2; subst ho2; exact he) (h1 x hx)
            rw [hx1] at this; cases this
      obtain ⟨o', d, ho', hg, _, hd, hds, _⟩ := head_at hh hin
      rw [ho] at ho'; injection ho' with ho'; subst ho'
      have hdi : dstOf ops i = some d := by unfold dstOf; rw [ho]; exact hd
      unfold wpOp
      rw [ho]
      show if Region.wanted o (yielded ops a.tmps) = true then _ else _
      rw [if_pos (by simp [Region.wanted, hg])]
      refine .inl (step i o hin ho listed vals a w he hM hA _ fun v w' hR hI hf => ?_)
      refine inv_steps hh ht hn F I R hF step tail m _ (fun j => if j = i then v else vals j) _ _ (by simpa using hs) (fun j hj => ?_) (fun k o3 hk hl ho3 e3 he3 hb3 => ?_) ?_ ⟨hI, fun j hj hl => ?_⟩ ?_
      · rw [getD_set _ _ _ (by omega), if_neg (by omega)]; exact hr j hj
      · have key : listed.getD e3.on false = true := by
          rw [getD_set _ _ _ (by omega)] at hl
          by_cases e : k = i
          · subst e
            rw [ho] at ho3; injection ho3 with ho3; subst ho3
            exact he e3 he3 hb3
          · rw [if_neg e] at hl
            exact hcl k o3 hk hl ho3 e3 he3 hb3
        rw [getD_set _ _ _ (by omega)]
        by_cases e : e3.on = i
        · rw [if_pos e]
        · rw [if_neg e]; exact key
      · have := cnt_set listed i (by omega) hi3 n
        rw [if_pos hin] at this; omega
      · rw [getD_set _ _ _ (by omega)] at hl
        by_cases e : j = i
        · subst e; simpa using hf
        · rw [if_neg e] at hl
          simp only [if_neg e]
          exact hF _ _ _ _ (hM.fact j hj hl) hR
      · have hsd : d < a.tmps.size := by rw [hA.size]; exact hds
        refine ⟨by rw [hd]; exact hA.defers, by rw [hd]; simpa [Act.put] using hA.size, fun j d' hj hl hd' => ?_, fun t htt => ?_⟩
        · rw [hd, put_at _ _ _ _ hsd]
          rw [getD_set _ _ _ (by omega)] at hl
          by_cases e : j = i
          · subst e
            rw [hdi] at hd'; injection hd' with hd'
            simp [hd']
          · rw [if_neg e] at hl
            rw [if_neg (by rintro rfl; exact e (dst_inj hh hj hin hd' hdi)), if_neg e]
            exact hA.done j d' hj hl hd'
        · have hti : t ≠ d := by
            rintro rfl
            exact htt i hin (by rw [getD_set _ _ _ (by omega), if_pos rfl]) hdi
          rw [hd, put_at _ _ _ _ hsd, if_neg hti]
          refine hA.rest t fun j hj hl => htt j hj ?_
          rw [getD_set _ _ _ (by omega)]
          by_cases e : j = i
          · rw [if_pos e]
          · rw [if_neg e]; exact hl
/-- The rule. -/
theorem wp_inv {P : Program} {id : Nat} {ops : Array Oper} {Q : Exit → Act → World → Prop} {a0 : Act} {W1 : World} (n : Nat) (hm : P.follows .mixedOrders = true) (hh : headOk ops n a0.tmps.size = true) (ht : tailOkW ops n = true) (hn : n ≤ ops.size)
    (F : Nat → Value → World → Prop) (I : World → Prop) (R : World → World → Prop) (hF : ∀ i v w w', F i v w → R w w' → F i v w') (hI : I W1.drew)
    (step : ∀ i o, i < n → ops[i]? = some o → ∀ listed vals a w, (∀ e ∈ o.after, Region.binds .any e = true → listed.getD e.on false = true) → Hd F I n listed vals w → ActAt ops n a0 a listed vals →
      ∀ K : Act → World → Prop, (∀ v w', R w w' → I w' → F i v w' → K (a.put o.dst v) w') → o.wp P a w K Q)
    (tail : ∀ vals w, Hd F I n (maskOf ops.size n) vals w → wpAny P .any ops Q (ops.size - n) (maskOf ops.size n) (putAll ops vals a0 n) w) : (Code.region id ops true).wp P Q a0 W1 := by
  refine wp_region_any hm ?_
  have hz : ∀ i, (Array.replicate ops.size false).getD i false = false := by
    intro i
    rw [Array.getD_eq_getD_getElem?]
    by_cases h : i < ops.size
    · simp [h]
    · simp [h]
  have hc : ∀ k, cnt (Array.replicate ops.size false) k = k := by
    intro k
    induction k with
    | zero => rfl
    | succ k ih => simp only [cnt, ih, hz]; simp
  have := inv_steps (Q := Q) (a0 := a0) hh ht hn F I R hF step tail n (Array.replicate ops.size false) (fun _ => undef) a0 W1.drew (by simp) (fun i _ => hz i) (fun k _ _ h => (by rw [hz] at h; cases h)) (hc n)
    ⟨hI, fun i _ h => (by rw [hz] at h; cases h)⟩ ⟨rfl, rfl, fun i _ _ h => (by rw [hz] at h; cases h), fun _ _ => rfl⟩
  rw [show n + (ops.size - n) = ops.size by omega] at this
  exact this
/-- All facts of the first n, at the tail. -/
theorem Hd.all {F : Nat → Value → World → Prop} {I : World → Prop} {n size : Nat} {vals : Nat → Value} {w : World} (h : Hd F I n (maskOf size n) vals w) (hn : n ≤ size) (i : Nat) (hi : i < n) : F i (vals i) w :=
  h.fact i hi (by simp [maskOf, Array.getD_eq_getD_getElem?, show i < size by omega, hi])
end Go.Proofs.YtcdjoegihmfanaaGreat
namespace Go.Proofs.YtcdjoegihmfanaaGreat
open Go.RowKit
set_option linter.unusedVariables false
section
variable {F : Fence} {n : Nat} {P : Program} {ops : Array Oper} {C : World → Prop}
def noDefer (o : Oper) : Prop := ∀ c, o.op ≠ .defer c
theorem round_oper {o : Oper} {a : Act} {K : Act → Prop} {K' : Act → World → Prop} {Q' : Exit → Act → World → Prop} {w : World} (hd : noDefer o) (hw : C w) (h : ∀ a w', C w' → K a → K' a w')
    (ha : o.askedIn F P a C) (hh : o.quietIn F n P a C K) : o.wpIn F n P a w K' Q' := by
  obtain ⟨v, h1, h2⟩ := hh
  have h3 := h1 w hw
  unfold Oper.quietAtIn at h3
  unfold Oper.wpIn
  refine ⟨ha w hw, ?_⟩
  rw [Oper.semAt_plain F _ o hd]
  generalize (execOp a.eval o).run P w = r at *
  cases r with
  | ok x w' =>
    cases x <;> simp only [Oper.quietUponIn] at h3 <;> simp only [Oper.uponIn]
    case value u => obtain ⟨e1, e2⟩ := h3; rw [e1, e2]; exact h _ _ hw h2
    case skip => obtain ⟨e1, e2⟩ := h3; rw [e1, ← e2]; exact h _ _ hw h2
    case enter f args =>
      obtain ⟨e1, hd, hc⟩ := h3
      rw [e1]
      exact ⟨hd, hc.mono fun e w'' ⟨he, hw''⟩ => by subst he; exact h _ _ hw'' h2⟩
  | halt x w' => simp only [Oper.quietUponIn] at h3
theorem round_op {i : Nat} {a : Act} {K : Act → Prop} {K' : Act → World → Prop} {Q' : Exit → Act → World → Prop} {w : World} (hd : ∀ o ∈ ops, noDefer o) (hC : C w) (h : ∀ a w', C w' → K a → K' a w')
    (hh : qOpIn F n P ops C i K a) : wpOpIn F n P ops Q' i K' a w := by
  unfold qOpIn at hh
  unfold wpOpIn
  split
  · rename_i ho; simp only [ho] at hh; exact h _ _ hC hh
  · rename_i o ho
    simp only [ho] at hh
    obtain ⟨ha, hh⟩ := hh
    split
    · rename_i hw; simp only [hw, if_true] at hh; exact round_oper (hd o (Array.mem_of_getElem? ho)) hC h ha hh
    · rename_i hw; simp only [hw] at hh; exact ⟨ha w hC, h _ _ hC hh⟩
theorem round_any {Q : Act → Prop} {Q' : Exit → Act → World → Prop} (hd : ∀ o ∈ ops, noDefer o) (hQ : ∀ a w, C w → Q a → Q' .normal a w) : ∀ (fuel : Nat) (listed : Array Bool) (a : Act) (w : World), C w →
    wpAnyQIn F n P .any ops C Q fuel listed a → wpAnyIn F n P .any ops Q' fuel listed a w
  | 0, _, _, _, hw, h => ⟨h.1, hQ _ _ hw h.2⟩
  | fuel + 1, _, _, _, hw, h => ⟨fun h0 => hQ _ _ hw (h.1 h0), fun i hi => round_op hd hw (fun a' w' hw' => round_any hd hQ fuel _ a' w' hw') (h.2 i hi)⟩
theorem round_region {id : Nat} {Q : Exit → Act → World → Prop} {a : Act} {w : World} {l : List Oper} (hd : ∀ o ∈ l, noDefer o) (hm : P.follows .mixedOrders = true) (hB : Region.lexB .any l.toArray = true)
    (h : wpQuietIn F n P l.toArray (fun w' => ∃ n, w' = w.drewN n) (fun a' => ∀ w', (∃ n, w' = w.drewN n) → Q .normal a' w') l a) : (Code.region id l.toArray true).wpIn F n P Q a w := by
  simp only [Region.lexB, Bool.and_eq_true] at hB
  refine wpIn_region_any hm (round_any (Q := fun a' => ∀ w', (∃ n, w' = w.drewN n) → Q .normal a' w') (C := fun w' => ∃ n, w' = w.drewN n) (fun o ho => hd o (by simpa using ho)) (fun _ w' hw' h => h w' hw') _ _ _ _ ⟨1, rfl⟩ ?_)
  have := wpAnyQIn_lex (F := F) (n := n) (C := fun w' => ∃ n, w' = w.drewN n) (md := .any) hB.1 l 0 (Array.replicate l.length false) a (by simp) (by simpa using hB.2) h
  simpa using this
end
theorem CallsIn.quiet_round {P : Program} {l m : Nat} {f : FuncId} {args : Array Value} {w : World} {n : Nat} {v : Value}
    (h : Calls P f args (w.drewN n) fun e w' => e = .returned v ∧ w' = w.drewN n) : CallsIn (Fence.wide.inRound l) m P f args (w.drewN n) fun e w'' => e = .returned v ∧ ∃ k, w'' = w.drewN k :=
  CallsIn.inRound l (callsIn_wide.2 (h.mono fun _ _ ⟨he, hm⟩ => ⟨he, n, hm⟩))
theorem wide_fn (l : Nat) (f : FuncId) : (Fence.wide.inRound l).fn f = True := by simp [Fence.inRound, Fence.wide]
theorem wide_fn' (f : FuncId) : Fence.wide.fn f = True := by simp [Fence.wide]
theorem wide_depth : Fence.wide.depth = none := rfl
end Go.Proofs.YtcdjoegihmfanaaGreat
namespace Go.Proofs.YtcdjoegihmfanaaGreat
open Go.RowKit
set_option linter.unusedVariables false
attribute [local go_sem] Oper.semAt_some
theorem grownBy_setCell (w : World) (g o : Nat) (v : Value) : w.grownBy (w.setCell ⟨g, o, none⟩ v) (some g) :=
  ⟨rfl, rfl, rfl, by simp [World.setCell], fun k hk hne => by
    have : g ≠ k := fun e => hne (by rw [e])
    simp [World.setCell, Array.getElem?_modify, this]⟩
theorem grownBy_self (w : World) (g : Option Nat) : w.grownBy w g := ⟨rfl, rfl, rfl, Nat.le_refl _, fun _ _ _ => rfl⟩
theorem grownBy_trans {a b c : World} {g : Option Nat} (h1 : a.grownBy b g) (h2 : b.grownBy c g) : a.grownBy c g :=
  ⟨h2.os.trans h1.os, h2.tape.trans h1.tape, h2.output.trans h1.output, Nat.le_trans h1.size h2.size, fun k hk hne => (h2.block k (Nat.lt_of_lt_of_le hk h1.size) hne).trans (h1.block k hk hne)⟩
theorem grown_below {a W W' : World} {row : Option Nat} (h : a.grownBy W row) (hb : Below W.heap.size W W') : a.grownBy W' row :=
  ⟨hb.os.trans h.os, hb.tape.trans h.tape, hb.output.trans h.output, Nat.le_trans h.size hb.size, fun k hk hn => (hb.block k (Nat.lt_of_lt_of_le hk h.size)).trans (h.block k hk hn)⟩
theorem only_drewN {a w : World} {row : Option Nat} (h : a.grownBy w row) (n : Nat) : a.grownBy (w.drewN n) row := ⟨h.os, h.tape, h.output, h.size, h.block⟩
theorem only_allocg {a w : World} {row : Option Nat} (h : a.grownBy w row) (o : Obj) : a.grownBy (w.alloc o) row := grown_below h (below_new w o)
theorem only_setg {a w : World} {g : Nat} (h : a.grownBy w (some g)) (o : Nat) (u : Value) : a.grownBy (w.setCell ⟨g, o, none⟩ u) (some g) :=
  ⟨h.os, h.tape, h.output, by simpa [World.setCell] using h.size, fun k hk hn => (Below.heap_setCell w ⟨g, o, none⟩ u k (fun e => hn (by rw [e]))).trans (h.block k hk hn)⟩
theorem cell_far {w : World} {b o : Nat} {v : Value} {b' o' : Nat} (h : ¬ b' = b) : (w.setCell ⟨b, o, none⟩ v).cell? ⟨b', o', none⟩ = w.cell? ⟨b', o', none⟩ :=
  World.cell?_setCell_other _ _ _ _ (by intro e; injection e with e _; exact h e.symm)
theorem cell_far' {w : World} {b o : Nat} {v : Value} {b' o' : Nat} (h : ¬ o' = o) : (w.setCell ⟨b, o, none⟩ v).cell? ⟨b', o', none⟩ = w.cell? ⟨b', o', none⟩ :=
  World.cell?_setCell_other _ _ _ _ (by intro e; injection e with _ e; exact h e.symm)
theorem own_cells {w : World} {B : Nat} {E : TypeId} {size n cap g : Nat} {xs : List Value} (h : w.ownsRow B E size (.slice (some ⟨g, 0, none⟩) n cap) n xs) : ∀ i u, xs[i]? = some u → w.cell? ⟨g, i, none⟩ = some u := by
  intro i u hu
  have := h.cells (g := g) rfl i u hu
  rw [addr_add, Nat.zero_add] at this
  exact this
theorem own_cap {w : World} {B : Nat} {E : TypeId} {size n cap g : Nat} {xs : List Value} (h : w.ownsRow B E size (.slice (some ⟨g, 0, none⟩) n cap) n xs) : n ≤ cap := by
  obtain ⟨A, c, h1, h2, _⟩ := own_slice h
  injection h1 with _ _ h1
  omega
theorem own_block {w w' : World} {base : Nat} {E : TypeId} {size n : Nat} {v : Value} {xs : List Value} (h : w.ownsRow base E size v n xs) (hk : ∀ k, v.ownBlock = some k → w'.heap[k]? = w.heap[k]?) : w'.ownsRow base E size v n xs := by
  refine ⟨h.1, ?_⟩
  rcases h.2 with h2 | ⟨g, cap, cur, e, hb, hg, hr⟩
  · exact .inl h2
  · exact .inr ⟨g, cap, cur, e, hb, (hk g (by rw [e]; rfl)).trans hg, hr⟩
/-- A slice that reads as the cells, in blocks from l to h. -/
def RdI (w : World) (l h : Nat) (A : Option Addr) (xs : List Value) : Prop :=
  xs ≠ [] → ∃ b off, A = some ⟨b, off, none⟩ ∧ l ≤ b ∧ b < h ∧ ∀ j u, xs[j]? = some u → w.cell? ⟨b, off + j, none⟩ = some u
theorem RdI.keep {w w' : World} {l h : Nat} {A : Option Addr} {xs : List Value} (hr : RdI w l h A xs) (hk : ∀ b, l ≤ b → b < h → w'.heap[b]? = w.heap[b]?) : RdI w' l h A xs := fun hn => by
  obtain ⟨b, off, e, h1, h2, hc⟩ := hr hn
  exact ⟨b, off, e, h1, h2, fun j u hu => (World.cell?_of_block (a := ⟨b, off + j, none⟩) (hk b h1 h2)).trans (hc j u hu)⟩
theorem RdI.rd {w : World} {l h B : Nat} {A : Option Addr} {xs : List Value} (hr : RdI w l h A xs) (hB : h ≤ B) : Rd w B A xs := fun hn => by
  obtain ⟨b, off, e, h1, h2, hc⟩ := hr hn
  exact ⟨b, off, e, by omega, hc⟩
theorem own_sliceI {w : World} {base : Nat} {E : TypeId} {size n : Nat} {v : Value} {xs : List Value} (h : w.ownsRow base E size v n xs) : ∃ A c, v = .slice A n c ∧ n ≤ c ∧ RdI w base w.heap.size A xs := by
  rcases h.2 with ⟨rfl, rfl⟩ | ⟨g, cap, cur, rfl, hb, hg, hn, hm, hs, ht⟩
  · have hx : xs = [] := List.eq_nil_of_length_eq_zero (by simpa using h.1)
    subst hx
    exact ⟨none, 0, rfl, Nat.le_refl _, fun h => absurd rfl h⟩
  · refine ⟨_, _, rfl, hn, fun _ => ⟨g, 0, rfl, hb, (Array.getElem?_eq_some_iff.1 hg).1, fun j u hu => ?_⟩⟩
    have := h.cells (g := g) rfl j u hu
    rwa [addr_add] at this
def FNew (z : Array Value) (t : TypeId) (v : Value) (l h : Nat) (w : World) : Prop := v = .pointer (some ⟨l, 0, none⟩) ∧ h = l + 1 ∧ w.heap[l]? = some (.cells z t (0, 0))
theorem FNew.keep {z : Array Value} {t : TypeId} {v : Value} {l h : Nat} {w w' : World} (H : FNew z t v l h w) (hk : ∀ b, l ≤ b → b < h → w'.heap[b]? = w.heap[b]?) : FNew z t v l h w' := by
  obtain ⟨e, hh, hc⟩ := H
  exact ⟨e, hh, (hk l (Nat.le_refl _) (by omega)).trans hc⟩
theorem heap_far {w : World} {g o b : Nat} {v : Value} (h : b ≠ g) : (w.setCell ⟨g, o, none⟩ v).heap[b]? = w.heap[b]? := by
  simp only [World.setCell, Array.getElem?_modify]
  rw [if_neg (by intro e; exact h e.symm)]
/-- A row of integers that may be written. -/
structure Lst (w : World) (b : Nat) (d : List Int) : Prop where
  lt : b < w.heap.size
  cells : ∀ j u, d[j]? = some u → w.cell? ⟨b, j, none⟩ = some (.int .i64 u)
  free : ∀ o, w.frozen? ⟨b, o, none⟩ = false
theorem Lst.below {w w' : World} {b : Nat} {d : List Int} (h : Lst w b d) (hb : Below w.heap.size w w') : Lst w' b d :=
  ⟨Nat.lt_of_lt_of_le h.lt hb.size, fun j u hu => (hb.cell (p := ⟨b, j, none⟩) h.lt).trans (h.cells j u hu), fun o => (hb.frozen (p := ⟨b, o, none⟩) h.lt).trans (h.free o)⟩
theorem Lst.at_ {w : World} {b : Nat} {d : List Int} (h : Lst w b d) {j : Nat} (hj : j < d.length) : w.cell? ⟨b, j, none⟩ = some (.int .i64 d[j]) := h.cells j _ (List.getElem?_eq_getElem hj)
theorem and6 {a b c d e f : Prop} (h : a ∧ b ∧ c ∧ d ∧ e ∧ f) : f := h.2.2.2.2.2
/-- The record of a range over a function. -/
def recOf (fn : FuncId) (tmps : Array Value) (ps : Array Tmp) (assign body : Code) (D : Nat) (st : LoopState) (pe : Option Code) : Loop :=
  { state := st, pending := pe, fn := fn, tmps := tmps, params := ps, assign := assign, body := body, defers := D }
/-- A range over a function in a plain frame: what is owed is the iterator's contract at the new record. -/
theorem wp_range {P : Program} {gop : Operand} {ps : Array Tmp} {assign body : Code} {Q : Exit → Act → World → Prop} {a : Act} {W0 : World} (n : Nat) {gf : Nat} {lb : Array Value} (hg : a.eval gop = .func (.func gf) #[] lb)
    (eg : ∀ args w, (callFunc gf args).run P w = .ok (.enter gf args) w)
    (h : ∀ (fn : FuncId) (rec : LoopState → Option Code → Loop), rec = recOf fn a.tmps ps assign body W0.heap.size → Calls P gf (#[.func (.yield (W0.heap.size + 1)) #[] #[]] ++ lb) ((W0.alloc (.deferred (some []))).alloc (.loop (rec .ready none))) fun e W' => (∃ v, e = .returned v) ∧
      ∃ st pe, st ≠ .busy ∧ W'.heap[W0.heap.size + 1]? = some (.loop (rec st pe)) ∧
        (match pe with
          | none => Q .normal { a with defers := [{ target := .collected W0.heap.size, args := #[] }] ++ a.defers } (W'.putObj (W0.heap.size + 1) (.loop (rec .exhausted pe)))
          | some c => c.wpIn Fence.wide n P Q { a with defers := [{ target := .collected W0.heap.size, args := #[] }] ++ a.defers } (W'.putObj (W0.heap.size + 1) (.loop (rec .exhausted pe))))) :
    (Code.rangeFunc gop ps assign body).wp P Q a W0 := by
  refine (wpIn_wide (n := n)).1 (wpIn_rangeFunc ?_)
  intro fn hfn
  obtain ⟨W1, hW1⟩ : ∃ W1, (W0.alloc (.deferred (some []))).alloc (.loop (recOf fn a.tmps ps assign body W0.heap.size .ready none)) = W1 := ⟨_, rfl⟩
  refine ⟨W0.heap.size + 1, [{ target := .collected W0.heap.size, args := #[] }], W1, { target := .fn (.func gf) lb, args := #[.func (.yield (W0.heap.size + 1)) #[] #[]] }, W1, gf,
    #[.func (.yield (W0.heap.size + 1)) #[] #[]] ++ lb, W1, ?_, ?_, ?_, ?_, ?_, ?_⟩
  · rw [← hW1]; exact run_enterLoop_outer _ _ _ _ _
  · simp only [resolve, hg]
    simp [go_sem]
  · intro f' hf'; trivial
  · simp [invoke, go_sem, eg]
  · intro hd; simp [Fence.wide] at hd
  · rw [← hW1]
    refine callsIn_wide.2 ((h fn _ rfl).mono ?_)
    rintro e W2 ⟨⟨v, rfl⟩, st, pe, hst, hl, hq⟩
    refine ⟨pe, _, run_endLoop hl hst, ?_⟩
    cases pe with
    | none => exact hq
    | some c => exact hq
/-- One round of it, for a body whose assignment is nothing. -/
theorem yield_round {P : Program} {l m : Nat} {fn : FuncId} {tmps : Array Value} {ps : Array Tmp} {body : Code} {D : Nat} {args : Array Value} {W : World} {R : Ending → World → Prop}
    (hl : W.heap[l]? = some (.loop (recOf fn tmps ps .skip body D .ready none))) (hs : args.size = ps.size)
    (hb : body.wpIn (Fence.wide.inRound l) m P (roundPost P l R) { tmps := (ps.zip args).foldl (fun t (p, v) => t.setIfInBounds p v) tmps, defers := [] } (W.putObj l (.loop (recOf fn tmps ps .skip body D .busy none)))) :
    YieldAt Fence.wide m P l args W R := by
  have hy := run_yield (P := P) (args := args) hl hs
  refine ⟨fn, _, .skip, body, hy, roundIn_of_wpIn trivial ?_⟩
  exact wpIn_skip ⟨_, run_beginRound hl rfl, hb⟩
theorem putObj_size (W : World) (l : Nat) (o : Obj) : (W.putObj l o).heap.size = W.heap.size := by simp [World.putObj]
theorem keep1 {w0 w1 w2 : World} {b1 o1 : Nat} {v1 : Value} (hB : b1 < w0.heap.size) (h : w1.cell? ⟨b1, o1, none⟩ = some v1 ∧ Below w0.heap.size w0 w1)
    (hb : Below w1.heap.size w1 w2) : w2.cell? ⟨b1, o1, none⟩ = some v1 ∧ Below w0.heap.size w0 w2 := by
  obtain ⟨h1, h5⟩ := h
  exact ⟨(hb.cell (p := ⟨b1, o1, none⟩) (Nat.lt_of_lt_of_le hB h5.size)).trans h1, h5.trans (hb.mono h5.size)⟩
/-- Facts for the operations of a drawn region, listed; each outlasts what a chute's numbers change. -/
def FL (l : List (Value → World → Prop)) (i : Nat) (v : Value) (w : World) : Prop := match l[i]? with | some p => p v w | none => True
def Stb (g : Nat) (p : Value → World → Prop) : Prop := ∀ v w w', p v w → w.grownBy w' (some g) → p v w'
theorem FL.keep {g : Nat} {l : List (Value → World → Prop)} (h : ∀ p ∈ l, Stb g p) (i : Nat) (v : Value) (w w' : World) (H : FL l i v w) (hg : w.grownBy w' (some g)) : FL l i v w' := by
  unfold FL at H ⊢
  cases hl : l[i]? with
  | none => trivial
  | some p =>
    rw [hl] at H
    exact h p (List.mem_of_getElem? hl) v w w' H hg
def PEq (x : Value) (v : Value) (_ : World) : Prop := v = x
def PNum (a b : Int) (v : Value) (_ : World) : Prop := ∃ d : Int, v = .int .i64 d ∧ a ≤ d ∧ d ≤ b
def PEnt (a b c d : Int) (v : Value) (_ : World) : Prop := ∃ x y : Int, v = .agg #[.int .i64 x, .int .i64 y] ∧ a ≤ x ∧ x ≤ b ∧ c ≤ y ∧ y ≤ d
def PSl (g : Nat) (a b c d : Int) (v : Value) (w : World) : Prop := ∃ (x y : Int) (k : Nat), v = .slice (some ⟨k, 0, none⟩) 1 1 ∧ a ≤ x ∧ x ≤ b ∧ c ≤ y ∧ y ≤ d ∧ g < k ∧ k < w.heap.size ∧ w.cell? ⟨k, 0, none⟩ = some (.int .i64 x) ∧ w.cell? ⟨k, 1, none⟩ = some (.int .i64 y)
theorem stb_eq (g : Nat) (x : Value) : Stb g (PEq x) := fun _ _ _ h _ => h
theorem stb_num (g : Nat) (a b : Int) : Stb g (PNum a b) := fun _ _ _ h _ => h
theorem stb_ent (g : Nat) (a b c d : Int) : Stb g (PEnt a b c d) := fun _ _ _ h _ => h
theorem stb_sl (g : Nat) (a b c d : Int) : Stb g (PSl g a b c d) := by
  rintro v w w' ⟨x, y, k, e, h1, h2, h3, h4, h5, h6, c0, c1⟩ hg
  exact ⟨x, y, k, e, h1, h2, h3, h4, h5, Nat.lt_of_lt_of_le h6 hg.size, (World.grownBy.cell_far hg ⟨k, 0, none⟩ h6 (by intro e; injection e with e; have : k = g := e; omega)).trans c0, (World.grownBy.cell_far hg ⟨k, 1, none⟩ h6 (by intro e; injection e with e; have : k = g := e; omega)).trans c1⟩
def StbB (p : Value → World → Prop) : Prop := ∀ v w w', p v w → Below w.heap.size w w' → p v w'
theorem FL.keepB {l : List (Value → World → Prop)} (h : ∀ p ∈ l, StbB p) (i : Nat) (v : Value) (w w' : World) (H : FL l i v w) (hb : Below w.heap.size w w') : FL l i v w' := by
  unfold FL at H ⊢
  cases hl : l[i]? with
  | none => trivial
  | some p =>
    rw [hl] at H
    exact h p (List.mem_of_getElem? hl) v w w' H hb
/-- A list of one element, new; a variable, new. -/
def PRow (B : Nat) (xs : List Value) (v : Value) (w : World) : Prop := ∃ k, v = .slice (some ⟨k, 0, none⟩) 1 1 ∧ B ≤ k ∧ k < w.heap.size ∧ ∀ j u, xs[j]? = some u → w.cell? ((⟨k, 0, none⟩ : Addr).add j) = some u
def PNew (B : Nat) (xs : List Value) (v : Value) (w : World) : Prop := ∃ k, v = .pointer (some ⟨k, 0, none⟩) ∧ B ≤ k ∧ k < w.heap.size ∧ (∀ j u, xs[j]? = some u → w.cell? ⟨k, j, none⟩ = some u) ∧ ∀ o, w.frozen? ⟨k, o, none⟩ = false
theorem stbB_eq (x : Value) : StbB (PEq x) := fun _ _ _ h _ => h
theorem stbB_row (B : Nat) (xs : List Value) : StbB (PRow B xs) := by
  rintro v w w' ⟨k, e, h1, h2, h3⟩ hb
  exact ⟨k, e, h1, Nat.lt_of_lt_of_le h2 hb.size, fun j u hu => (hb.cell (p := (⟨k, 0, none⟩ : Addr).add j) (by rw [addr_add]; exact h2)).trans (h3 j u hu)⟩
theorem stbB_new (B : Nat) (xs : List Value) : StbB (PNew B xs) := by
  rintro v w w' ⟨k, e, h1, h2, h3, h4⟩ hb
  exact ⟨k, e, h1, Nat.lt_of_lt_of_le h2 hb.size, fun j u hu => (hb.cell (p := ⟨k, j, none⟩) h2).trans (h3 j u hu), fun o => (hb.frozen (p := ⟨k, o, none⟩) h2).trans (h4 o)⟩
theorem below_drew (w : World) : Below w.heap.size w w.drew := (Below.refl _ _).drew
theorem _root_.Go.RowKit.Below.at_ {n : Nat} {w w' : World} {b i : Nat} {v : Value} (hb : Below n w w') (h : b < n) (hc : w.cell? ⟨b, i, none⟩ = some v) : w'.cell? ⟨b, i, none⟩ = some v := (hb.cell (p := ⟨b, i, none⟩) h).trans hc
end Go.Proofs.YtcdjoegihmfanaaGreat
namespace Go.Proofs.YtcdjoegihmfanaaGreat
set_option linter.unusedVariables false
/-- An event: the minute, the span, how often it counts. -/
structure Ev where
  m : Int
  lo : Int
  hi : Int
  w : Int
deriving DecidableEq, Repr
/-- How often a row of values changes. -/
def chg : List Int → Nat
  | x :: y :: t => (if x = y then 0 else 1) + chg (y :: t)
  | _ => 0
def fits1 (e : Ev) (x : Int) : Prop := e.lo ≤ x ∧ x ≤ e.hi ∧ -50 ≤ x ∧ x ≤ 50
/-- The values fit the events. -/
def fitsL : List Ev → List Int → Prop
  | [], [] => True
  | e :: l, x :: xs => fits1 e x ∧ fitsL l xs
  | _, _ => False
def wsum : List Ev → List Int → Int
  | e :: l, x :: xs => e.w * x + wsum l xs
  | _, _ => 0
/-- The values fit, and change at most so often. -/
def Way (l : List Ev) (c : Nat) (xs : List Int) : Prop := fitsL l xs ∧ chg xs ≤ c
/-- 'm' is the best sum of all ways ('b': the greatest one; otherwise the least one). -/
def betterB (b : Bool) (x y : Int) : Bool := if b then decide (y < x) else decide (x < y)
def noBetter (b : Bool) (x y : Int) : Prop := if b then x ≤ y else y ≤ x
def IsBest (b : Bool) (l : List Ev) (c : Nat) (m : Int) : Prop := (∃ xs, Way l c xs ∧ wsum l xs = m) ∧ ∀ xs, Way l c xs → noBetter b (wsum l xs) m
theorem IsBest.uniq {b : Bool} {l : List Ev} {c : Nat} {m n : Int} (h : IsBest b l c m) (k : IsBest b l c n) : m = n := by
  obtain ⟨⟨xs, hx, rfl⟩, h2⟩ := h
  obtain ⟨⟨ys, hy, rfl⟩, k2⟩ := k
  have a := h2 ys hy
  have e := k2 xs hx
  unfold noBetter at a e
  cases b <;> simp at a e <;> omega
theorem fitsL_length : ∀ {l : List Ev} {xs : List Int}, fitsL l xs → l.length = xs.length
  | [], [], _ => rfl
  | e :: l, x :: xs, h => by simp [fitsL_length h.2]
theorem fitsL_append : ∀ {l l' : List Ev} {xs ys : List Int}, l.length = xs.length → (fitsL (l ++ l') (xs ++ ys) ↔ fitsL l xs ∧ fitsL l' ys)
  | [], l', [], ys, _ => by simp [fitsL]
  | e :: l, l', x :: xs, ys, h => by
    have := @fitsL_append l l' xs ys (by simpa using h)
    simp only [List.cons_append, fitsL, this, and_assoc]
theorem wsum_append : ∀ {l l' : List Ev} {xs ys : List Int}, l.length = xs.length → wsum (l ++ l') (xs ++ ys) = wsum l xs + wsum l' ys
  | [], l', [], ys, _ => by simp [wsum]
  | e :: l, l', x :: xs, ys, h => by
    have := @wsum_append l l' xs ys (by simpa using h)
    simp only [List.cons_append, wsum, this]; omega
theorem chg_snoc : ∀ (xs : List Int) (x y : Int), chg (xs ++ [x, y]) = chg (xs ++ [x]) + (if x = y then 0 else 1)
  | [], x, y => by simp [chg]
  | [a], x, y => by simp [chg]
  | a :: b :: t, x, y => by
    have := chg_snoc (b :: t) x y
    simp only [List.cons_append, chg] at *
    omega
theorem chg_append_cons : ∀ (xs : List Int) (y : Int) (ys : List Int), chg (y :: ys) ≤ chg (xs ++ y :: ys) 
  | [], y, ys => Nat.le_refl _
  | [a], y, ys => by simp [chg]
  | a :: b :: t, y, ys => by
    have := chg_append_cons (b :: t) y ys
    simp only [List.cons_append, chg] at *
    omega
theorem chg_take : ∀ (xs ys : List Int), chg xs ≤ chg (xs ++ ys)
  | [], ys => by simp [chg]
  | [a], ys => by simp [chg]
  | a :: b :: t, ys => by
    have := chg_take (b :: t) ys
    simp only [List.cons_append, chg] at *
    omega
end Go.Proofs.YtcdjoegihmfanaaGreat
namespace Go.Proofs.YtcdjoegihmfanaaGreat
set_option linter.unusedVariables false
def sortedE : List Ev → Prop
  | [] => True
  | e :: t => (∀ x ∈ t, e.m < x.m) ∧ sortedE t
/-- What stands at a minute. -/
def evAt : List Ev → Int → Option (Int × Int × Int)
  | [], _ => none
  | e :: t, m => if e.m = m then some (e.lo, e.hi, e.w) else evAt t m
def mergeE (e p : Ev) : Ev := ⟨e.m, max e.lo p.lo, min e.hi p.hi, e.w + p.w⟩
def putE : List Ev → Ev → List Ev
  | [], p => [p]
  | e :: t, p => if e.m = p.m then mergeE e p :: t else if p.m < e.m then p :: e :: t else e :: putE t p
theorem evAt_none : ∀ {l : List Ev} {m : Int}, (∀ e ∈ l, e.m ≠ m) → evAt l m = none
  | [], _, _ => rfl
  | e :: t, m, h => by
    simp only [evAt]
    rw [if_neg (h e (by simp))]
    exact evAt_none fun x hx => h x (List.mem_cons_of_mem _ hx)
theorem evAt_mem : ∀ {l : List Ev} {m a b w : Int}, evAt l m = some (a, b, w) → (⟨m, a, b, w⟩ : Ev) ∈ l
  | e :: t, m, a, b, w, h => by
    simp only [evAt] at h
    split at h
    · rename_i hm
      injection h with h; injection h with h1 h; injection h with h2 h3
      subst hm h1 h2 h3
      exact List.mem_cons_self
    · exact List.mem_cons_of_mem _ (evAt_mem h)
theorem mem_evAt : ∀ {l : List Ev} {e : Ev}, sortedE l → e ∈ l → evAt l e.m = some (e.lo, e.hi, e.w)
  | a :: t, e, hs, he => by
    simp only [evAt]
    rcases List.mem_cons.1 he with rfl | he
    · rw [if_pos rfl]
    · rw [if_neg (by have := hs.1 e he; omega)]
      exact mem_evAt hs.2 he
/-- Two lists in order with the same at each minute are one. -/
theorem sortedE_ext : ∀ {l k : List Ev}, sortedE l → sortedE k → (∀ m, evAt l m = evAt k m) → l = k
  | [], [], _, _, _ => rfl
  | [], e :: t, _, _, h => by have := h e.m; simp [evAt] at this
  | e :: t, [], _, _, h => by have := h e.m; simp [evAt] at this
  | a :: s, b :: t, hl, hk, h => by
    have ha := h a.m
    have hb := h b.m
    simp only [evAt, if_true] at ha hb
    have e1 : a = b := by
      by_cases em : b.m = a.m
      · rw [if_pos em] at ha
        injection ha with ha; injection ha with h1 ha; injection ha with h2 h3
        cases a; cases b; simp_all
      · rw [if_neg em] at ha
        rw [if_neg (fun h => em h.symm)] at hb
        have h1 := hk.1 _ (evAt_mem ha.symm)
        have h2 := hl.1 _ (evAt_mem hb)
        simp at h1 h2
        omega
    subst e1
    congr 1
    refine sortedE_ext hl.2 hk.2 fun m => ?_
    have hm := h m
    simp only [evAt] at hm
    split at hm
    · rename_i e
      rw [evAt_none (l := s) (fun x hx => by have := hl.1 x hx; omega), evAt_none (l := t) (fun x hx => by have := hk.1 x hx; omega)]
    · exact hm
theorem putE_mem : ∀ {l : List Ev} {p e : Ev}, e ∈ putE l p → e.m = p.m ∨ e ∈ l
  | [], p, e, h => by simp [putE] at h; subst h; exact .inl rfl
  | a :: t, p, e, h => by
    simp only [putE] at h
    split at h
    · rename_i hm
      rcases List.mem_cons.1 h with rfl | h
      · exact .inl (by simpa [mergeE] using hm)
      · exact .inr (List.mem_cons_of_mem _ h)
    · split at h
      · rcases List.mem_cons.1 h with rfl | h
        · exact .inl rfl
        · exact .inr h
      · rcases List.mem_cons.1 h with rfl | h
        · exact .inr List.mem_cons_self
        · rcases putE_mem h with k | k
          · exact .inl k
          · exact .inr (List.mem_cons_of_mem _ k)
theorem putE_sorted : ∀ {l : List Ev} {p : Ev}, sortedE l → sortedE (putE l p)
  | [], p, _ => by simp [putE, sortedE]
  | e :: t, p, h => by
    simp only [putE]
    split
    · exact ⟨h.1, h.2⟩
    · split
      · rename_i h1 h2
        refine ⟨fun x hx => ?_, h⟩
        rcases List.mem_cons.1 hx with rfl | hx
        · exact h2
        · have := h.1 x hx; omega
      · rename_i h1 h2
        refine ⟨fun x hx => ?_, putE_sorted h.2⟩
        rcases putE_mem hx with k | k
        · omega
        · exact h.1 x k
theorem putE_at : ∀ {l : List Ev} {p : Ev}, sortedE l → ∀ m, evAt (putE l p) m = if m = p.m then (match evAt l m with | none => some (p.lo, p.hi, p.w) | some (a, b, w) => some (max a p.lo, min b p.hi, w + p.w)) else evAt l m
  | [], p, _, m => by
    simp only [putE, evAt]
    by_cases h : m = p.m
    · rw [if_pos h.symm, if_pos h]
    · rw [if_neg (fun e => h e.symm), if_neg h]
  | e :: t, p, hs, m => by
    simp only [putE]
    split
    · rename_i h1
      show (if e.m = m then some (max e.lo p.lo, min e.hi p.hi, e.w + p.w) else evAt t m) = if m = p.m then (match (if e.m = m then some (e.lo, e.hi, e.w) else evAt t m) with | none => some (p.lo, p.hi, p.w) | some (a, b, w) => some (max a p.lo, min b p.hi, w + p.w)) else (if e.m = m then some (e.lo, e.hi, e.w) else evAt t m)
      by_cases h : m = p.m
      · have h' : e.m = m := by omega
        simp [h', h]
      · have h' : ¬ e.m = m := by omega
        simp [h', h]
    · split
      · rename_i h1 h2
        simp only [evAt]
        by_cases h : m = p.m
        · rw [if_pos h.symm, if_pos h, if_neg (by omega), evAt_none fun x hx => by have := hs.1 x hx; omega]
        · rw [if_neg (fun e => h e.symm), if_neg h]
      · rename_i h1 h2
        simp only [evAt]
        rw [putE_at hs.2 m]
        by_cases h : m = p.m
        · rw [if_pos h, if_neg (by omega), if_pos h, if_neg (by omega)]
        · rw [if_neg h, if_neg h]
theorem putE_length : ∀ (l : List Ev) (p : Ev), (putE l p).length ≤ l.length + 1 ∧ l.length ≤ (putE l p).length
  | [], p => by simp [putE]
  | e :: t, p => by
    have := putE_length t p
    simp only [putE]
    split
    · simp
    · split <;> simp <;> omega
end Go.Proofs.YtcdjoegihmfanaaGreat
