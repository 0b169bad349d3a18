/- Books, plainly: which are right, spans of proofs, the proofs of a bridge in the order of their minutes. Proofs, trips and slips as cells. in, bridge, all, most, meet: small functions of the scale. meet, and the span of a proof. Whether something is so of each element: IndexFunc, ContainsFunc, every, at each element type and any predicate that leaves memory as it was. -/
import Derived.Test.YtcdjoegihmfanaaGreatG1
import Derived.Test.YtcdjoegihmfanaaGreatProg
import Derived.Shelf.Abstract
namespace Go.Proofs.YtcdjoegihmfanaaGreat
set_option linter.unusedVariables false
structure Pr where
  b : Int
  m : Int
  k : Int
  r : Int
deriving DecidableEq, Repr
structure Tr where
  ib : Int
  im : Int
  ir : Int
  ob : Int
  om : Int
  or : Int
  mud : Int
deriving DecidableEq, Repr
def pAt (ps : List Pr) (i : Nat) : Pr := ps.getD i ⟨0, 0, 0, 0⟩
theorem pAt_eq {ps : List Pr} {i : Nat} (h : i < ps.length) : pAt ps i = ps[i] := by simp [pAt, List.getD_eq_getElem?_getD, List.getElem?_eq_getElem h]
/-- The span of a proof: all drifts that it leaves. -/
def spanP (e0 e1 : Int) (p : Pr) : Int × Int := (max (-50) (p.r - p.k - (if p.b = 0 then e0 else e1)), min 50 (p.r - p.k + (if p.b = 0 then e0 else e1)))
def spI (e0 e1 : Int) (ps : List Pr) (i : Nat) : Int × Int := spanP e0 e1 (pAt ps i)
/-- The list has the proofs of a bridge in the order of their minutes. -/
def IsOrd (ps : List Pr) (n : Int) (l : List Nat) : Prop := (l.Pairwise fun i j => (pAt ps i).m < (pAt ps j).m) ∧ ∀ i, i ∈ l ↔ i < ps.length ∧ (pAt ps i).b = n
theorem pair_uniq {α : Type} (key : α → Int) : ∀ {l k : List α}, l.Pairwise (fun a b => key a < key b) → k.Pairwise (fun a b => key a < key b) → (∀ x, x ∈ l ↔ x ∈ k) → l = k
  | [], [], _, _, _ => rfl
  | [], b :: t, _, _, h => by have := (h b).2 (by simp); simp at this
  | a :: s, [], _, _, h => by have := (h a).1 (by simp); simp at this
  | a :: s, b :: t, hl, hk, h => by
    rw [List.pairwise_cons] at hl hk
    have e : a = b := by
      rcases List.mem_cons.1 ((h a).1 (by simp)) with e | e
      · exact e
      · rcases List.mem_cons.1 ((h b).2 (by simp)) with e' | e'
        · exact e'.symm
        · have := hk.1 a e; have := hl.1 b e'; omega
    subst e
    congr 1
    refine pair_uniq key hl.2 hk.2 fun x => ?_
    constructor
    · intro hx
      rcases List.mem_cons.1 ((h x).1 (List.mem_cons_of_mem _ hx)) with rfl | k
      · have := hl.1 x hx; omega
      · exact k
    · intro hx
      rcases List.mem_cons.1 ((h x).2 (List.mem_cons_of_mem _ hx)) with rfl | k
      · have := hk.1 x hx; omega
      · exact k
theorem IsOrd.uniq {ps : List Pr} {n : Int} {l k : List Nat} (hl : IsOrd ps n l) (hk : IsOrd ps n k) : l = k :=
  pair_uniq (fun i => (pAt ps i).m) hl.1 hk.1 fun x => (hl.2 x).trans (hk.2 x).symm
def insI (ps : List Pr) (i : Nat) : List Nat → List Nat
  | [] => [i]
  | j :: t => if (pAt ps i).m < (pAt ps j).m then i :: j :: t else j :: insI ps i t
/-- The proofs of a bridge in the order of their minutes. -/
def ordL (ps : List Pr) (n : Int) : List Nat := ((List.range ps.length).filter fun i => (pAt ps i).b == n).foldr (insI ps) []
theorem mem_insI (ps : List Pr) (i x : Nat) : ∀ l : List Nat, x ∈ insI ps i l ↔ x = i ∨ x ∈ l
  | [] => by simp [insI]
  | j :: t => by
    simp only [insI]
    split
    · simp
    · rw [List.mem_cons, mem_insI ps i x t, List.mem_cons]
      constructor
      · rintro (h | h | h) <;> simp [h]
      · rintro (h | h | h) <;> simp [h]
theorem insI_sorted {ps : List Pr} {i : Nat} : ∀ {l : List Nat}, (l.Pairwise fun i j => (pAt ps i).m < (pAt ps j).m) → (∀ j ∈ l, (pAt ps i).m ≠ (pAt ps j).m) → (insI ps i l).Pairwise fun i j => (pAt ps i).m < (pAt ps j).m
  | [], _, _ => by simp [insI]
  | j :: t, h, hn => by
    rw [List.pairwise_cons] at h
    simp only [insI]
    split
    · rename_i hlt
      rw [List.pairwise_cons, List.pairwise_cons]
      refine ⟨fun x hx => ?_, h⟩
      rcases List.mem_cons.1 hx with rfl | hx
      · exact hlt
      · have := h.1 x hx; omega
    · rename_i hge
      rw [List.pairwise_cons]
      refine ⟨fun x hx => ?_, insI_sorted h.2 fun x hx => hn x (List.mem_cons_of_mem _ hx)⟩
      rcases (mem_insI ps i x t).1 hx with rfl | hx
      · have := hn j (by simp); omega
      · exact h.1 x hx
/-- No two proofs of a bridge are of the same minute. -/
def Once (ps : List Pr) : Prop := ∀ i j, i < j → j < ps.length → (pAt ps i).b = (pAt ps j).b → (pAt ps i).m ≠ (pAt ps j).m
theorem foldr_insI {ps : List Pr} : ∀ (s : List Nat), (s.Pairwise fun i j => (pAt ps i).m ≠ (pAt ps j).m) → ((s.foldr (insI ps) []).Pairwise fun i j => (pAt ps i).m < (pAt ps j).m) ∧ ∀ x, x ∈ s.foldr (insI ps) [] ↔ x ∈ s
  | [], _ => by simp
  | i :: t, h => by
    rw [List.pairwise_cons] at h
    obtain ⟨h1, h2⟩ := foldr_insI t h.2
    refine ⟨insI_sorted h1 fun j hj => h.1 j ((h2 j).1 hj), fun x => ?_⟩
    rw [List.foldr_cons, mem_insI, h2, List.mem_cons]
theorem ordL_is {ps : List Pr} (h : Once ps) (n : Int) : IsOrd ps n (ordL ps n) := by
  have hp : ((List.range ps.length).filter fun i => (pAt ps i).b == n).Pairwise fun i j => (pAt ps i).m ≠ (pAt ps j).m := by
    have h0 : ((List.range ps.length).filter fun i => (pAt ps i).b == n).Pairwise (· < ·) := List.Pairwise.filter _ List.pairwise_lt_range
    refine h0.imp_of_mem fun {a b} ha hb hab => ?_
    simp only [List.mem_filter, List.mem_range, beq_iff_eq] at ha hb
    exact h a b hab hb.1 (by omega)
  obtain ⟨h1, h2⟩ := foldr_insI _ hp
  refine ⟨h1, fun i => ?_⟩
  unfold ordL
  rw [h2]
  simp only [List.mem_filter, List.mem_range, beq_iff_eq]
/-- The events of a list of proofs. -/
def evI (e0 e1 : Int) (ps : List Pr) (i : Nat) : Ev := ⟨(pAt ps i).m, (spI e0 e1 ps i).1, (spI e0 e1 ps i).2, 0⟩
theorem sortedE_map {e0 e1 : Int} {ps : List Pr} : ∀ {l : List Nat}, (l.Pairwise fun i j => (pAt ps i).m < (pAt ps j).m) → sortedE (l.map (evI e0 e1 ps))
  | [], _ => trivial
  | i :: t, h => by
    rw [List.pairwise_cons] at h
    refine ⟨fun x hx => ?_, sortedE_map h.2⟩
    simp only [List.mem_map] at hx
    obtain ⟨j, hj, rfl⟩ := hx
    exact h.1 j hj
end Go.Proofs.YtcdjoegihmfanaaGreat
namespace Go.Proofs.YtcdjoegihmfanaaGreat
open Go.RowKit
set_option linter.unusedVariables false
/-- The rows of a list, each of so many numbers, as cells. -/
def rowsOf {α : Type} (f : α → List Int) (t : List α) : List Value := t.flatMap fun x => ints (f x)
section
variable {α : Type} {f : α → List Int} {k : Nat}
theorem rowsOf_length (hk : ∀ x, (f x).length = k) (t : List α) : (rowsOf f t).length = t.length * k := by
  induction t with
  | nil => simp [rowsOf]
  | cons a t ih =>
    have : (rowsOf f (a :: t)).length = k + (rowsOf f t).length := by simp [rowsOf, ints, hk]
    rw [this, ih, List.length_cons, Nat.succ_mul]; omega
theorem rowsOf_get (hk : ∀ x, (f x).length = k) : ∀ (t : List α) (i j : Nat) (h : i < t.length) (hj : j < k), (rowsOf f t)[i * k + j]? = some (.int .i64 ((f t[i])[j]'(by rw [hk]; exact hj)))
  | a :: t, 0, j, _, hj => by
    have hl : j < (ints (f a)).length := by simp [ints, hk, hj]
    show (ints (f a) ++ rowsOf f t)[0 * k + j]? = _
    rw [Nat.zero_mul, Nat.zero_add, List.getElem?_append_left hl, List.getElem?_eq_getElem hl, ints_get]
    rfl
  | a :: t, i + 1, j, h, hj => by
    have hl : (ints (f a)).length = k := by simp [ints, hk]
    show (ints (f a) ++ rowsOf f t)[(i + 1) * k + j]? = _
    rw [List.getElem?_append_right (by rw [hl, Nat.succ_mul]; omega), hl, show (i + 1) * k + j - k = i * k + j by rw [Nat.succ_mul]; omega]
    exact rowsOf_get hk t i j (by simpa using h) hj
theorem rowsOf_one (t : List α) : ∀ u ∈ rowsOf f t, u.oneCell' = true := by
  intro u hu
  simp only [rowsOf, List.mem_flatMap] at hu
  obtain ⟨a, _, h⟩ := hu
  exact ints_one _ u h
theorem rowsOf_append (s t : List α) : rowsOf f (s ++ t) = rowsOf f s ++ rowsOf f t := by simp [rowsOf]
theorem Rd.row {w : World} {B b off : Nat} {t : List α} {i j : Nat} (hk : ∀ x, (f x).length = k) (h : Rd w B (some ⟨b, off, none⟩) (rowsOf f t)) (hi : i < t.length) (hj : j < k) : w.cell? ⟨b, off + (i * k + j), none⟩ = some (.int .i64 ((f t[i])[j]'(by rw [hk]; exact hj))) := by
  have h0 := rowsOf_get hk t i j hi hj
  obtain ⟨b', off', e, hb, hc⟩ := h (by intro h1; rw [h1] at h0; simp at h0)
  injection e with e
  injection e with e1 e2
  subst e1 e2
  exact hc _ _ h0
theorem Rd.rowAddr {w : World} {B : Nat} {A : Option Addr} {t : List α} {i : Nat} (hk : ∀ x, (f x).length = k) (hk0 : 0 < k) (h : Rd w B A (rowsOf f t)) (hi : i < t.length) : ∃ b off, A = some ⟨b, off, none⟩ ∧ b < B := by
  obtain ⟨b, off, e, hb, _⟩ := h (by intro h1; have := rowsOf_get hk t i 0 hi hk0; rw [h1] at this; simp at this)
  exact ⟨b, off, e, hb⟩
end
def prF (p : Pr) : List Int := [p.b, p.m, p.k, p.r]
def trF (t : Tr) : List Int := [t.ib, t.im, t.ir, t.ob, t.om, t.or, t.mud]
def prs (t : List Pr) : List Value := rowsOf prF t
def trs (t : List Tr) : List Value := rowsOf trF t
theorem prs_length (t : List Pr) : (prs t).length = t.length * 4 := rowsOf_length (f := prF) (k := 4) (fun _ => rfl) t
theorem trs_length (t : List Tr) : (trs t).length = t.length * 7 := rowsOf_length (f := trF) (k := 7) (fun _ => rfl) t
theorem prs_one (t : List Pr) : ∀ u ∈ prs t, u.oneCell' = true := rowsOf_one t
theorem trs_one (t : List Tr) : ∀ u ∈ trs t, u.oneCell' = true := rowsOf_one t
/-- A proof as a value; a trip. -/
def prV (p : Pr) : Value := .agg #[.int .i64 p.b, .int .i64 p.m, .int .i64 p.k, .int .i64 p.r]
def slV (b m r : Int) : Value := .agg #[.int .i64 b, .int .i64 m, .int .i64 r]
def trV (t : Tr) : Value := .agg #[.int .i64 t.ib, .int .i64 t.im, .int .i64 t.ir, .int .i64 t.ob, .int .i64 t.om, .int .i64 t.or, .int .i64 t.mud]
theorem Rd.proof' {w : World} {B b off : Nat} {t : List Pr} {i : Nat} (h : Rd w B (some ⟨b, off, none⟩) (prs t)) (hi : i < t.length) :
    w.cell? ⟨b, off + i * 4, none⟩ = some (.int .i64 t[i].b) ∧ w.cell? ⟨b, off + i * 4 + 1, none⟩ = some (.int .i64 t[i].m) ∧ w.cell? ⟨b, off + i * 4 + 2, none⟩ = some (.int .i64 t[i].k) ∧ w.cell? ⟨b, off + i * 4 + 3, none⟩ = some (.int .i64 t[i].r) := by
  have hk : ∀ x, (prF x).length = 4 := fun _ => rfl
  refine ⟨Rd.row hk h hi (j := 0) (by omega), ?_, ?_, ?_⟩
  · have := Rd.row hk h hi (j := 1) (by omega); rwa [← Nat.add_assoc] at this
  · have := Rd.row hk h hi (j := 2) (by omega); rwa [← Nat.add_assoc] at this
  · have := Rd.row hk h hi (j := 3) (by omega); rwa [← Nat.add_assoc] at this
theorem Rd.proof {w : World} {B : Nat} {A : Option Addr} {t : List Pr} {i : Nat} (h : Rd w B A (prs t)) (hi : i < t.length) :
    ∃ b off, A = some ⟨b, off, none⟩ ∧ b < B ∧ w.cell? ⟨b, off + i * 4, none⟩ = some (.int .i64 t[i].b) ∧ w.cell? ⟨b, off + i * 4 + 1, none⟩ = some (.int .i64 t[i].m) ∧ w.cell? ⟨b, off + i * 4 + 2, none⟩ = some (.int .i64 t[i].k) ∧ w.cell? ⟨b, off + i * 4 + 3, none⟩ = some (.int .i64 t[i].r) := by
  obtain ⟨b, off, rfl, hb⟩ := Rd.rowAddr (fun _ => rfl) (k := 4) (by omega) h hi
  exact ⟨b, off, rfl, hb, h.proof' hi⟩
theorem Rd.tr' {w : World} {B b off : Nat} {t : List Tr} {i : Nat} (h : Rd w B (some ⟨b, off, none⟩) (trs t)) (hi : i < t.length) :
    w.cell? ⟨b, off + i * 7, none⟩ = some (.int .i64 t[i].ib) ∧ w.cell? ⟨b, off + i * 7 + 1, none⟩ = some (.int .i64 t[i].im) ∧ w.cell? ⟨b, off + i * 7 + 2, none⟩ = some (.int .i64 t[i].ir) ∧
    w.cell? ⟨b, off + i * 7 + 3, none⟩ = some (.int .i64 t[i].ob) ∧ w.cell? ⟨b, off + i * 7 + 4, none⟩ = some (.int .i64 t[i].om) ∧ w.cell? ⟨b, off + i * 7 + 5, none⟩ = some (.int .i64 t[i].or) ∧ w.cell? ⟨b, off + i * 7 + 6, none⟩ = some (.int .i64 t[i].mud) := by
  have hk : ∀ x, (trF x).length = 7 := fun _ => rfl
  refine ⟨Rd.row hk h hi (j := 0) (by omega), ?_, ?_, ?_, ?_, ?_, ?_⟩
  · have := Rd.row hk h hi (j := 1) (by omega); rwa [← Nat.add_assoc] at this
  · have := Rd.row hk h hi (j := 2) (by omega); rwa [← Nat.add_assoc] at this
  · have := Rd.row hk h hi (j := 3) (by omega); rwa [← Nat.add_assoc] at this
  · have := Rd.row hk h hi (j := 4) (by omega); rwa [← Nat.add_assoc] at this
  · have := Rd.row hk h hi (j := 5) (by omega); rwa [← Nat.add_assoc] at this
  · have := Rd.row hk h hi (j := 6) (by omega); rwa [← Nat.add_assoc] at this
theorem Rd.tr {w : World} {B : Nat} {A : Option Addr} {t : List Tr} {i : Nat} (h : Rd w B A (trs t)) (hi : i < t.length) :
    ∃ b off, A = some ⟨b, off, none⟩ ∧ b < B ∧ w.cell? ⟨b, off + i * 7, none⟩ = some (.int .i64 t[i].ib) ∧ w.cell? ⟨b, off + i * 7 + 1, none⟩ = some (.int .i64 t[i].im) ∧ w.cell? ⟨b, off + i * 7 + 2, none⟩ = some (.int .i64 t[i].ir) ∧
    w.cell? ⟨b, off + i * 7 + 3, none⟩ = some (.int .i64 t[i].ob) ∧ w.cell? ⟨b, off + i * 7 + 4, none⟩ = some (.int .i64 t[i].om) ∧ w.cell? ⟨b, off + i * 7 + 5, none⟩ = some (.int .i64 t[i].or) ∧ w.cell? ⟨b, off + i * 7 + 6, none⟩ = some (.int .i64 t[i].mud) := by
  obtain ⟨b, off, rfl, hb⟩ := Rd.rowAddr (fun _ => rfl) (k := 7) (by omega) h hi
  exact ⟨b, off, rfl, hb, h.tr' hi⟩
end Go.Proofs.YtcdjoegihmfanaaGreat
namespace Go.Proofs.YtcdjoegihmfanaaGreat
open Go.RowKit
set_option linter.unusedVariables false
def inB (n lo hi : Int) : Bool := decide (lo ≤ n) && decide (n ≤ hi)
theorem inB_iff {n lo hi : Int} : inB n lo hi = true ↔ lo ≤ n ∧ n ≤ hi := by simp [inB]
theorem inB_no {n lo hi : Int} : inB n lo hi = false ↔ n < lo ∨ hi < n := by simp [inB]; omega
theorem in_any (n lo hi : Int) (w : World) : Calls Tryz.prog 88 #[.int .i64 n, .int .i64 lo, .int .i64 hi] w fun e w' => e = .returned (.bool (inB n lo hi)) ∧ w = w' := by
  by_cases h1 : lo ≤ n
  all_goals
    by_cases h2 : n ≤ hi
    all_goals
      go_enter Tryz.func88, Tryz.ntmps88
      go_wp2
      go_ret
      exact ⟨ret_bool (by simp [inB, h1, h2]), rfl⟩
theorem off_any (n lo hi : Int) (w : World) : Calls Tryz.prog 91 #[.int .i64 n, .int .i64 lo, .int .i64 hi] w fun e w' => e = .returned (.bool (!inB n lo hi)) ∧ w = w' := by
  by_cases h1 : n < lo
  all_goals
    by_cases h2 : hi < n
    all_goals
      go_enter Tryz.func91, Tryz.ntmps91
      go_wp2
      go_ret
      exact ⟨ret_bool (by simp [inB, Int.not_le, h1, h2]; try omega), rfl⟩
theorem bridge_any (n : Int) (w : World) : Calls Tryz.prog 125 #[.int .i64 n] w fun e w' => e = .returned (.bool (inB n 0 1)) ∧ w = w' := by
  go_enter Tryz.func125, Tryz.ntmps125
  go_wp2_with fail
  refine (in_any _ _ _ _).mono ?_
  rintro e w1 ⟨rfl, rfl⟩
  go_wp2_with fail
  go_ret
  exact ⟨rfl, rfl⟩
def spV (p : Int × Int) : Value := .agg #[.int .i64 p.1, .int .i64 p.2]
theorem all_any (w : World) : Calls Tryz.prog 169 #[] w fun e w' => e = .returned (spV (-50, 50)) ∧ Below w.heap.size w w' := by
  unfold spV
  go_enter Tryz.func169, Tryz.ntmps169
  go_wp2_with fail
  exact bodyPost_ret (v := .agg #[.int .i64 (-50), .int .i64 50]) (by simp [results, Tryz.results169, go_sem]) rfl ⟨rfl, by go_grown⟩
theorem slicesMax2_any (b : Nat) (x y : Int) (w : World) (h0 : w.cell? ⟨b, 0, none⟩ = some (.int .i64 x)) (h1 : w.cell? ⟨b, 1, none⟩ = some (.int .i64 y)) (hb : b < w.heap.size) :
    Calls Tryz.prog 158 #[.slice (some ⟨b, 0, none⟩) 2 2] w fun e w' => e = .returned (.int .i64 (max x y)) ∧ w' = w := by
  have hm : (if x < y then y else x) = max x y := by split <;> omega
  have HM := Lib.hid hm
  clear hm
  go_enter Tryz.func158, Tryz.ntmps158
  by_cases hxy : x < y
  all_goals
    go_wp2_with fail
    go_loopw [3, 4] (fun m i wr => wr = w ∧ ((i = .int .i64 1 ∧ m = .int .i64 x) ∨ (i = .int .i64 2 ∧ m = .int .i64 (max x y)))) (fun _ i _ => 2 - (intOf i).toNat)
    case atStart => exact ⟨rfl, .inl ⟨rfl, rfl⟩⟩
    case round =>
      obtain ⟨rfl, ⟨rfl, rfl⟩ | ⟨rfl, rfl⟩⟩ := hrel
      · go_wp2_with fail
        go_roundw
        case rel => exact ⟨trivial, .inr ⟨by go_num, by rw [← HM.out]; first | rw [if_pos hxy] | rw [if_neg (by omega)]⟩⟩
        case measure => simp [intOf]
      · go_wp2_with fail
        go_ret
        exact ⟨rfl, rfl⟩
theorem most2_any (b : Nat) (x y : Int) (w : World) (h0 : w.cell? ⟨b, 0, none⟩ = some (.int .i64 x)) (h1 : w.cell? ⟨b, 1, none⟩ = some (.int .i64 y)) (hb : b < w.heap.size) :
    Calls Tryz.prog 110 #[.slice (some ⟨b, 0, none⟩) 2 2] w fun e w' => e = .returned (.int .i64 (max x y)) ∧ w' = w := by
  have H := Lib.hid (slicesMax2_any b x y w h0 h1 hb)
  generalize max x y = m at H ⊢
  go_enter Tryz.func110, Tryz.ntmps110
  go_wp2_with fail
  refine H.out.mono ?_
  rintro e w1 ⟨rfl, rfl⟩
  go_wp2_with fail
  go_ret
  exact ⟨rfl, rfl⟩
theorem most2_below (b : Nat) (x y : Int) (w : World) (h0 : w.cell? ⟨b, 0, none⟩ = some (.int .i64 x)) (h1 : w.cell? ⟨b, 1, none⟩ = some (.int .i64 y)) (hb : b < w.heap.size) :
    Calls Tryz.prog 110 #[.slice (some ⟨b, 0, none⟩) 2 2] w fun e w' => e = .returned (.int .i64 (max x y)) ∧ Below w.heap.size w w' :=
  (most2_any b x y w h0 h1 hb).mono fun _ _ ⟨h, k⟩ => ⟨h, by rw [k]; exact Below.refl _ _⟩
/-- A block of cells that may be written. -/
structure Blk (w : World) (b : Nat) (x : List Value) : Prop where
  lt : b < w.heap.size
  cells : ∀ j u, x[j]? = some u → w.cell? ⟨b, j, none⟩ = some u
  free : ∀ o, w.frozen? ⟨b, o, none⟩ = false
theorem Blk.new (w : World) (x : List Value) (t : TypeId) : Blk (w.alloc (.cells x.toArray t)) w.heap.size x :=
  ⟨by simp, fun j u hu => by rw [World.cell?_alloc_new]; simpa using hu, fun o => by simp⟩
theorem Blk.below {w w' : World} {b : Nat} {x : List Value} (h : Blk w b x) (hb : Below w.heap.size w w') : Blk w' b x :=
  ⟨Nat.lt_of_lt_of_le h.lt hb.size, fun j u hu => (hb.cell (p := ⟨b, j, none⟩) h.lt).trans (h.cells j u hu), fun o => (hb.frozen (p := ⟨b, o, none⟩) h.lt).trans (h.free o)⟩
theorem Blk.alloc {w : World} {b : Nat} {x : List Value} (h : Blk w b x) (o : Obj) : Blk (w.alloc o) b x := h.below (below_new w o)
theorem Blk.drewN {w : World} {b : Nat} {x : List Value} (h : Blk w b x) (n : Nat) : Blk (w.drewN n) b x := ⟨h.lt, h.cells, h.free⟩
theorem Blk.set {w : World} {b : Nat} {x : List Value} (h : Blk w b x) {j : Nat} (hj : j < x.length) (v : Value) : Blk (w.setCell ⟨b, j, none⟩ v) b (x.set j v) := by
  refine ⟨by simpa [World.setCell] using h.lt, fun i u hu => ?_, fun o => by simpa using h.free o⟩
  rw [List.getElem?_set] at hu
  by_cases e : j = i
  · subst e
    rw [if_pos rfl, if_pos hj] at hu
    injection hu with hu
    rw [← hu]
    exact World.cell?_setCell_same _ _ _ (h.cells j _ (List.getElem?_eq_getElem hj))
  · rw [if_neg e] at hu
    exact (cell_far' (fun h => e h.symm)).trans (h.cells i u hu)
theorem Blk.far {w : World} {b c o : Nat} {x : List Value} {v : Value} (h : Blk w b x) (hc : b ≠ c) : Blk (w.setCell ⟨c, o, none⟩ v) b x :=
  ⟨by simpa [World.setCell] using h.lt, fun j u hu => (cell_far hc).trans (h.cells j u hu), fun o => by simpa using h.free o⟩
def meetP (a b : Int × Int) : Int × Int := (max a.1 b.1, min a.2 b.2)
/-- A list literal, new. -/
def PLst (B n : Nat) (xs : List Value) (v : Value) (w : World) : Prop := ∃ k, v = .slice (some ⟨k, 0, none⟩) n n ∧ B ≤ k ∧ k < w.heap.size ∧ ∀ j u, xs[j]? = some u → w.cell? ⟨k, j, none⟩ = some u
theorem stbB_lst (B n : Nat) (xs : List Value) : StbB (PLst B n xs) := by
  rintro v w w' ⟨k, e, h1, h2, h3⟩ hb
  exact ⟨k, e, h1, Nat.lt_of_lt_of_le h2 hb.size, fun j u hu => (hb.cell (p := ⟨k, j, none⟩) h2).trans (h3 j u hu)⟩
theorem plst_new (w : World) (xs : List Value) (t : TypeId) {n : Nat} {B : Nat} (hB : B ≤ w.heap.size) : PLst B n xs (.slice (some ⟨w.heap.size, 0, none⟩) n n) (w.alloc (.cells xs.toArray t)) :=
  ⟨w.heap.size, rfl, hB, by simp, fun j u hu => (Blk.new w xs t).cells j u hu⟩
end Go.Proofs.YtcdjoegihmfanaaGreat
namespace Go.Proofs.YtcdjoegihmfanaaGreat
open Go.RowKit
set_option linter.unusedVariables false
set_option maxRecDepth 100000 in
set_option maxHeartbeats 2000000 in
theorem meet_any (a b : Int × Int) (w : World) : Calls Tryz.prog 168 #[spV a, spV b] w fun e w' => e = .returned (spV (meetP a b)) ∧ Below w.heap.size w w' := by
  obtain ⟨a0, a1⟩ := a
  obtain ⟨b0, b1⟩ := b
  have hm : (if b1 < a1 then b1 else a1) = min a1 b1 := by split <;> omega
  have HM := Lib.hid hm
  clear hm
  unfold spV meetP
  dsimp only
  go_enter Tryz.func168, Tryz.ntmps168
  go_wp2_with fail
  have B0 := ((Blk.new w [.int .i64 a0, .int .i64 a1] 36).alloc (.cells #[.int .i64 b0, .int .i64 b1] 36)).alloc (.cells #[.int .i64 0, .int .i64 0] 36)
  have B1 := (Blk.new (w.alloc (.cells #[.int .i64 a0, .int .i64 a1] 36)) [.int .i64 b0, .int .i64 b1] 36).alloc (.cells #[.int .i64 0, .int .i64 0] 36)
  have B2 := Blk.new ((w.alloc (.cells #[.int .i64 a0, .int .i64 a1] 36)).alloc (.cells #[.int .i64 b0, .int .i64 b1] 36)) [.int .i64 0, .int .i64 0] 36
  have bW : Below w.heap.size w (((w.alloc (.cells #[.int .i64 a0, .int .i64 a1] 36)).alloc (.cells #[.int .i64 b0, .int .i64 b1] 36)).alloc (.cells #[.int .i64 0, .int .i64 0] 36)) := ((below_new _ _).alloc (by simp) _).alloc (by simp; omega) _
  simp only [World.size_alloc] at B1 B2
  generalize ((w.alloc (.cells #[.int .i64 a0, .int .i64 a1] 36)).alloc (.cells #[.int .i64 b0, .int .i64 b1] 36)).alloc (.cells #[.int .i64 0, .int .i64 0] 36) = W at *
  have hB0 := B0.lt
  have hB1 := B1.lt
  have HB0 := Lib.hid B0
  have HB1 := Lib.hid B1
  have HB2 := Lib.hid B2
  clear B0 B1 B2
  refine wp_inv 12 (by kernel_rfl) (by kernel_rfl) (by kernel_rfl) (by decide) (FL [PEq (.pointer (some ⟨w.heap.size, 0, none⟩)), PEq (.int .i64 a0), PEq (.pointer (some ⟨w.heap.size + 1, 0, none⟩)), PEq (.int .i64 b0), PLst W.heap.size 2 [.int .i64 a0, .int .i64 b0], PEq (.int .i64 (max a0 b0)), PEq (.pointer (some ⟨w.heap.size, 1, none⟩)), PEq (.int .i64 a1), PEq (.pointer (some ⟨w.heap.size + 1, 1, none⟩)), PEq (.int .i64 b1), PEq (.int .i64 (min a1 b1)), PEq (.agg #[.int .i64 (max a0 b0), .int .i64 (min a1 b1)])])
    (fun x => Below W.heap.size W x) (fun x y => Below x.heap.size x y) (FL.keepB (by simp [stbB_eq, stbB_lst])) (below_drew W) ?_ ?_
  · intro iq o hi' ho listed vals a w5 hdep hM hAt K hK
    have HI := Lib.hid hM.inv
    match iq, hi' with
    | 0, _ =>
      injection ho with ho
      subst ho
      obtain ⟨e2, e2'⟩ := hAt.slot 2 (by kernel_rfl) (by rfl)
      go_simp
      exact hK _ w5 (Below.refl _ _) HI.out rfl
    | 1, _ =>
      injection ho with ho
      subst ho
      have l0 := hdep ⟨0, .data⟩ (by simp) rfl
      obtain ⟨x0, x0'⟩ := hAt.dep 0 (d := 5) (by omega) l0 (by rfl) (hM.fact 0 (by omega) l0)
      have c0 := HI.out.at_ hB0 (HB0.out.cells 0 _ rfl)
      have c1 := Nat.lt_of_lt_of_le hB0 HI.out.size
      go_simp
      exact hK _ w5 (Below.refl _ _) HI.out rfl
    | 2, _ =>
      injection ho with ho
      subst ho
      obtain ⟨e3, e3'⟩ := hAt.slot 3 (by kernel_rfl) (by rfl)
      go_simp
      exact hK _ w5 (Below.refl _ _) HI.out rfl
    | 3, _ =>
      injection ho with ho
      subst ho
      have l2 := hdep ⟨2, .data⟩ (by simp) rfl
      obtain ⟨x2, x2'⟩ := hAt.dep 2 (d := 7) (by omega) l2 (by rfl) (hM.fact 2 (by omega) l2)
      have c0 := HI.out.at_ hB1 (HB1.out.cells 0 _ rfl)
      have c1 := Nat.lt_of_lt_of_le hB1 HI.out.size
      go_simp
      exact hK _ w5 (Below.refl _ _) HI.out rfl
    | 4, _ =>
      injection ho with ho
      subst ho
      have l1 := hdep ⟨1, .data⟩ (by simp) rfl
      obtain ⟨x1, x1'⟩ := hAt.dep 1 (d := 6) (by omega) l1 (by rfl) (hM.fact 1 (by omega) l1)
      have l3 := hdep ⟨3, .data⟩ (by simp) rfl
      obtain ⟨x3, x3'⟩ := hAt.dep 3 (d := 8) (by omega) l3 (by rfl) (hM.fact 3 (by omega) l3)
      go_simp
      exact hK _ _ (below_new _ _) (HI.out.alloc HI.out.size _) (plst_new w5 [.int .i64 a0, .int .i64 b0] _ HI.out.size)
    | 5, _ =>
      injection ho with ho
      subst ho
      have l4 := hdep ⟨4, .data⟩ (by simp) rfl
      obtain ⟨k4, f4, g4, z4, h4⟩ := hM.fact 4 (by omega) l4
      obtain ⟨x4, x4'⟩ := hAt.dep 4 (d := 9) (by omega) l4 (by rfl) f4
      go_simp
      refine (most2_below k4 a0 b0 w5 (h4 0 _ rfl) (h4 1 _ rfl) z4).mono ?_
      rintro e w6 ⟨rfl, hb6⟩
      exact hK _ w6 hb6 (HI.out.trans (hb6.mono HI.out.size)) rfl
    | 6, _ =>
      injection ho with ho
      subst ho
      obtain ⟨e2, e2'⟩ := hAt.slot 2 (by kernel_rfl) (by rfl)
      go_simp
      exact hK _ w5 (Below.refl _ _) HI.out rfl
    | 7, _ =>
      injection ho with ho
      subst ho
      have l6 := hdep ⟨6, .data⟩ (by simp) rfl
      obtain ⟨x6, x6'⟩ := hAt.dep 6 (d := 11) (by omega) l6 (by rfl) (hM.fact 6 (by omega) l6)
      have c0 := HI.out.at_ hB0 (HB0.out.cells 1 _ rfl)
      have c1 := Nat.lt_of_lt_of_le hB0 HI.out.size
      go_simp
      exact hK _ w5 (Below.refl _ _) HI.out rfl
    | 8, _ =>
      injection ho with ho
      subst ho
      obtain ⟨e3, e3'⟩ := hAt.slot 3 (by kernel_rfl) (by rfl)
      go_simp
      exact hK _ w5 (Below.refl _ _) HI.out rfl
    | 9, _ =>
      injection ho with ho
      subst ho
      have l8 := hdep ⟨8, .data⟩ (by simp) rfl
      obtain ⟨x8, x8'⟩ := hAt.dep 8 (d := 13) (by omega) l8 (by rfl) (hM.fact 8 (by omega) l8)
      have c0 := HI.out.at_ hB1 (HB1.out.cells 1 _ rfl)
      have c1 := Nat.lt_of_lt_of_le hB1 HI.out.size
      go_simp
      exact hK _ w5 (Below.refl _ _) HI.out rfl
    | 10, _ =>
      injection ho with ho
      subst ho
      have l7 := hdep ⟨7, .data⟩ (by simp) rfl
      obtain ⟨x7, x7'⟩ := hAt.dep 7 (d := 12) (by omega) l7 (by rfl) (hM.fact 7 (by omega) l7)
      have l9 := hdep ⟨9, .data⟩ (by simp) rfl
      obtain ⟨x9, x9'⟩ := hAt.dep 9 (d := 14) (by omega) l9 (by rfl) (hM.fact 9 (by omega) l9)
      go_simp
      rw [HM.out]
      exact hK _ w5 (Below.refl _ _) HI.out rfl
    | 11, _ =>
      injection ho with ho
      subst ho
      have l5 := hdep ⟨5, .data⟩ (by simp) rfl
      obtain ⟨x5, x5'⟩ := hAt.dep 5 (d := 10) (by omega) l5 (by rfl) (hM.fact 5 (by omega) l5)
      have l10 := hdep ⟨10, .data⟩ (by simp) rfl
      obtain ⟨x10, x10'⟩ := hAt.dep 10 (d := 15) (by omega) l10 (by rfl) (hM.fact 10 (by omega) l10)
      go_simp
      exact hK _ w5 (Below.refl _ _) HI.out rfl
    | jq + 12, hq => exact absurd hq (by omega)
  · intro vals w5 hM
    have HI := Lib.hid hM.inv
    have f0 : vals 0 = .pointer (some ⟨w.heap.size, 0, none⟩) := hM.all (by decide) 0 (by omega)
    have f1 : vals 1 = .int .i64 a0 := hM.all (by decide) 1 (by omega)
    have f2 : vals 2 = .pointer (some ⟨w.heap.size + 1, 0, none⟩) := hM.all (by decide) 2 (by omega)
    have f3 : vals 3 = .int .i64 b0 := hM.all (by decide) 3 (by omega)
    obtain ⟨k4, f4, g4, z4, h4⟩ := hM.all (by decide) 4 (by omega)
    have f5 : vals 5 = .int .i64 (max a0 b0) := hM.all (by decide) 5 (by omega)
    have f6 : vals 6 = .pointer (some ⟨w.heap.size, 1, none⟩) := hM.all (by decide) 6 (by omega)
    have f7 : vals 7 = .int .i64 a1 := hM.all (by decide) 7 (by omega)
    have f8 : vals 8 = .pointer (some ⟨w.heap.size + 1, 1, none⟩) := hM.all (by decide) 8 (by omega)
    have f9 : vals 9 = .int .i64 b1 := hM.all (by decide) 9 (by omega)
    have f10 : vals 10 = .int .i64 (min a1 b1) := hM.all (by decide) 10 (by omega)
    have f11 : vals 11 = .agg #[.int .i64 (max a0 b0), .int .i64 (min a1 b1)] := hM.all (by decide) 11 (by omega)
    clear hM
    simp only [putAll, List.range, List.range.loop, List.foldl_cons, List.foldl_nil, f0, f1, f2, f3, f4, f5, f6, f7, f8, f9, f10, f11]
    clear f0 f1 f2 f3 f4 f5 f6 f7 f8 f9 f10 f11
    change wpAny _ _ _ _ _ _ (Act.put (Act.put (Act.put (Act.put (Act.put (Act.put (Act.put (Act.put (Act.put (Act.put (Act.put (Act.put _ (some 5) _) (some 6) _) (some 7) _) (some 8) _) (some 9) _) (some 10) _) (some 11) _) (some 12) _) (some 13) _) (some 14) _) (some 15) _) (some 16) _) _
    simp only [Act.put, List.setIfInBounds_toArray, List.set_cons_zero, List.set_cons_succ]
    refine tail_step 12 _ (by kernel_rfl) rfl rfl (fun K' hK => ?_)
    have B3 := HB2.out.below HI.out
    have q0 := B3.cells 0 _ rfl
    have q1 := B3.cells 1 _ rfl
    have q2 := B3.free 0
    have q3 := B3.free 1
    have q4 := B3.lt
    go_simp
    refine hK _ _ ?_
    clear hK K'
    refine wpAny_done (by kernel_rfl) ?_ _
    have B4 := (B3.set (j := 0) (by decide) (.int .i64 (max a0 b0))).set (j := 1) (by simp) (.int .i64 (min a1 b1))
    have bl : Below w.heap.size w _ := ((bW.trans (HI.out.mono bW.size)).setCell (p := ⟨w.heap.size + 1 + 1, 0, none⟩) (by simp; omega) (.int .i64 (max a0 b0))).setCell (p := ⟨w.heap.size + 1 + 1, 1, none⟩) (by simp; omega) (.int .i64 (min a1 b1))
    generalize (w5.setCell _ _).setCell _ _ = W9 at B4 bl ⊢
    have r0 := B4.cells 0 _ rfl
    have r1 := B4.cells 1 _ rfl
    go_wp2_with fail
    exact bodyPost_ret (v := .agg #[.int .i64 (max a0 b0), .int .i64 (min a1 b1)]) (by simp [results, Tryz.results168, go_sem, r0, r1]) rfl ⟨rfl, bl⟩
/-- A book at work: a block that has it. -/
structure Bk (w : World) (g : Nat) (e0 e1 : Int) (vp vt : Value) : Prop where
  lt : g < w.heap.size
  c0 : w.cell? ⟨g, 0, none⟩ = some (.int .i64 e0)
  c1 : w.cell? ⟨g, 1, none⟩ = some (.int .i64 e1)
  c2 : w.cell? ⟨g, 2, none⟩ = some vp
  c3 : w.cell? ⟨g, 3, none⟩ = some vt
theorem Bk.below {w w' : World} {g : Nat} {e0 e1 : Int} {vp vt : Value} (h : Bk w g e0 e1 vp vt) (hb : Below w.heap.size w w') : Bk w' g e0 e1 vp vt :=
  ⟨Nat.lt_of_lt_of_le h.lt hb.size, hb.at_ h.lt h.c0, hb.at_ h.lt h.c1, hb.at_ h.lt h.c2, hb.at_ h.lt h.c3⟩
theorem Bk.alloc {w : World} {g : Nat} {e0 e1 : Int} {vp vt : Value} (h : Bk w g e0 e1 vp vt) (o : Obj) : Bk (w.alloc o) g e0 e1 vp vt := h.below (below_new w o)
theorem Bk.drewN {w : World} {g : Nat} {e0 e1 : Int} {vp vt : Value} (h : Bk w g e0 e1 vp vt) (n : Nat) : Bk (w.drewN n) g e0 e1 vp vt := ⟨h.lt, h.c0, h.c1, h.c2, h.c3⟩
set_option maxRecDepth 100000 in
set_option maxHeartbeats 2000000 in
theorem span_any (g : Nat) (e0 e1 : Int) (vp vt : Value) (p : Pr) (w : World) (hk : Bk w g e0 e1 vp vt) (hb : p.b = 0 ∨ p.b = 1) (he0 : 0 ≤ e0 ∧ e0 ≤ 50) (he1 : 0 ≤ e1 ∧ e1 ≤ 50) (hn : 0 ≤ p.k ∧ p.k ≤ 20000) (hr : -100 ≤ p.r ∧ p.r ≤ 20000) :
    Calls Tryz.prog 115 #[.pointer (some ⟨g, 0, none⟩), prV p] w fun e w' => e = .returned (spV (spanP e0 e1 p)) ∧ Below w.heap.size w w' := by
  obtain ⟨b, m, k, r⟩ := p
  dsimp only at hb hn hr
  have hs : meetP (-50, 50) (r - k - (if b = 0 then e0 else e1), r - k + (if b = 0 then e0 else e1)) = spanP e0 e1 ⟨b, m, k, r⟩ := rfl
  have HS := Lib.hid hs
  clear hs
  unfold prV
  dsimp only
  have gl := hk.lt
  have x0 := hk.c0
  have x1 := hk.c1
  rcases hb with rfl | rfl
  · go_enter Tryz.func115, Tryz.ntmps115
    go_wp2_with fail
    have B0 := (Blk.new w [.int .i64 0, .int .i64 m, .int .i64 k, .int .i64 r] 57).alloc (.cells #[.int .i64 0, .int .i64 0] 36)
    have B1 := Blk.new (w.alloc (.cells #[.int .i64 0, .int .i64 m, .int .i64 k, .int .i64 r] 57)) [.int .i64 0, .int .i64 0] 36
    have K1 := (hk.alloc (.cells #[.int .i64 0, .int .i64 m, .int .i64 k, .int .i64 r] 57)).alloc (.cells #[.int .i64 0, .int .i64 0] 36)
    have bW : Below w.heap.size w ((w.alloc (.cells #[.int .i64 0, .int .i64 m, .int .i64 k, .int .i64 r] 57)).alloc (.cells #[.int .i64 0, .int .i64 0] 36)) := (below_new _ _).alloc (by simp) _
    simp only [World.size_alloc] at B1
    generalize (w.alloc (.cells #[.int .i64 0, .int .i64 m, .int .i64 k, .int .i64 r] 57)).alloc (.cells #[.int .i64 0, .int .i64 0] 36) = W at *
    have y0 := B0.cells 0 _ rfl
    have y2 := B0.cells 2 _ rfl
    have y3 := B0.cells 3 _ rfl
    have z0 := K1.c0
    have z1 := K1.c1
    have yl := B0.lt
    have zl := K1.lt
    have HB1 := Lib.hid B1
    clear B0 B1 K1 x0 x1
    go_quiet (fail)
    go_wp2_with fail
    refine (all_any _).mono ?_
    rintro e w1 ⟨rfl, hb1⟩
    unfold spV
    go_wp2_with fail
    refine (meet_any (-50, 50) (_, _) _).mono ?_
    rintro e w2 ⟨rfl, hb2⟩
    rw [show meetP (-50, 50) (r - k - e0, r - k + e0) = spanP e0 e1 ⟨0, m, k, r⟩ from HS.out]
    generalize hs : spanP e0 e1 ⟨0, m, k, r⟩ = s
    obtain ⟨s0, s1⟩ := s
    have HE := Lib.hid hs
    clear hs
    have bl2 : Below w.heap.size w w2 := ((below_drewN bW nq).trans (hb1.mono bW.size)).trans (hb2.mono (Nat.le_trans bW.size hb1.size))
    have B3 := ((HB1.out.drewN nq).below hb1).below hb2
    have q0 := B3.cells 0 _ rfl
    have q1 := B3.cells 1 _ rfl
    have q2 := B3.free 0
    have q3 := B3.free 1
    have q4 := B3.lt
    have B4 := (B3.set (j := 0) (by decide) (.int .i64 s0)).set (j := 1) (by simp) (.int .i64 s1)
    have bl := (bl2.setCell (p := ⟨w.heap.size + 1, 0, none⟩) (by simp) (.int .i64 s0)).setCell (p := ⟨w.heap.size + 1, 1, none⟩) (by simp) (.int .i64 s1)
    have HB4 := Lib.hid (And.intro B4 bl)
    clear B4 bl B3 bl2 HB1
    unfold spV
    go_wp2_with fail
    obtain ⟨B4, bl⟩ := HB4.out
    generalize (w2.setCell _ _).setCell _ _ = W9 at B4 bl ⊢
    have r0 := B4.cells 0 _ rfl
    have r1 := B4.cells 1 _ rfl
    exact bodyPost_ret (v := .agg #[.int .i64 s0, .int .i64 s1]) (by simp [results, Tryz.results115, go_sem, r0, r1]) rfl ⟨by rw [HE.out]; rfl, bl⟩
  · go_enter Tryz.func115, Tryz.ntmps115
    go_wp2_with fail
    have B0 := (Blk.new w [.int .i64 1, .int .i64 m, .int .i64 k, .int .i64 r] 57).alloc (.cells #[.int .i64 0, .int .i64 0] 36)
    have B1 := Blk.new (w.alloc (.cells #[.int .i64 1, .int .i64 m, .int .i64 k, .int .i64 r] 57)) [.int .i64 0, .int .i64 0] 36
    have K1 := (hk.alloc (.cells #[.int .i64 1, .int .i64 m, .int .i64 k, .int .i64 r] 57)).alloc (.cells #[.int .i64 0, .int .i64 0] 36)
    have bW : Below w.heap.size w ((w.alloc (.cells #[.int .i64 1, .int .i64 m, .int .i64 k, .int .i64 r] 57)).alloc (.cells #[.int .i64 0, .int .i64 0] 36)) := (below_new _ _).alloc (by simp) _
    simp only [World.size_alloc] at B1
    generalize (w.alloc (.cells #[.int .i64 1, .int .i64 m, .int .i64 k, .int .i64 r] 57)).alloc (.cells #[.int .i64 0, .int .i64 0] 36) = W at *
    have y0 := B0.cells 0 _ rfl
    have y2 := B0.cells 2 _ rfl
    have y3 := B0.cells 3 _ rfl
    have z0 := K1.c0
    have z1 := K1.c1
    have yl := B0.lt
    have zl := K1.lt
    have HB1 := Lib.hid B1
    clear B0 B1 K1 x0 x1
    go_quiet (fail)
    go_wp2_with fail
    refine (all_any _).mono ?_
    rintro e w1 ⟨rfl, hb1⟩
    unfold spV
    go_wp2_with fail
    refine (meet_any (-50, 50) (_, _) _).mono ?_
    rintro e w2 ⟨rfl, hb2⟩
    rw [show meetP (-50, 50) (r - k - e1, r - k + e1) = spanP e0 e1 ⟨1, m, k, r⟩ from HS.out]
    generalize hs : spanP e0 e1 ⟨1, m, k, r⟩ = s
    obtain ⟨s0, s1⟩ := s
    have HE := Lib.hid hs
    clear hs
    have bl2 : Below w.heap.size w w2 := ((below_drewN bW nq).trans (hb1.mono bW.size)).trans (hb2.mono (Nat.le_trans bW.size hb1.size))
    have B3 := ((HB1.out.drewN nq).below hb1).below hb2
    have q0 := B3.cells 0 _ rfl
    have q1 := B3.cells 1 _ rfl
    have q2 := B3.free 0
    have q3 := B3.free 1
    have q4 := B3.lt
    have B4 := (B3.set (j := 0) (by decide) (.int .i64 s0)).set (j := 1) (by simp) (.int .i64 s1)
    have bl := (bl2.setCell (p := ⟨w.heap.size + 1, 0, none⟩) (by simp) (.int .i64 s0)).setCell (p := ⟨w.heap.size + 1, 1, none⟩) (by simp) (.int .i64 s1)
    have HB4 := Lib.hid (And.intro B4 bl)
    clear B4 bl B3 bl2 HB1
    unfold spV
    go_wp2_with fail
    obtain ⟨B4, bl⟩ := HB4.out
    generalize (w2.setCell _ _).setCell _ _ = W9 at B4 bl ⊢
    have r0 := B4.cells 0 _ rfl
    have r1 := B4.cells 1 _ rfl
    exact bodyPost_ret (v := .agg #[.int .i64 s0, .int .i64 s1]) (by simp [results, Tryz.results115, go_sem, r0, r1]) rfl ⟨by rw [HE.out]; rfl, bl⟩
end Go.Proofs.YtcdjoegihmfanaaGreat
namespace Go.Proofs.YtcdjoegihmfanaaGreat
open Go.RowKit Go.Shelf
set_option linter.unusedVariables false
/-- The function value decides p on the elements of a list, and changes nothing. -/
def Decides {α : Type} (g : Nat) (lb : Array Value) (enc : α → Value) (p : α → Bool) (t : List α) (w : World) : Prop :=
  ∀ (W : World) (x : α), x ∈ t → Below w.heap.size w W → Calls Tryz.prog g (#[enc x] ++ lb) W fun e w' => e = .returned (.bool (p x)) ∧ Below W.heap.size W w'
def notP {α : Type} (p : α → Bool) (x : α) : Bool := !p x
theorem all_notP {α : Type} (p : α → Bool) (t : List α) : t.all p = !(t.any (notP p)) := by
  induction t with
  | nil => rfl
  | cons a t ih => simp only [List.all_cons, List.any_cons, ih, notP, Bool.not_or, Bool.not_not]
theorem Decides.next {α : Type} {g : Nat} {lb : Array Value} {enc : α → Value} {p : α → Bool} {t : List α} {w w' : World} (h : Decides g lb enc p t w) (hb : Below w.heap.size w w') : Decides g lb enc p t w' :=
  fun W x hx hB => h W x hx (hb.trans (hB.mono hb.size))
abbrev Enters (g : Nat) : Prop := ∀ args w, (callFunc g args).run Tryz.prog w = .ok (.enter g args) w
def itV (p : Int × Int) : Value := .agg #[.int .i64 p.1, .int .i64 p.2]
def slpV (p : Int × Int × Int) : Value := .agg #[.int .i64 p.1, .int .i64 p.2.1, .int .i64 p.2.2]
theorem Rd.oint {w : World} {B : Nat} {A : Option Addr} {t : List Int} {k : Nat} (h : Rd w B A (ints t)) (hk : k < t.length) : ∃ b off, A = some ⟨b, off, none⟩ ∧ b < B ∧ w.cell? ⟨b, off + k, none⟩ = some (.int .i64 t[k]) := h.int hk
set_option maxHeartbeats 1000000 in
theorem indexProof_any (A : Option Addr) (c : Nat) (t : List (Pr)) (g : Nat) (lb : Array Value) (eg : Enters g) (p : Pr → Bool) (w : World) (hr : Rd w w.heap.size A (prs t)) (hl : t.length ≤ 1000) (hp : Decides g lb prV p t w) :
    Calls Tryz.prog 108 #[.slice A t.length c, .func (.func g) #[] lb] w (Found (t.any p) w) := by
  have HP := Lib.hid hp
  clear hp
  go_enter Tryz.func108, Tryz.ntmps108
  go_wp2_with fail
  go_loopw [5, 8] (fun _ i wr => ∃ k : Nat, k ≤ t.length ∧ i = .int .i64 k ∧ (t.take k).any p = false ∧ Below w.heap.size w wr) (fun _ i _ => t.length - (intOf i).toNat)
  case atStart => exact ⟨0, Nat.zero_le _, rfl, by simp, Below.refl _ _⟩
  case round =>
    obtain ⟨k, hk, rfl, hno, hbw⟩ := hrel
    by_cases hlt : k < t.length
    · obtain ⟨b, off, rfl, hbb, hc1, hc2, hc3, hc4⟩ := (hr.below hbw).proof hlt
      have hcall := HP.out wr t[k] (List.getElem_mem hlt) hbw
      have hs := any_take_succ p t k hlt
      generalize hy : t[k] = y at hcall hs hc1 hc2 hc3 hc4
      have HY := Lib.hid hy
      clear hy
      unfold prV at hcall
      cases hq : p y with
      | true =>
        rw [hq] at hcall
        have hs1 : t.any p = true := List.any_eq_true.2 ⟨t[k], List.getElem_mem _, by rw [HY.out]; exact hq⟩
        have hs2 := Lib.hid hs1
        have HQ := Lib.hid hq
        clear hs hs1 hq
        go_wp2_with (go_at_fn g; refine hcall.mono ?_; rintro e w1 ⟨rfl, hb1⟩)
        go_ret
        exact ⟨k, rfl, by rw [hs2.out]; simp, hbw.trans (hb1.mono hbw.size)⟩
      | false =>
        rw [hq] at hcall
        have hs1 : (t.take (k + 1)).any p = false := by rw [hs, hno, hq]; rfl
        have hs2 := Lib.hid hs1
        have HQ := Lib.hid hq
        clear hs hs1 hq
        go_wp2_with (go_at_fn g; refine hcall.mono ?_; rintro e w1 ⟨rfl, hb1⟩)
        go_roundw
        case rel => exact ⟨k + 1, by omega, by go_num, hs2.out, hbw.trans (hb1.mono hbw.size)⟩
        case measure => simp [intOf]; omega
    · have hs1 : t.any p = false := by rwa [List.take_of_length_le (by omega)] at hno
      have hs2 := Lib.hid hs1
      clear hno hs1
      go_wp2_with fail
      go_ret
      exact ⟨-1, rfl, by rw [hs2.out]; rfl, hbw⟩
theorem containsProof_any (A : Option Addr) (c : Nat) (t : List (Pr)) (g : Nat) (lb : Array Value) (eg : Enters g) (p : Pr → Bool) (w : World) (hr : Rd w w.heap.size A (prs t)) (hl : t.length ≤ 1000) (hp : Decides g lb prV p t w) :
    Calls Tryz.prog 33 #[.slice A t.length c, .func (.func g) #[] lb] w fun e w' => e = .returned (.bool (t.any p)) ∧ Below w.heap.size w w' := by
  have H := Lib.hid (indexProof_any A c t g lb eg p w hr hl hp)
  clear hp
  go_enter Tryz.func33, Tryz.ntmps33
  go_wp2_with fail
  refine H.out.mono ?_
  rintro e w1 ⟨i, rfl, hi, hb1⟩
  go_wp2_with fail
  go_ret
  exact ⟨rfl, hb1⟩
theorem everyNotProof_any (g : Nat) (lb : Array Value) (eg : Enters g) (p : Pr → Bool) (t : List (Pr)) (a : Nat) (w : World) (hp : Decides g lb prV p t w) (ha : w.cell? ⟨a, 0, none⟩ = some (.func (.func g) #[] lb)) (hb : a < w.heap.size) :
    Decides 172 #[.pointer (some ⟨a, 0, none⟩)] prV (notP p) t w := by
  intro W x hx hB
  have hcall := fun W' (h : Below W.heap.size W W') => Lib.hid (hp W' x hx (hB.trans (h.mono hB.size)))
  have ha' := hB.at_ hb ha
  have hb' := Nat.lt_of_lt_of_le hb hB.size
  have hne : a ≠ W.heap.size := by omega
  clear hp ha
  have e1 : notP p x = !p x := rfl
  rw [e1]
  clear e1
  generalize hq : p x = q at hcall ⊢
  clear hq
  unfold prV at hcall ⊢
  show Calls Tryz.prog 172 #[_, .pointer (some ⟨a, 0, none⟩)] W _
  go_enter Tryz.func172, Tryz.ntmps172
  go_wp2_with (go_at_fn g; refine (hcall _ (by go_grown)).out.mono ?_; rintro e w1 ⟨rfl, hb1⟩)
  go_ret
  exact ⟨rfl, ((Below.refl _ _).alloc (Nat.le_refl _) _).trans (hb1.mono (by simp))⟩
theorem everyProof_any (A : Option Addr) (c : Nat) (t : List (Pr)) (g : Nat) (lb : Array Value) (eg : Enters g) (p : Pr → Bool) (w : World) (hr : Rd w w.heap.size A (prs t)) (hl : t.length ≤ 1000) (hp : Decides g lb prV p t w) :
    Calls Tryz.prog 120 #[.slice A t.length c, .func (.func g) #[] lb] w fun e w' => e = .returned (.bool (t.all p)) ∧ Below w.heap.size w w' := by
  have hb0 := below_new w (.cells #[.func (.func g) #[] lb] 63)
  have H := Lib.hid (containsProof_any A c t 172 #[.pointer (some ⟨w.heap.size, 0, none⟩)] (enters_of Tryz.func172 (by kernel_rfl) rfl) (notP p) (w.alloc (.cells #[.func (.func g) #[] lb] 63)) (hr.alloc _) hl (everyNotProof_any g lb eg p t w.heap.size (w.alloc (.cells #[.func (.func g) #[] lb] 63)) (hp.next hb0) (by simp) (by simp)))
  have hn := all_notP p t
  have HN := Lib.hid hn
  have HB0 := Lib.hid hb0
  clear hp hb0 hn
  go_enter Tryz.func120, Tryz.ntmps120
  go_wp2_with fail
  refine H.out.mono ?_
  rintro e w1 ⟨rfl, hb1⟩
  go_wp2_with fail
  go_ret
  exact ⟨ret_bool HN.out.symm, HB0.out.trans (hb1.mono HB0.out.size)⟩
set_option maxHeartbeats 1000000 in
theorem indexTrip_any (A : Option Addr) (c : Nat) (t : List (Tr)) (g : Nat) (lb : Array Value) (eg : Enters g) (p : Tr → Bool) (w : World) (hr : Rd w w.heap.size A (trs t)) (hl : t.length ≤ 1000) (hp : Decides g lb trV p t w) :
    Calls Tryz.prog 202 #[.slice A t.length c, .func (.func g) #[] lb] w (Found (t.any p) w) := by
  have HP := Lib.hid hp
  clear hp
  go_enter Tryz.func202, Tryz.ntmps202
  go_wp2_with fail
  go_loopw [5, 8] (fun _ i wr => ∃ k : Nat, k ≤ t.length ∧ i = .int .i64 k ∧ (t.take k).any p = false ∧ Below w.heap.size w wr) (fun _ i _ => t.length - (intOf i).toNat)
  case atStart => exact ⟨0, Nat.zero_le _, rfl, by simp, Below.refl _ _⟩
  case round =>
    obtain ⟨k, hk, rfl, hno, hbw⟩ := hrel
    by_cases hlt : k < t.length
    · obtain ⟨b, off, rfl, hbb, hc1, hc2, hc3, hc4, hc5, hc6, hc7⟩ := (hr.below hbw).tr hlt
      have hcall := HP.out wr t[k] (List.getElem_mem hlt) hbw
      have hs := any_take_succ p t k hlt
      generalize hy : t[k] = y at hcall hs hc1 hc2 hc3 hc4 hc5 hc6 hc7
      have HY := Lib.hid hy
      clear hy
      unfold trV at hcall
      cases hq : p y with
      | true =>
        rw [hq] at hcall
        have hs1 : t.any p = true := List.any_eq_true.2 ⟨t[k], List.getElem_mem _, by rw [HY.out]; exact hq⟩
        have hs2 := Lib.hid hs1
        have HQ := Lib.hid hq
        clear hs hs1 hq
        go_wp2_with (go_at_fn g; refine hcall.mono ?_; rintro e w1 ⟨rfl, hb1⟩)
        go_ret
        exact ⟨k, rfl, by rw [hs2.out]; simp, hbw.trans (hb1.mono hbw.size)⟩
      | false =>
        rw [hq] at hcall
        have hs1 : (t.take (k + 1)).any p = false := by rw [hs, hno, hq]; rfl
        have hs2 := Lib.hid hs1
        have HQ := Lib.hid hq
        clear hs hs1 hq
        go_wp2_with (go_at_fn g; refine hcall.mono ?_; rintro e w1 ⟨rfl, hb1⟩)
        go_roundw
        case rel => exact ⟨k + 1, by omega, by go_num, hs2.out, hbw.trans (hb1.mono hbw.size)⟩
        case measure => simp [intOf]; omega
    · have hs1 : t.any p = false := by rwa [List.take_of_length_le (by omega)] at hno
      have hs2 := Lib.hid hs1
      clear hno hs1
      go_wp2_with fail
      go_ret
      exact ⟨-1, rfl, by rw [hs2.out]; rfl, hbw⟩
theorem containsTrip_any (A : Option Addr) (c : Nat) (t : List (Tr)) (g : Nat) (lb : Array Value) (eg : Enters g) (p : Tr → Bool) (w : World) (hr : Rd w w.heap.size A (trs t)) (hl : t.length ≤ 1000) (hp : Decides g lb trV p t w) :
    Calls Tryz.prog 173 #[.slice A t.length c, .func (.func g) #[] lb] w fun e w' => e = .returned (.bool (t.any p)) ∧ Below w.heap.size w w' := by
  have H := Lib.hid (indexTrip_any A c t g lb eg p w hr hl hp)
  clear hp
  go_enter Tryz.func173, Tryz.ntmps173
  go_wp2_with fail
  refine H.out.mono ?_
  rintro e w1 ⟨i, rfl, hi, hb1⟩
  go_wp2_with fail
  go_ret
  exact ⟨rfl, hb1⟩
theorem everyNotTrip_any (g : Nat) (lb : Array Value) (eg : Enters g) (p : Tr → Bool) (t : List (Tr)) (a : Nat) (w : World) (hp : Decides g lb trV p t w) (ha : w.cell? ⟨a, 0, none⟩ = some (.func (.func g) #[] lb)) (hb : a < w.heap.size) :
    Decides 174 #[.pointer (some ⟨a, 0, none⟩)] trV (notP p) t w := by
  intro W x hx hB
  have hcall := fun W' (h : Below W.heap.size W W') => Lib.hid (hp W' x hx (hB.trans (h.mono hB.size)))
  have ha' := hB.at_ hb ha
  have hb' := Nat.lt_of_lt_of_le hb hB.size
  have hne : a ≠ W.heap.size := by omega
  clear hp ha
  have e1 : notP p x = !p x := rfl
  rw [e1]
  clear e1
  generalize hq : p x = q at hcall ⊢
  clear hq
  unfold trV at hcall ⊢
  show Calls Tryz.prog 174 #[_, .pointer (some ⟨a, 0, none⟩)] W _
  go_enter Tryz.func174, Tryz.ntmps174
  go_wp2_with (go_at_fn g; refine (hcall _ (by go_grown)).out.mono ?_; rintro e w1 ⟨rfl, hb1⟩)
  go_ret
  exact ⟨rfl, ((Below.refl _ _).alloc (Nat.le_refl _) _).trans (hb1.mono (by simp))⟩
theorem everyTrip_any (A : Option Addr) (c : Nat) (t : List (Tr)) (g : Nat) (lb : Array Value) (eg : Enters g) (p : Tr → Bool) (w : World) (hr : Rd w w.heap.size A (trs t)) (hl : t.length ≤ 1000) (hp : Decides g lb trV p t w) :
    Calls Tryz.prog 122 #[.slice A t.length c, .func (.func g) #[] lb] w fun e w' => e = .returned (.bool (t.all p)) ∧ Below w.heap.size w w' := by
  have hb0 := below_new w (.cells #[.func (.func g) #[] lb] 190)
  have H := Lib.hid (containsTrip_any A c t 174 #[.pointer (some ⟨w.heap.size, 0, none⟩)] (enters_of Tryz.func174 (by kernel_rfl) rfl) (notP p) (w.alloc (.cells #[.func (.func g) #[] lb] 190)) (hr.alloc _) hl (everyNotTrip_any g lb eg p t w.heap.size (w.alloc (.cells #[.func (.func g) #[] lb] 190)) (hp.next hb0) (by simp) (by simp)))
  have hn := all_notP p t
  have HN := Lib.hid hn
  have HB0 := Lib.hid hb0
  clear hp hb0 hn
  go_enter Tryz.func122, Tryz.ntmps122
  go_wp2_with fail
  refine H.out.mono ?_
  rintro e w1 ⟨rfl, hb1⟩
  go_wp2_with fail
  go_ret
  exact ⟨ret_bool HN.out.symm, HB0.out.trans (hb1.mono HB0.out.size)⟩
set_option maxHeartbeats 1000000 in
theorem indexPair_any (A : Option Addr) (c : Nat) (t : List (Int × Int)) (g : Nat) (lb : Array Value) (eg : Enters g) (p : Int × Int → Bool) (w : World) (hr : Rd w w.heap.size A (pairs t)) (hl : t.length ≤ 1000) (hp : Decides g lb itV p t w) :
    Calls Tryz.prog 205 #[.slice A t.length c, .func (.func g) #[] lb] w (Found (t.any p) w) := by
  have HP := Lib.hid hp
  clear hp
  go_enter Tryz.func205, Tryz.ntmps205
  go_wp2_with fail
  go_loopw [5, 8] (fun _ i wr => ∃ k : Nat, k ≤ t.length ∧ i = .int .i64 k ∧ (t.take k).any p = false ∧ Below w.heap.size w wr) (fun _ i _ => t.length - (intOf i).toNat)
  case atStart => exact ⟨0, Nat.zero_le _, rfl, by simp, Below.refl _ _⟩
  case round =>
    obtain ⟨k, hk, rfl, hno, hbw⟩ := hrel
    by_cases hlt : k < t.length
    · obtain ⟨b, off, rfl, hbb, hc1, hc2⟩ := (hr.below hbw).pair hlt
      have hcall := HP.out wr t[k] (List.getElem_mem hlt) hbw
      have hs := any_take_succ p t k hlt
      generalize hy : t[k] = y at hcall hs hc1 hc2
      have HY := Lib.hid hy
      clear hy
      unfold itV at hcall
      cases hq : p y with
      | true =>
        rw [hq] at hcall
        have hs1 : t.any p = true := List.any_eq_true.2 ⟨t[k], List.getElem_mem _, by rw [HY.out]; exact hq⟩
        have hs2 := Lib.hid hs1
        have HQ := Lib.hid hq
        clear hs hs1 hq
        go_wp2_with (go_at_fn g; refine hcall.mono ?_; rintro e w1 ⟨rfl, hb1⟩)
        go_ret
        exact ⟨k, rfl, by rw [hs2.out]; simp, hbw.trans (hb1.mono hbw.size)⟩
      | false =>
        rw [hq] at hcall
        have hs1 : (t.take (k + 1)).any p = false := by rw [hs, hno, hq]; rfl
        have hs2 := Lib.hid hs1
        have HQ := Lib.hid hq
        clear hs hs1 hq
        go_wp2_with (go_at_fn g; refine hcall.mono ?_; rintro e w1 ⟨rfl, hb1⟩)
        go_roundw
        case rel => exact ⟨k + 1, by omega, by go_num, hs2.out, hbw.trans (hb1.mono hbw.size)⟩
        case measure => simp [intOf]; omega
    · have hs1 : t.any p = false := by rwa [List.take_of_length_le (by omega)] at hno
      have hs2 := Lib.hid hs1
      clear hno hs1
      go_wp2_with fail
      go_ret
      exact ⟨-1, rfl, by rw [hs2.out]; rfl, hbw⟩
theorem containsPair_any (A : Option Addr) (c : Nat) (t : List (Int × Int)) (g : Nat) (lb : Array Value) (eg : Enters g) (p : Int × Int → Bool) (w : World) (hr : Rd w w.heap.size A (pairs t)) (hl : t.length ≤ 1000) (hp : Decides g lb itV p t w) :
    Calls Tryz.prog 177 #[.slice A t.length c, .func (.func g) #[] lb] w fun e w' => e = .returned (.bool (t.any p)) ∧ Below w.heap.size w w' := by
  have H := Lib.hid (indexPair_any A c t g lb eg p w hr hl hp)
  clear hp
  go_enter Tryz.func177, Tryz.ntmps177
  go_wp2_with fail
  refine H.out.mono ?_
  rintro e w1 ⟨i, rfl, hi, hb1⟩
  go_wp2_with fail
  go_ret
  exact ⟨rfl, hb1⟩
theorem everyNotPair_any (g : Nat) (lb : Array Value) (eg : Enters g) (p : Int × Int → Bool) (t : List (Int × Int)) (a : Nat) (w : World) (hp : Decides g lb itV p t w) (ha : w.cell? ⟨a, 0, none⟩ = some (.func (.func g) #[] lb)) (hb : a < w.heap.size) :
    Decides 178 #[.pointer (some ⟨a, 0, none⟩)] itV (notP p) t w := by
  intro W x hx hB
  have hcall := fun W' (h : Below W.heap.size W W') => Lib.hid (hp W' x hx (hB.trans (h.mono hB.size)))
  have ha' := hB.at_ hb ha
  have hb' := Nat.lt_of_lt_of_le hb hB.size
  have hne : a ≠ W.heap.size := by omega
  clear hp ha
  have e1 : notP p x = !p x := rfl
  rw [e1]
  clear e1
  generalize hq : p x = q at hcall ⊢
  clear hq
  unfold itV at hcall ⊢
  show Calls Tryz.prog 178 #[_, .pointer (some ⟨a, 0, none⟩)] W _
  go_enter Tryz.func178, Tryz.ntmps178
  go_wp2_with (go_at_fn g; refine (hcall _ (by go_grown)).out.mono ?_; rintro e w1 ⟨rfl, hb1⟩)
  go_ret
  exact ⟨rfl, ((Below.refl _ _).alloc (Nat.le_refl _) _).trans (hb1.mono (by simp))⟩
theorem everyPair_any (A : Option Addr) (c : Nat) (t : List (Int × Int)) (g : Nat) (lb : Array Value) (eg : Enters g) (p : Int × Int → Bool) (w : World) (hr : Rd w w.heap.size A (pairs t)) (hl : t.length ≤ 1000) (hp : Decides g lb itV p t w) :
    Calls Tryz.prog 136 #[.slice A t.length c, .func (.func g) #[] lb] w fun e w' => e = .returned (.bool (t.all p)) ∧ Below w.heap.size w w' := by
  have hb0 := below_new w (.cells #[.func (.func g) #[] lb] 202)
  have H := Lib.hid (containsPair_any A c t 178 #[.pointer (some ⟨w.heap.size, 0, none⟩)] (enters_of Tryz.func178 (by kernel_rfl) rfl) (notP p) (w.alloc (.cells #[.func (.func g) #[] lb] 202)) (hr.alloc _) hl (everyNotPair_any g lb eg p t w.heap.size (w.alloc (.cells #[.func (.func g) #[] lb] 202)) (hp.next hb0) (by simp) (by simp)))
  have hn := all_notP p t
  have HN := Lib.hid hn
  have HB0 := Lib.hid hb0
  clear hp hb0 hn
  go_enter Tryz.func136, Tryz.ntmps136
  go_wp2_with fail
  refine H.out.mono ?_
  rintro e w1 ⟨rfl, hb1⟩
  go_wp2_with fail
  go_ret
  exact ⟨ret_bool HN.out.symm, HB0.out.trans (hb1.mono HB0.out.size)⟩
set_option maxHeartbeats 1000000 in
theorem indexChange_any (A : Option Addr) (c : Nat) (t : List (Int × Int)) (g : Nat) (lb : Array Value) (eg : Enters g) (p : Int × Int → Bool) (w : World) (hr : Rd w w.heap.size A (pairs t)) (hl : t.length ≤ 1000) (hp : Decides g lb itV p t w) :
    Calls Tryz.prog 152 #[.slice A t.length c, .func (.func g) #[] lb] w (Found (t.any p) w) := by
  have HP := Lib.hid hp
  clear hp
  go_enter Tryz.func152, Tryz.ntmps152
  go_wp2_with fail
  go_loopw [5, 8] (fun _ i wr => ∃ k : Nat, k ≤ t.length ∧ i = .int .i64 k ∧ (t.take k).any p = false ∧ Below w.heap.size w wr) (fun _ i _ => t.length - (intOf i).toNat)
  case atStart => exact ⟨0, Nat.zero_le _, rfl, by simp, Below.refl _ _⟩
  case round =>
    obtain ⟨k, hk, rfl, hno, hbw⟩ := hrel
    by_cases hlt : k < t.length
    · obtain ⟨b, off, rfl, hbb, hc1, hc2⟩ := (hr.below hbw).pair hlt
      have hcall := HP.out wr t[k] (List.getElem_mem hlt) hbw
      have hs := any_take_succ p t k hlt
      generalize hy : t[k] = y at hcall hs hc1 hc2
      have HY := Lib.hid hy
      clear hy
      unfold itV at hcall
      cases hq : p y with
      | true =>
        rw [hq] at hcall
        have hs1 : t.any p = true := List.any_eq_true.2 ⟨t[k], List.getElem_mem _, by rw [HY.out]; exact hq⟩
        have hs2 := Lib.hid hs1
        have HQ := Lib.hid hq
        clear hs hs1 hq
        go_wp2_with (go_at_fn g; refine hcall.mono ?_; rintro e w1 ⟨rfl, hb1⟩)
        go_ret
        exact ⟨k, rfl, by rw [hs2.out]; simp, hbw.trans (hb1.mono hbw.size)⟩
      | false =>
        rw [hq] at hcall
        have hs1 : (t.take (k + 1)).any p = false := by rw [hs, hno, hq]; rfl
        have hs2 := Lib.hid hs1
        have HQ := Lib.hid hq
        clear hs hs1 hq
        go_wp2_with (go_at_fn g; refine hcall.mono ?_; rintro e w1 ⟨rfl, hb1⟩)
        go_roundw
        case rel => exact ⟨k + 1, by omega, by go_num, hs2.out, hbw.trans (hb1.mono hbw.size)⟩
        case measure => simp [intOf]; omega
    · have hs1 : t.any p = false := by rwa [List.take_of_length_le (by omega)] at hno
      have hs2 := Lib.hid hs1
      clear hno hs1
      go_wp2_with fail
      go_ret
      exact ⟨-1, rfl, by rw [hs2.out]; rfl, hbw⟩
theorem containsChange_any (A : Option Addr) (c : Nat) (t : List (Int × Int)) (g : Nat) (lb : Array Value) (eg : Enters g) (p : Int × Int → Bool) (w : World) (hr : Rd w w.heap.size A (pairs t)) (hl : t.length ≤ 1000) (hp : Decides g lb itV p t w) :
    Calls Tryz.prog 81 #[.slice A t.length c, .func (.func g) #[] lb] w fun e w' => e = .returned (.bool (t.any p)) ∧ Below w.heap.size w w' := by
  have H := Lib.hid (indexChange_any A c t g lb eg p w hr hl hp)
  clear hp
  go_enter Tryz.func81, Tryz.ntmps81
  go_wp2_with fail
  refine H.out.mono ?_
  rintro e w1 ⟨i, rfl, hi, hb1⟩
  go_wp2_with fail
  go_ret
  exact ⟨rfl, hb1⟩
theorem everyNotChange_any (g : Nat) (lb : Array Value) (eg : Enters g) (p : Int × Int → Bool) (t : List (Int × Int)) (a : Nat) (w : World) (hp : Decides g lb itV p t w) (ha : w.cell? ⟨a, 0, none⟩ = some (.func (.func g) #[] lb)) (hb : a < w.heap.size) :
    Decides 199 #[.pointer (some ⟨a, 0, none⟩)] itV (notP p) t w := by
  intro W x hx hB
  have hcall := fun W' (h : Below W.heap.size W W') => Lib.hid (hp W' x hx (hB.trans (h.mono hB.size)))
  have ha' := hB.at_ hb ha
  have hb' := Nat.lt_of_lt_of_le hb hB.size
  have hne : a ≠ W.heap.size := by omega
  clear hp ha
  have e1 : notP p x = !p x := rfl
  rw [e1]
  clear e1
  generalize hq : p x = q at hcall ⊢
  clear hq
  unfold itV at hcall ⊢
  show Calls Tryz.prog 199 #[_, .pointer (some ⟨a, 0, none⟩)] W _
  go_enter Tryz.func199, Tryz.ntmps199
  go_wp2_with (go_at_fn g; refine (hcall _ (by go_grown)).out.mono ?_; rintro e w1 ⟨rfl, hb1⟩)
  go_ret
  exact ⟨rfl, ((Below.refl _ _).alloc (Nat.le_refl _) _).trans (hb1.mono (by simp))⟩
theorem everyChange_any (A : Option Addr) (c : Nat) (t : List (Int × Int)) (g : Nat) (lb : Array Value) (eg : Enters g) (p : Int × Int → Bool) (w : World) (hr : Rd w w.heap.size A (pairs t)) (hl : t.length ≤ 1000) (hp : Decides g lb itV p t w) :
    Calls Tryz.prog 160 #[.slice A t.length c, .func (.func g) #[] lb] w fun e w' => e = .returned (.bool (t.all p)) ∧ Below w.heap.size w w' := by
  have hb0 := below_new w (.cells #[.func (.func g) #[] lb] 134)
  have H := Lib.hid (containsChange_any A c t 199 #[.pointer (some ⟨w.heap.size, 0, none⟩)] (enters_of Tryz.func199 (by kernel_rfl) rfl) (notP p) (w.alloc (.cells #[.func (.func g) #[] lb] 134)) (hr.alloc _) hl (everyNotChange_any g lb eg p t w.heap.size (w.alloc (.cells #[.func (.func g) #[] lb] 134)) (hp.next hb0) (by simp) (by simp)))
  have hn := all_notP p t
  have HN := Lib.hid hn
  have HB0 := Lib.hid hb0
  clear hp hb0 hn
  go_enter Tryz.func160, Tryz.ntmps160
  go_wp2_with fail
  refine H.out.mono ?_
  rintro e w1 ⟨rfl, hb1⟩
  go_wp2_with fail
  go_ret
  exact ⟨ret_bool HN.out.symm, HB0.out.trans (hb1.mono HB0.out.size)⟩
set_option maxHeartbeats 1000000 in
theorem indexSlip_any (A : Option Addr) (c : Nat) (t : List (Int × Int × Int)) (g : Nat) (lb : Array Value) (eg : Enters g) (p : Int × Int × Int → Bool) (w : World) (hr : Rd w w.heap.size A (trips t)) (hl : t.length ≤ 1000) (hp : Decides g lb slpV p t w) :
    Calls Tryz.prog 221 #[.slice A t.length c, .func (.func g) #[] lb] w (Found (t.any p) w) := by
  have HP := Lib.hid hp
  clear hp
  go_enter Tryz.func221, Tryz.ntmps221
  go_wp2_with fail
  go_loopw [5, 8] (fun _ i wr => ∃ k : Nat, k ≤ t.length ∧ i = .int .i64 k ∧ (t.take k).any p = false ∧ Below w.heap.size w wr) (fun _ i _ => t.length - (intOf i).toNat)
  case atStart => exact ⟨0, Nat.zero_le _, rfl, by simp, Below.refl _ _⟩
  case round =>
    obtain ⟨k, hk, rfl, hno, hbw⟩ := hrel
    by_cases hlt : k < t.length
    · obtain ⟨b, off, rfl, hbb, hc1, hc2, hc3⟩ := (hr.below hbw).trip hlt
      have hcall := HP.out wr t[k] (List.getElem_mem hlt) hbw
      have hs := any_take_succ p t k hlt
      generalize hy : t[k] = y at hcall hs hc1 hc2 hc3
      have HY := Lib.hid hy
      clear hy
      unfold slpV at hcall
      cases hq : p y with
      | true =>
        rw [hq] at hcall
        have hs1 : t.any p = true := List.any_eq_true.2 ⟨t[k], List.getElem_mem _, by rw [HY.out]; exact hq⟩
        have hs2 := Lib.hid hs1
        have HQ := Lib.hid hq
        clear hs hs1 hq
        go_wp2_with (go_at_fn g; refine hcall.mono ?_; rintro e w1 ⟨rfl, hb1⟩)
        go_ret
        exact ⟨k, rfl, by rw [hs2.out]; simp, hbw.trans (hb1.mono hbw.size)⟩
      | false =>
        rw [hq] at hcall
        have hs1 : (t.take (k + 1)).any p = false := by rw [hs, hno, hq]; rfl
        have hs2 := Lib.hid hs1
        have HQ := Lib.hid hq
        clear hs hs1 hq
        go_wp2_with (go_at_fn g; refine hcall.mono ?_; rintro e w1 ⟨rfl, hb1⟩)
        go_roundw
        case rel => exact ⟨k + 1, by omega, by go_num, hs2.out, hbw.trans (hb1.mono hbw.size)⟩
        case measure => simp [intOf]; omega
    · have hs1 : t.any p = false := by rwa [List.take_of_length_le (by omega)] at hno
      have hs2 := Lib.hid hs1
      clear hno hs1
      go_wp2_with fail
      go_ret
      exact ⟨-1, rfl, by rw [hs2.out]; rfl, hbw⟩
theorem containsSlip_any (A : Option Addr) (c : Nat) (t : List (Int × Int × Int)) (g : Nat) (lb : Array Value) (eg : Enters g) (p : Int × Int × Int → Bool) (w : World) (hr : Rd w w.heap.size A (trips t)) (hl : t.length ≤ 1000) (hp : Decides g lb slpV p t w) :
    Calls Tryz.prog 203 #[.slice A t.length c, .func (.func g) #[] lb] w fun e w' => e = .returned (.bool (t.any p)) ∧ Below w.heap.size w w' := by
  have H := Lib.hid (indexSlip_any A c t g lb eg p w hr hl hp)
  clear hp
  go_enter Tryz.func203, Tryz.ntmps203
  go_wp2_with fail
  refine H.out.mono ?_
  rintro e w1 ⟨i, rfl, hi, hb1⟩
  go_wp2_with fail
  go_ret
  exact ⟨rfl, hb1⟩
theorem everyNotSlip_any (g : Nat) (lb : Array Value) (eg : Enters g) (p : Int × Int × Int → Bool) (t : List (Int × Int × Int)) (a : Nat) (w : World) (hp : Decides g lb slpV p t w) (ha : w.cell? ⟨a, 0, none⟩ = some (.func (.func g) #[] lb)) (hb : a < w.heap.size) :
    Decides 204 #[.pointer (some ⟨a, 0, none⟩)] slpV (notP p) t w := by
  intro W x hx hB
  have hcall := fun W' (h : Below W.heap.size W W') => Lib.hid (hp W' x hx (hB.trans (h.mono hB.size)))
  have ha' := hB.at_ hb ha
  have hb' := Nat.lt_of_lt_of_le hb hB.size
  have hne : a ≠ W.heap.size := by omega
  clear hp ha
  have e1 : notP p x = !p x := rfl
  rw [e1]
  clear e1
  generalize hq : p x = q at hcall ⊢
  clear hq
  unfold slpV at hcall ⊢
  show Calls Tryz.prog 204 #[_, .pointer (some ⟨a, 0, none⟩)] W _
  go_enter Tryz.func204, Tryz.ntmps204
  go_wp2_with (go_at_fn g; refine (hcall _ (by go_grown)).out.mono ?_; rintro e w1 ⟨rfl, hb1⟩)
  go_ret
  exact ⟨rfl, ((Below.refl _ _).alloc (Nat.le_refl _) _).trans (hb1.mono (by simp))⟩
theorem everySlip_any (A : Option Addr) (c : Nat) (t : List (Int × Int × Int)) (g : Nat) (lb : Array Value) (eg : Enters g) (p : Int × Int × Int → Bool) (w : World) (hr : Rd w w.heap.size A (trips t)) (hl : t.length ≤ 1000) (hp : Decides g lb slpV p t w) :
    Calls Tryz.prog 175 #[.slice A t.length c, .func (.func g) #[] lb] w fun e w' => e = .returned (.bool (t.all p)) ∧ Below w.heap.size w w' := by
  have hb0 := below_new w (.cells #[.func (.func g) #[] lb] 242)
  have H := Lib.hid (containsSlip_any A c t 204 #[.pointer (some ⟨w.heap.size, 0, none⟩)] (enters_of Tryz.func204 (by kernel_rfl) rfl) (notP p) (w.alloc (.cells #[.func (.func g) #[] lb] 242)) (hr.alloc _) hl (everyNotSlip_any g lb eg p t w.heap.size (w.alloc (.cells #[.func (.func g) #[] lb] 242)) (hp.next hb0) (by simp) (by simp)))
  have hn := all_notP p t
  have HN := Lib.hid hn
  have HB0 := Lib.hid hb0
  clear hp hb0 hn
  go_enter Tryz.func175, Tryz.ntmps175
  go_wp2_with fail
  refine H.out.mono ?_
  rintro e w1 ⟨rfl, hb1⟩
  go_wp2_with fail
  go_ret
  exact ⟨ret_bool HN.out.symm, HB0.out.trans (hb1.mono HB0.out.size)⟩
set_option maxHeartbeats 1000000 in
theorem indexInt_any (A : Option Addr) (c : Nat) (t : List (Int)) (g : Nat) (lb : Array Value) (eg : Enters g) (p : Int → Bool) (w : World) (hr : Rd w w.heap.size A (ints t)) (hl : t.length ≤ 1000) (hp : Decides g lb (Value.int .i64) p t w) :
    Calls Tryz.prog 186 #[.slice A t.length c, .func (.func g) #[] lb] w (Found (t.any p) w) := by
  have HP := Lib.hid hp
  clear hp
  go_enter Tryz.func186, Tryz.ntmps186
  go_wp2_with fail
  go_loopw [5, 8] (fun _ i wr => ∃ k : Nat, k ≤ t.length ∧ i = .int .i64 k ∧ (t.take k).any p = false ∧ Below w.heap.size w wr) (fun _ i _ => t.length - (intOf i).toNat)
  case atStart => exact ⟨0, Nat.zero_le _, rfl, by simp, Below.refl _ _⟩
  case round =>
    obtain ⟨k, hk, rfl, hno, hbw⟩ := hrel
    by_cases hlt : k < t.length
    · obtain ⟨b, off, rfl, hbb, hc1⟩ := (hr.below hbw).oint hlt
      have hcall := HP.out wr t[k] (List.getElem_mem hlt) hbw
      have hs := any_take_succ p t k hlt
      generalize hy : t[k] = y at hcall hs hc1
      have HY := Lib.hid hy
      clear hy
      cases hq : p y with
      | true =>
        rw [hq] at hcall
        have hs1 : t.any p = true := List.any_eq_true.2 ⟨t[k], List.getElem_mem _, by rw [HY.out]; exact hq⟩
        have hs2 := Lib.hid hs1
        have HQ := Lib.hid hq
        clear hs hs1 hq
        go_wp2_with (go_at_fn g; refine hcall.mono ?_; rintro e w1 ⟨rfl, hb1⟩)
        go_ret
        exact ⟨k, rfl, by rw [hs2.out]; simp, hbw.trans (hb1.mono hbw.size)⟩
      | false =>
        rw [hq] at hcall
        have hs1 : (t.take (k + 1)).any p = false := by rw [hs, hno, hq]; rfl
        have hs2 := Lib.hid hs1
        have HQ := Lib.hid hq
        clear hs hs1 hq
        go_wp2_with (go_at_fn g; refine hcall.mono ?_; rintro e w1 ⟨rfl, hb1⟩)
        go_roundw
        case rel => exact ⟨k + 1, by omega, by go_num, hs2.out, hbw.trans (hb1.mono hbw.size)⟩
        case measure => simp [intOf]; omega
    · have hs1 : t.any p = false := by rwa [List.take_of_length_le (by omega)] at hno
      have hs2 := Lib.hid hs1
      clear hno hs1
      go_wp2_with fail
      go_ret
      exact ⟨-1, rfl, by rw [hs2.out]; rfl, hbw⟩
theorem containsInt_any (A : Option Addr) (c : Nat) (t : List (Int)) (g : Nat) (lb : Array Value) (eg : Enters g) (p : Int → Bool) (w : World) (hr : Rd w w.heap.size A (ints t)) (hl : t.length ≤ 1000) (hp : Decides g lb (Value.int .i64) p t w) :
    Calls Tryz.prog 170 #[.slice A t.length c, .func (.func g) #[] lb] w fun e w' => e = .returned (.bool (t.any p)) ∧ Below w.heap.size w w' := by
  have H := Lib.hid (indexInt_any A c t g lb eg p w hr hl hp)
  clear hp
  go_enter Tryz.func170, Tryz.ntmps170
  go_wp2_with fail
  refine H.out.mono ?_
  rintro e w1 ⟨i, rfl, hi, hb1⟩
  go_wp2_with fail
  go_ret
  exact ⟨rfl, hb1⟩
theorem everyNotInt_any (g : Nat) (lb : Array Value) (eg : Enters g) (p : Int → Bool) (t : List (Int)) (a : Nat) (w : World) (hp : Decides g lb (Value.int .i64) p t w) (ha : w.cell? ⟨a, 0, none⟩ = some (.func (.func g) #[] lb)) (hb : a < w.heap.size) :
    Decides 171 #[.pointer (some ⟨a, 0, none⟩)] (Value.int .i64) (notP p) t w := by
  intro W x hx hB
  have hcall := fun W' (h : Below W.heap.size W W') => Lib.hid (hp W' x hx (hB.trans (h.mono hB.size)))
  have ha' := hB.at_ hb ha
  have hb' := Nat.lt_of_lt_of_le hb hB.size
  have hne : a ≠ W.heap.size := by omega
  clear hp ha
  have e1 : notP p x = !p x := rfl
  rw [e1]
  clear e1
  generalize hq : p x = q at hcall ⊢
  clear hq
  show Calls Tryz.prog 171 #[_, .pointer (some ⟨a, 0, none⟩)] W _
  go_enter Tryz.func171, Tryz.ntmps171
  go_wp2_with (go_at_fn g; refine (hcall _ (by go_grown)).out.mono ?_; rintro e w1 ⟨rfl, hb1⟩)
  go_ret
  exact ⟨rfl, hb1⟩
theorem everyInt_any (A : Option Addr) (c : Nat) (t : List (Int)) (g : Nat) (lb : Array Value) (eg : Enters g) (p : Int → Bool) (w : World) (hr : Rd w w.heap.size A (ints t)) (hl : t.length ≤ 1000) (hp : Decides g lb (Value.int .i64) p t w) :
    Calls Tryz.prog 118 #[.slice A t.length c, .func (.func g) #[] lb] w fun e w' => e = .returned (.bool (t.all p)) ∧ Below w.heap.size w w' := by
  have hb0 := below_new w (.cells #[.func (.func g) #[] lb] 77)
  have H := Lib.hid (containsInt_any A c t 171 #[.pointer (some ⟨w.heap.size, 0, none⟩)] (enters_of Tryz.func171 (by kernel_rfl) rfl) (notP p) (w.alloc (.cells #[.func (.func g) #[] lb] 77)) (hr.alloc _) hl (everyNotInt_any g lb eg p t w.heap.size (w.alloc (.cells #[.func (.func g) #[] lb] 77)) (hp.next hb0) (by simp) (by simp)))
  have hn := all_notP p t
  have HN := Lib.hid hn
  have HB0 := Lib.hid hb0
  clear hp hb0 hn
  go_enter Tryz.func118, Tryz.ntmps118
  go_wp2_with fail
  refine H.out.mono ?_
  rintro e w1 ⟨rfl, hb1⟩
  go_wp2_with fail
  go_ret
  exact ⟨ret_bool HN.out.symm, HB0.out.trans (hb1.mono HB0.out.size)⟩
end Go.Proofs.YtcdjoegihmfanaaGreat
