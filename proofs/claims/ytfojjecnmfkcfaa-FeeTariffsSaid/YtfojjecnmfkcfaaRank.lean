/- A measure that falls with each penny that moves to a house that outbids: the ranks of all pennies. Plain mathematics. -/
import Derived.Test.YtfojjecnmfkcfaaOrder
namespace Go.Proofs.Ytfojjecnmfkcfaa
open Go.RowKit
set_option linter.unusedVariables false
def sumTo (f : Nat → Nat) : Nat → Nat
  | 0 => 0
  | n + 1 => sumTo f n + f n
theorem sumTo_congr {f g : Nat → Nat} {n : Nat} (h : ∀ j, j < n → f j = g j) : sumTo f n = sumTo g n := by
  induction n with
  | zero => rfl
  | succ n ih => simp only [sumTo]; rw [ih (fun j hj => h j (by omega)), h n (by omega)]
theorem sumTo_upd {f g : Nat → Nat} {n i : Nat} (hi : i < n) (h : ∀ j, j ≠ i → f j = g j) : sumTo f n + g i = sumTo g n + f i := by
  induction n with
  | zero => omega
  | succ n ih =>
    simp only [sumTo]
    by_cases e : i = n
    · subst e
      rw [sumTo_congr (f := f) (g := g) (fun j hj => h j (by omega))]
      omega
    · have := ih (by omega)
      rw [h n (fun e' => e e'.symm)]
      omega
def slots : List (Nat × Nat) := (List.range 6).flatMap fun i => (List.range 501).map fun c => (i, c)
theorem mem_slots {i c : Nat} (hi : i < 6) (hc : c < 501) : (i, c) ∈ slots := by
  unfold slots
  simp only [List.mem_flatMap, List.mem_map, List.mem_range]
  exact ⟨i, hi, c, hc, rfl⟩
def rank (hs : List (Int × Int × Int)) (i : Nat) (a : Int) : Nat := slots.countP fun s => decide (slotLt (hV hs s.1) s.1 ((s.2 : Int) + 1) (hV hs i) i a)
theorem countP_lt {α : Type} {p q : α → Bool} (l : List α) (h : ∀ x, p x = true → q x = true) {a : α} (ha : a ∈ l) (hq : q a = true) (hp : p a = false) : l.countP p < l.countP q := by
  induction l with
  | nil => cases ha
  | cons x l ih =>
    have mono : l.countP p ≤ l.countP q := List.countP_mono_left (fun y _ => h y)
    rcases List.mem_cons.1 ha with e | e
    · subst e
      rw [List.countP_cons_of_pos hq, List.countP_cons_of_neg (by rw [hp]; simp)]
      omega
    · have := ih e
      by_cases hx : p x = true
      · rw [List.countP_cons_of_pos hx, List.countP_cons_of_pos (h x hx)]; omega
      · rw [List.countP_cons_of_neg hx]
        by_cases hy : q x = true
        · rw [List.countP_cons_of_pos hy]; omega
        · rw [List.countP_cons_of_neg hy]; omega
theorem rank_lt {hs : List (Int × Int × Int)} (ho : housesOk hs) {i k : Nat} {a b : Int} (hi : i < 6) (h1 : 1 ≤ a) (h2 : a ≤ 501) (hb : 1 ≤ b) (h : slotLt (hV hs i) i a (hV hs k) k b) : rank hs i a < rank hs k b := by
  have e : ((a - 1).toNat : Int) + 1 = a := by omega
  refine countP_lt slots (fun s hs' => ?_) (mem_slots hi (show (a - 1).toNat < 501 by omega)) ?_ ?_
  · rw [decide_eq_true_eq] at hs' ⊢
    exact slot_trans (by omega) h1 hb (hV_nonneg ho _).1 (hV_nonneg ho _).1 (hV_nonneg ho _).1 hs' h
  · rw [decide_eq_true_eq, e]; exact h
  · rw [decide_eq_false_iff_not, e]; exact slot_irrefl _ _ _
def col (hs : List (Int × Int × Int)) (i m : Nat) : Nat := sumTo (fun c => rank hs i ((c : Int) + 1)) m
def phi (hs : List (Int × Int × Int)) (ps : List Int) : Nat := sumTo (fun i => col hs i (ps.getD i 0).toNat) 6
/-- A penny goes from house k to house i. -/
def move (ps : List Int) (i k : Nat) : List Int := (ps.set i (ps.getD i 0 + 1)).set k (ps.getD k 0 - 1)
theorem move_length (ps : List Int) (i k : Nat) : (move ps i k).length = ps.length := by simp [move]
theorem set_getD (ps : List Int) (j i : Nat) (v : Int) (h : j < ps.length) : (ps.set j v).getD i 0 = if i = j then v else ps.getD i 0 := by
  rw [List.getD_eq_getElem?_getD, List.getElem?_set]
  by_cases e : j = i
  · subst e; simp [h]
  · rw [if_neg e, if_neg (fun h => e h.symm)]; simp [List.getD_eq_getElem?_getD]
theorem move_getD (ps : List Int) (i k j : Nat) (hi : i < ps.length) (hk : k < ps.length) : (move ps i k).getD j 0 = if j = k then ps.getD k 0 - 1 else if j = i then ps.getD i 0 + 1 else ps.getD j 0 := by
  unfold move
  rw [set_getD _ _ _ _ (by simpa using hk), set_getD _ _ _ _ hi]
theorem move_sum (ps : List Int) (i k : Nat) (hi : i < ps.length) (hk : k < ps.length) (hne : i ≠ k) : (move ps i k).sum = ps.sum := by
  unfold move
  rw [sum_set _ k _ (by simpa using hk), sum_set _ i _ hi, set_getD _ _ _ _ hi, if_neg (fun e => hne e.symm)]
  omega
theorem phi_move {hs : List (Int × Int × Int)} (ho : housesOk hs) {ps : List Int} {i k : Nat} (hi : i < ps.length) (hk : k < ps.length) (hi6 : i < 6) (hk6 : k < 6) (hne : i ≠ k) (h0 : 0 ≤ ps.getD i 0) (h1 : ps.getD i 0 ≤ 500) (h2 : 1 ≤ ps.getD k 0)
    (h : slotLt (hV hs i) i (ps.getD i 0 + 1) (hV hs k) k (ps.getD k 0)) : phi hs (move ps i k) < phi hs ps := by
  have hr := rank_lt ho hi6 (by omega) (by omega) h2 h
  let f := fun j => col hs j ((move ps i k).getD j 0).toNat
  let g := fun j => col hs j (ps.getD j 0).toNat
  let m := fun j => if j = k then f k else g j
  have e1 : sumTo f 6 + m i = sumTo m 6 + f i := by
    refine sumTo_upd hi6 (fun j hj => ?_)
    show f j = if j = k then f k else g j
    by_cases ek : j = k
    · rw [if_pos ek, ek]
    · rw [if_neg ek]
      show col hs j _ = col hs j _
      rw [move_getD ps i k j hi hk, if_neg ek, if_neg hj]
  have e2 : sumTo m 6 + g k = sumTo g 6 + m k := by
    refine sumTo_upd hk6 (fun j hj => ?_)
    show (if j = k then f k else g j) = g j
    rw [if_neg hj]
  have m1 : m i = g i := if_neg hne
  have m2 : m k = f k := if_pos rfl
  have f1 : f i = g i + rank hs i (ps.getD i 0 + 1) := by
    show col hs i _ = col hs i _ + _
    rw [move_getD ps i k i hi hk, if_neg hne, if_pos rfl, show (ps.getD i 0 + 1).toNat = (ps.getD i 0).toNat + 1 by omega]
    show sumTo _ _ + rank hs i _ = _
    rw [show (((ps.getD i 0).toNat : Nat) : Int) + 1 = ps.getD i 0 + 1 by omega]; rfl
  have f2 : g k = f k + rank hs k (ps.getD k 0) := by
    show col hs k _ = col hs k _ + _
    rw [move_getD ps i k k hi hk, if_pos rfl, show (ps.getD k 0).toNat = (ps.getD k 0 - 1).toNat + 1 by omega]
    show sumTo _ _ + rank hs k _ = _
    rw [show (((ps.getD k 0 - 1).toNat : Nat) : Int) + 1 = ps.getD k 0 by omega]; rfl
  show sumTo f 6 < sumTo g 6
  omega
/-- Shares in a list of as many numbers as houses. -/
def fitsN (hs : List (Int × Int × Int)) (qs : List Int) : Prop := qs.length = hs.length ∧ ∀ i, i < hs.length → hL hs i ≤ qs.getD i 0 ∧ qs.getD i 0 ≤ hM hs i
theorem sum_replicate0 (n : Nat) : (List.replicate n (0 : Int)).sum = 0 := by
  induction n with
  | zero => rfl
  | succ n ih => rw [List.replicate_succ, List.sum_cons, ih]; rfl
theorem pad_getD (qs : List Int) (n i : Nat) : (qs ++ List.replicate n 0).getD i 0 = qs.getD i 0 := by
  rw [List.getD_eq_getElem?_getD, List.getD_eq_getElem?_getD, List.getElem?_append]
  split
  · rfl
  · rename_i h
    rw [List.getElem?_eq_none (l := qs) (by omega), List.getElem?_replicate]
    split <;> rfl
theorem fits_pad {hs : List (Int × Int × Int)} (ho : housesOk hs) {qs : List Int} (h : fitsN hs qs) : fits hs (qs ++ List.replicate (6 - hs.length) 0) := by
  have hl := ho.1
  refine ⟨by rw [List.length_append, List.length_replicate, h.1]; omega, fun i => ?_⟩
  rw [pad_getD]
  by_cases hi : i < hs.length
  · rw [(hL_pad ho i hi).1, (hL_pad ho i hi).2]; exact h.2 i hi
  · rw [pad6_get _ _ _ ho.1, pad6_get _ _ _ ho.1, if_neg hi, if_neg hi, List.getD_eq_getElem?_getD, List.getElem?_eq_none (by rw [h.1]; omega)]
    simp
theorem bids_unique_n {hs : List (Int × Int × Int)} (ho : housesOk hs) {p : Int} (hk : bidOk hs p = true) {qs : List Int} (fQ : fitsN hs qs) (hQ : Still hs qs) (h : qs.sum = p) : qs = (bidPs hs p).take hs.length := by
  have e := bids_unique ho hk (fits_pad ho fQ) (fun i k hi hk' hne => by rw [pad_getD, pad_getD]; exact hQ i k hi hk' hne) (by rw [List.sum_append, sum_replicate0]; omega)
  rw [← e, ← fQ.1, List.take_left]
theorem fitsN_move {hs : List (Int × Int × Int)} {qs : List Int} (h : fitsN hs qs) {i k : Nat} (hi : i < hs.length) (hk : k < hs.length) (hne : i ≠ k) (h1 : qs.getD i 0 < hM hs i) (h2 : hL hs k < qs.getD k 0) : fitsN hs (move qs i k) := by
  refine ⟨by rw [move_length]; exact h.1, fun j hj => ?_⟩
  rw [move_getD qs i k j (by rw [h.1]; exact hi) (by rw [h.1]; exact hk)]
  have := h.2 j hj
  split
  · rename_i e; subst e; omega
  · split
    · rename_i e; subst e; omega
    · exact this
end Go.Proofs.Ytfojjecnmfkcfaa
