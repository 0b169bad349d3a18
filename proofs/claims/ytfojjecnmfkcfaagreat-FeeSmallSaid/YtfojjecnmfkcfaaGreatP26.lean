/- The reference's state of an account, day by day: each day's charges come, then its payments, then what is kept is shared out. Plain mathematics. The reference's state of an account at the end of a day. The reference: the errors of entries, and of an account. -/
import Derived.Test.YtfojjecnmfkcfaaGreatP20
import Derived.Test.YtfojjecnmfkcfaaGreatP25
import Derived.Test.YtfojjecnmfkcfaaGreatP21
namespace Go.Proofs.YtfojjecnmfkcfaaGreat
open Go.RowKit
set_option linter.unusedVariables false
theorem uptoF_none {l : List (Int × Int)} {d : Int} (h : ∀ e ∈ l, d < e.1) : uptoF l d = 0 := by
  induction l with
  | nil => rfl
  | cons a l ih =>
    rw [uptoF_cons, if_neg (by have := h a List.mem_cons_self; omega), ih fun e he => h e (List.mem_cons_of_mem _ he)]; rfl
/-- What rests of a charge when the day's charges have come, and the sum of that. -/
def newR (cs : List (Int × Int)) (d P : Int) (i : Nat) : Int := if (cs.getD i (0, 0)).1 = d then (cs.getD i (0, 0)).2 else restOf cs (d - 1) P i
def newS (cs : List (Int × Int)) (d P : Int) : Nat → Int
  | 0 => 0
  | k + 1 => newS cs d P k + newR cs d P k
/-- What is kept when the day's payments have come. -/
def newK (cs : List (Int × Int)) (d P Q : Int) : Int := leftK cs (d - 1) P cs.length + (Q - P)
section
variable {cs : List (Int × Int)} {d P Q : Int}
theorem newR_eq {i : Nat} (hi : i < cs.length) : newR cs d P i = restOf cs (d - 1) P i + if (cs.getD i (0, 0)).1 = d then (cs.getD i (0, 0)).2 else 0 := by
  have hgd : cs.getD i (0, 0) = cs[i] := by simp [List.getD_eq_getElem?_getD, List.getElem?_eq_getElem hi]
  unfold newR
  split
  · rename_i h
    rw [restOf_far hi (by rw [← hgd]; omega)]; omega
  · omega
theorem newS_eq : ∀ k, k ≤ cs.length → newS cs d P k = restSum cs (d - 1) P k + (uptoF (cs.take k) d - uptoF (cs.take k) (d - 1))
  | 0, _ => by simp [newS, restSum, uptoF_nil]
  | k + 1, hk => by
    have hgd : cs.getD k (0, 0) = cs[k] := by simp [List.getD_eq_getElem?_getD, List.getElem?_eq_getElem (show k < cs.length by omega)]
    simp only [newS, restSum]
    rw [newS_eq k (by omega), newR_eq (show k < cs.length by omega), uptoF_succ cs d k (by omega), uptoF_succ cs (d - 1) k (by omega), hgd]
    by_cases h1 : cs[k].1 = d
    · rw [if_pos h1, if_pos (show cs[k].1 ≤ d by omega), if_neg (show ¬ cs[k].1 ≤ d - 1 by omega)]; omega
    · rw [if_neg h1]
      by_cases h2 : cs[k].1 ≤ d - 1
      · rw [if_pos h2, if_pos (show cs[k].1 ≤ d by omega)]; omega
      · rw [if_neg h2, if_neg (show ¬ cs[k].1 ≤ d by omega)]; omega
theorem new_or (hs : Up cs) {k : Nat} (hk : k ≤ cs.length) : uptoF (cs.take k) d = uptoF (cs.take k) (d - 1) ∨ uptoF (cs.take k) (d - 1) = uptoF (cs.take cs.length) (d - 1) := by
  by_cases h : ∃ e ∈ cs.take k, e.1 = d
  · right
    obtain ⟨e, he, h1⟩ := h
    obtain ⟨i, hi, rfl⟩ := List.mem_iff_getElem.1 he
    rw [List.length_take] at hi
    rw [List.getElem_take] at h1
    have h2 : uptoF (cs.take cs.length) (d - 1) = uptoF (cs.take k) (d - 1) + uptoF (cs.drop k) (d - 1) := by
      rw [← uptoF_app, List.take_append_drop, List.take_length]
    have h3 : uptoF (cs.drop k) (d - 1) = 0 := by
      refine uptoF_none fun f hf => ?_
      obtain ⟨j, hj, rfl⟩ := List.mem_iff_getElem.1 hf
      rw [List.length_drop] at hj
      rw [List.getElem_drop]
      have := hs.le (show i ≤ k + j by omega) (by omega)
      omega
    omega
  · left
    refine uptoF_same _ fun f hf => ?_
    have : f.1 ≠ d := fun e => h ⟨f, hf, e⟩
    omega
theorem upto_take_le (hc : ∀ e ∈ cs, 0 ≤ e.2) (k : Nat) (x : Int) : uptoF (cs.take k) x ≤ uptoF (cs.take cs.length) x := by
  have h2 : uptoF (cs.take cs.length) x = uptoF (cs.take k) x + uptoF (cs.drop k) x := by
    rw [← uptoF_app, List.take_append_drop, List.take_length]
  have := uptoF_nonneg (l := cs.drop k) (fun e he => hc e (List.mem_of_mem_drop he)) x
  omega
theorem state_sum (hc : ∀ e ∈ cs, 0 ≤ e.2) (hs : Up cs) (h0 : 0 ≤ P) (hPQ : P ≤ Q) {k : Nat} (hk : k ≤ cs.length) : max 0 (newS cs d P k - newK cs d P Q) = restSum cs d Q k := by
  rw [restSum_eq hc d Q (by omega) k hk, newS_eq k hk]
  unfold newK
  rw [restSum_eq hc _ P h0 k hk, leftK_eq hc _ P h0 _ (Nat.le_refl _)]
  have h1 := new_or (d := d) hs hk
  have h2 := upto_take_le hc k (d - 1)
  have h3 := uptoF_mono (l := cs.take k) (fun e he => hc e (List.mem_of_mem_take he)) (show d - 1 ≤ d by omega)
  omega
theorem newR_bd (h0 : 0 ≤ P) (hc : ∀ e ∈ cs, 0 ≤ e.1 ∧ e.1 ≤ 400 ∧ 1 ≤ e.2 ∧ e.2 ≤ 10000) {i : Nat} (hi : i < cs.length) : 0 ≤ newR cs d P i ∧ newR cs d P i ≤ 10000 := by
  have hgd : cs.getD i (0, 0) = cs[i] := by simp [List.getD_eq_getElem?_getD, List.getElem?_eq_getElem hi]
  have := restOf_bd (day := d - 1) h0 hc i
  have := hc cs[i] (List.getElem_mem _)
  unfold newR
  rw [hgd]
  split <;> omega
/-- What is kept when the first charges of a day are paid as far as can be. -/
def keptS (cs : List (Int × Int)) (d P Q : Int) (k : Nat) : Int := max 0 (newK cs d P Q - newS cs d P k)
theorem state_rest (hc : ∀ e ∈ cs, 0 ≤ e.1 ∧ e.1 ≤ 400 ∧ 1 ≤ e.2 ∧ e.2 ≤ 10000) (hs : Up cs) (h0 : 0 ≤ P) (hPQ : P ≤ Q) {k : Nat} (hk : k < cs.length) : restOf cs d Q k = newR cs d P k - min (newR cs d P k) (keptS cs d P Q k) ∧ keptS cs d P Q (k + 1) = keptS cs d P Q k - min (newR cs d P k) (keptS cs d P Q k) := by
  have hc2 : ∀ e ∈ cs, 0 ≤ e.2 := fun e he => by have := hc e he; omega
  have h1 := state_sum (d := d) hc2 hs h0 hPQ (show k ≤ cs.length by omega)
  have h2 := state_sum (d := d) hc2 hs h0 hPQ (show k + 1 ≤ cs.length by omega)
  have h3 := newR_bd (d := d) h0 hc hk
  simp only [newS, restSum] at h2
  unfold keptS
  simp only [newS]
  omega
theorem state_kept (hc : ∀ e ∈ cs, 0 ≤ e.2) (hs : Up cs) (h0 : 0 ≤ P) (hPQ : P ≤ Q) : keptS cs d P Q cs.length = leftK cs d Q cs.length := by
  have h1 := restSum_eq hc (d - 1) P h0 cs.length (Nat.le_refl _)
  have h2 := leftK_eq hc (d - 1) P h0 cs.length (Nat.le_refl _)
  have h3 := newS_eq (d := d) (P := P) (cs := cs) cs.length (Nat.le_refl _)
  unfold keptS newK
  rw [leftK_eq hc d Q (by omega) _ (Nat.le_refl _), h3, h1, h2]
  omega
end
end Go.Proofs.YtfojjecnmfkcfaaGreat
namespace Go.Proofs.YtfojjecnmfkcfaaGreat
open Go.RowKit
set_option linter.unusedVariables false
/-- The first k numbers by one rule, the others by another one. -/
def mixL (f g : Nat → Int) (n k : Nat) : List Int := (List.range n).map fun i => if i < k then f i else g i
theorem mixL_len (f g : Nat → Int) (n k : Nat) : (mixL f g n k).length = n := by simp [mixL]
theorem mixL_get (f g : Nat → Int) {n k i : Nat} (h : i < n) : (mixL f g n k)[i]'(by rw [mixL_len]; exact h) = if i < k then f i else g i := by simp [mixL]
theorem mixL_zero (f g : Nat → Int) (n : Nat) : mixL f g n 0 = (List.range n).map g := by simp [mixL]
theorem mixL_all (f g : Nat → Int) (n : Nat) : mixL f g n n = (List.range n).map f := by
  unfold mixL
  refine List.map_congr_left fun i hi => ?_
  rw [if_pos (List.mem_range.1 hi)]
theorem mixL_set (f g : Nat → Int) {n k : Nat} (h : k < n) : (mixL f g n k).set k (f k) = mixL f g n (k + 1) := by
  apply List.ext_getElem
  · simp [mixL]
  · intro i h1 h2
    rw [mixL_len] at h2
    rw [List.getElem_set, mixL_get f g h2, mixL_get f g h2]
    by_cases e : k = i
    · subst e; rw [if_pos rfl, if_pos (by omega)]
    · rw [if_neg e]
      by_cases h3 : i < k
      · rw [if_pos h3, if_pos (by omega)]
      · rw [if_neg h3, if_neg (by omega)]
theorem mixL_same (f g : Nat → Int) {n k : Nat} (h : f k = g k) : mixL f g n k = mixL f g n (k + 1) := by
  unfold mixL
  refine List.map_congr_left fun i _ => ?_
  by_cases e : i = k
  · subst e; rw [if_neg (by omega), if_pos (by omega), h]
  · by_cases h3 : i < k
    · rw [if_pos h3, if_pos (by omega)]
    · rw [if_neg h3, if_neg (by omega)]
section
variable {cs ps : List (Int × Int)} {g l : Int}
theorem rest_start (h : AccOk cs ps g l) : List.replicate cs.length (0 : Int) = (List.range cs.length).map (restOf cs (0 - 1) (uptoF ps (0 - 1))) := by
  apply List.ext_getElem
  · simp
  · intro i h1 h2
    have hi : i < cs.length := by simpa using h1
    simp only [List.getElem_replicate, List.getElem_map, List.getElem_range]
    rw [restOf_far hi (by have := h.call cs[i] (List.getElem_mem _); omega)]
theorem left_start (h : AccOk cs ps g l) : leftK cs (0 - 1) (uptoF ps (0 - 1)) cs.length = 0 := by
  have h1 : uptoF ps (0 - 1) = 0 := uptoF_none fun e he => by have := h.pall e he; omega
  have hc : ∀ e ∈ cs, 0 ≤ e.2 := fun e he => by have := h.call e he; omega
  rw [h1, leftK_eq hc _ 0 (Int.le_refl _) _ (Nat.le_refl _)]
  have := uptoF_nonneg (l := cs.take cs.length) (fun e he => hc e (List.mem_of_mem_take he)) (0 - 1)
  omega
/-- What the walk asks of a day. -/
structure DayM (cs ps : List (Int × Int)) (d : Int) : Prop where
  newb : ∀ i, i < cs.length → 0 ≤ newR cs d (uptoF ps (d - 1)) i ∧ newR cs d (uptoF ps (d - 1)) i ≤ 10000
  keptb : ∀ k, 0 ≤ keptS cs d (uptoF ps (d - 1)) (uptoF ps d) k ∧ keptS cs d (uptoF ps (d - 1)) (uptoF ps d) k ≤ 80000
  start : keptS cs d (uptoF ps (d - 1)) (uptoF ps d) 0 = leftK cs (d - 1) (uptoF ps (d - 1)) cs.length + (uptoF ps d - uptoF ps (d - 1))
  left0 : 0 ≤ leftK cs (d - 1) (uptoF ps (d - 1)) cs.length
  rest : ∀ k, k < cs.length → restOf cs d (uptoF ps d) k = newR cs d (uptoF ps (d - 1)) k - min (newR cs d (uptoF ps (d - 1)) k) (keptS cs d (uptoF ps (d - 1)) (uptoF ps d) k) ∧ keptS cs d (uptoF ps (d - 1)) (uptoF ps d) (k + 1) = keptS cs d (uptoF ps (d - 1)) (uptoF ps d) k - min (newR cs d (uptoF ps (d - 1)) k) (keptS cs d (uptoF ps (d - 1)) (uptoF ps d) k)
  fin : keptS cs d (uptoF ps (d - 1)) (uptoF ps d) cs.length = leftK cs d (uptoF ps d) cs.length
  pay : ∀ k, k ≤ ps.length → 0 ≤ uptoF (ps.take k) d - uptoF (ps.take k) (d - 1) ∧ leftK cs (d - 1) (uptoF ps (d - 1)) cs.length + (uptoF (ps.take k) d - uptoF (ps.take k) (d - 1)) ≤ 80000
theorem newS_nonneg {d P : Int} (h0 : 0 ≤ P) (hc : ∀ e ∈ cs, 0 ≤ e.1 ∧ e.1 ≤ 400 ∧ 1 ≤ e.2 ∧ e.2 ≤ 10000) : ∀ k, k ≤ cs.length → 0 ≤ newS cs d P k
  | 0, _ => by simp [newS]
  | k + 1, hk => by
    have := newS_nonneg (d := d) h0 hc k (by omega)
    have := newR_bd (d := d) h0 hc (show k < cs.length by omega)
    simp only [newS]; omega
theorem day_m (h : AccOk cs ps g l) (d : Int) : DayM cs ps d := by
  have hc2 : ∀ e ∈ cs, 0 ≤ e.2 := fun e he => by have := h.call e he; omega
  have hp2 : ∀ e ∈ ps, 0 ≤ e.2 := fun e he => by have := h.pall e he; omega
  have hP := uptoF_nonneg hp2 (d - 1)
  have hPQ := uptoF_mono hp2 (show d - 1 ≤ d by omega)
  have hQ := uptoF_bd (l := ps) (fun e he => by have := h.pall e he; omega) d
  have hpl := h.plen
  have hL := leftK_eq hc2 (d - 1) _ hP cs.length (Nat.le_refl _)
  have hU := uptoF_nonneg (l := cs.take cs.length) (fun e he => hc2 e (List.mem_of_mem_take he)) (d - 1)
  have hl0 : 0 ≤ leftK cs (d - 1) (uptoF ps (d - 1)) cs.length := by rw [hL]; omega
  have hl1 : leftK cs (d - 1) (uptoF ps (d - 1)) cs.length ≤ uptoF ps (d - 1) := by rw [hL]; omega
  refine ⟨fun i hi => newR_bd hP h.call hi, fun k => ?_, ?_, hl0, fun k hk => state_rest h.call (up_of h.crise) hP hPQ hk, state_kept hc2 (up_of h.crise) hP hPQ, fun k hk => ?_⟩
  · have hn : 0 ≤ newS cs d (uptoF ps (d - 1)) k ∨ cs.length < k := by
      by_cases hk : k ≤ cs.length
      · exact .inl (newS_nonneg hP h.call k hk)
      · exact .inr (by omega)
    have hn2 : 0 ≤ newS cs d (uptoF ps (d - 1)) k := by
      rcases hn with h1 | h1
      · exact h1
      · have : ∀ j, 0 ≤ newS cs d (uptoF ps (d - 1)) (cs.length + j) := fun j => by
          induction j with
          | zero => exact newS_nonneg hP h.call _ (Nat.le_refl _)
          | succ j ih =>
            rw [← Nat.add_assoc]
            simp only [newS]
            have hr : 0 ≤ newR cs d (uptoF ps (d - 1)) (cs.length + j) := by
              unfold newR
              split
              · rw [List.getD_eq_getElem?_getD, List.getElem?_eq_none (by omega)]; simp
              · exact (restOf_bd hP h.call _).1
            omega
        have := this (k - cs.length)
        rwa [show cs.length + (k - cs.length) = k by omega] at this
    unfold keptS newK
    omega
  · unfold keptS newK
    simp only [newS]; omega
  · have h1 := uptoF_mono (l := ps.take k) (fun e he => hp2 e (List.mem_of_mem_take he)) (show d - 1 ≤ d by omega)
    have h2 : uptoF ps d - uptoF ps (d - 1) = (uptoF (ps.take k) d - uptoF (ps.take k) (d - 1)) + (uptoF (ps.drop k) d - uptoF (ps.drop k) (d - 1)) := by
      have a1 : uptoF ps d = uptoF (ps.take k) d + uptoF (ps.drop k) d := by rw [← uptoF_app, List.take_append_drop]
      have a2 : uptoF ps (d - 1) = uptoF (ps.take k) (d - 1) + uptoF (ps.drop k) (d - 1) := by rw [← uptoF_app, List.take_append_drop]
      omega
    have h3 := uptoF_mono (l := ps.drop k) (fun e he => hp2 e (List.mem_of_mem_drop he)) (show d - 1 ≤ d by omega)
    omega
end
theorem uptoF_day {l : List (Int × Int)} {d : Int} {k : Nat} (h : k < l.length) : uptoF (l.take (k + 1)) d - uptoF (l.take (k + 1)) (d - 1) = uptoF (l.take k) d - uptoF (l.take k) (d - 1) + if l[k].1 = d then l[k].2 else 0 := by
  rw [uptoF_succ l d k h, uptoF_succ l (d - 1) k h]
  by_cases h1 : l[k].1 = d
  · rw [if_pos h1, if_pos (show l[k].1 ≤ d by omega), if_neg (show ¬ l[k].1 ≤ d - 1 by omega)]; omega
  · rw [if_neg h1]
    by_cases h2 : l[k].1 ≤ d - 1
    · rw [if_pos h2, if_pos (show l[k].1 ≤ d by omega)]; omega
    · rw [if_neg h2, if_neg (show ¬ l[k].1 ≤ d by omega)]; omega
theorem newR_at {cs : List (Int × Int)} {d P : Int} {k : Nat} (h : k < cs.length) : newR cs d P k = if cs[k].1 = d then cs[k].2 else restOf cs (d - 1) P k := by
  unfold newR
  simp [List.getD_eq_getElem?_getD, List.getElem?_eq_getElem h]
/-- The call has the rests, and what is kept. -/
def RState (cs ps : List (Int × Int)) (day : Int) (W : World) (e : Ending) (w' : World) : Prop :=
  ∃ b c, e = .returned (.tuple #[.slice (some ⟨b, 0, none⟩) cs.length c, .int .i64 (leftK cs day (uptoF ps day) cs.length)]) ∧ W.heap.size ≤ b ∧ Lst w' b (restK cs ps day cs.length) ∧ Below W.heap.size W w'
set_option maxRecDepth 100000 in
set_option maxHeartbeats 8000000 in
theorem rState_any (A B : Option Addr) (c dc : Nat) (cs ps : List (Int × Int)) (g l day : Int) (w : World) (hA : Rd w w.heap.size A (pairs cs)) (hB : Rd w w.heap.size B (pairs ps)) (ho : AccOk cs ps g l) (d0 : 0 ≤ day) (d1 : day ≤ 500) :
    Calls Tryz.prog 95 #[.agg #[.slice A cs.length c, .slice B ps.length dc, .int .i64 g, .int .i64 l], .int .i64 day] w (RState cs ps day w) := by
  have hcl := ho.clen
  have hpl := ho.plen
  have HO := Lib.hid ho
  have HR0 := Lib.hid (rest_start ho)
  have HL0 := Lib.hid (left_start ho)
  have HCA := Lib.hid ho.call
  have HPA := Lib.hid ho.pall
  clear ho
  have hmk := fun W => made_ints cs.length W (by omega)
  go_enter Tryz.func95, Tryz.ntmps95
  go_wp2_with fail
  clear hmk
  generalize hWa : World.alloc w _ = Wa
  generalize hWb : World.alloc Wa _ = Wb
  have ea : Wa.heap.size = w.heap.size + 1 := by rw [← hWa]; simp
  have ba : Below w.heap.size w Wa := by rw [← hWa]; exact below_new _ _
  have bb : Below Wa.heap.size Wa Wb := by rw [← hWb]; exact below_new _ _
  have nw := news_new w [.slice A cs.length c, .slice B ps.length dc, .int .i64 g, .int .i64 l] 85 rfl
  have x0 : Wb.cell? ⟨w.heap.size, 0, none⟩ = some (.slice A cs.length c) := bb.at_ (by omega) (by rw [← hWa]; exact nw 0 _ rfl)
  have x1 : Wb.cell? ⟨w.heap.size, 1, none⟩ = some (.slice B ps.length dc) := bb.at_ (by omega) (by rw [← hWa]; exact nw 1 _ rfl)
  have hL : Lst Wb (w.heap.size + 1) (List.replicate cs.length (0 : Int)) := by
    subst hWb
    rw [← ea]
    refine ⟨by simp, fun j u hu => ?_, fun o => by simp⟩
    have e : (List.replicate cs.length (Value.int .i64 0))[j]? = some (.int .i64 u) := by
      rw [List.getElem?_replicate] at hu ⊢
      split at hu
      · rename_i h; rw [if_pos h]; cases hu; rfl
      · cases hu
    have h := news_new Wa (List.replicate cs.length (Value.int .i64 0)) 3 rfl j _ e
    rw [addr_add, Nat.zero_add] at h
    exact h
  have HB0 := Lib.hid (ba.trans (bb.mono ba.size))
  have hz0 := HB0.out.size
  have hzb := hL.lt
  rw [HR0.out] at hL
  have HLst := Lib.hid hL
  have X0 : Hid (Wb.cell? ⟨w.heap.size, 0, none⟩ = some (.slice A cs.length c) ∧ Wb.cell? ⟨w.heap.size, 1, none⟩ = some (.slice B ps.length dc)) := ⟨x0, x1⟩
  obtain ⟨b, hb⟩ : ∃ b, b = w.heap.size + 1 := ⟨_, rfl⟩
  rw [← hb] at HLst hzb ⊢
  have hbw : w.heap.size < b := by omega
  clear hWa hWb ea ba bb nw x0 x1 hL hb HR0
  -- what stands behind a change of the rests alone
  have HBOX : Hid (∀ wr, Wb.grownBy wr (some b) → wr.cell? ⟨w.heap.size, 0, none⟩ = some (.slice A cs.length c) ∧ wr.cell? ⟨w.heap.size, 1, none⟩ = some (.slice B ps.length dc) ∧ w.heap.size < wr.heap.size ∧ Rd wr w.heap.size A (pairs cs) ∧ Rd wr w.heap.size B (pairs ps)) := by
    show ∀ wr, _ → _
    intro wr hg
    have hk := hg.block w.heap.size (by omega) (by intro e; injection e; omega)
    refine ⟨(World.cell?_of_block (a := ⟨w.heap.size, 0, none⟩) hk).trans X0.out.1, (World.cell?_of_block (a := ⟨w.heap.size, 1, none⟩) hk).trans X0.out.2, by have := hg.size; omega, ?_, ?_⟩
    · exact ((hA.below HB0.out).keep fun b' o hlt => World.cell?_of_block (a := ⟨b', o, none⟩) (hg.block b' (by omega) (by intro e; injection e; omega)))
    · exact ((hB.below HB0.out).keep fun b' o hlt => World.cell?_of_block (a := ⟨b', o, none⟩) (hg.block b' (by omega) (by intro e; injection e; omega)))
  go_wp2_with fail
  go_loopw [7, 8, 9, 10, 11, 12] (fun kv dv _ _ _ _ wr => ∃ d : Int, dv = .int .i64 d ∧ 0 ≤ d ∧ d ≤ day + 1 ∧ kv = .int .i64 (leftK cs (d - 1) (uptoF ps (d - 1)) cs.length) ∧ Hid (Lst wr b ((List.range cs.length).map (restOf cs (d - 1) (uptoF ps (d - 1))))) ∧ Hid (Wb.grownBy wr (some b))) (fun _ dv _ _ _ _ _ => 501 - (intOf dv).toNat)
  case atStart => exact ⟨0, rfl, by omega, by omega, by rw [HL0.out], HLst, grownBy_self _ _⟩
  case round =>
    clear HLst
    obtain ⟨d, rfl, dd0, dd1, rfl, HLd, HG⟩ := hrel
    by_cases hd : d ≤ day
    · have HM := Lib.hid (day_m HO.out d)
      obtain ⟨PP, hPP⟩ : ∃ P, uptoF ps (d - 1) = P := ⟨_, rfl⟩
      have HPP := Lib.hid hPP
      rw [hPP] at HLd ⊢
      clear hPP
      have HL1 : Hid (Lst wr b (mixL (newR cs d PP) (restOf cs (d - 1) PP) cs.length 0)) := by
        show Lst _ _ _
        rw [mixL_zero]; exact HLd.out
      have HNB := Lib.hid (fun i (hi : i < cs.length) => by have := HM.out.newb i hi; rwa [HPP.out] at this)
      clear HLd
      go_wp2_with fail
      go_loopw [9] (fun iv wr => ∃ k : Nat, iv = .int .i64 k ∧ k ≤ cs.length ∧ Hid (Lst wr b (mixL (newR cs d PP) (restOf cs (d - 1) PP) cs.length k)) ∧ Hid (Wb.grownBy wr (some b))) (fun iv _ => cs.length - (intOf iv).toNat)
      case atStart => exact ⟨0, rfl, Nat.zero_le _, HL1, HG⟩
      case round =>
        clear HL1 HG
        obtain ⟨k, rfl, hk, HLk, HG⟩ := hrel
        obtain ⟨y0, y1, yl, rA, rB⟩ := HBOX.out wr HG.out
        by_cases hlt : k < cs.length
        · obtain ⟨ba, oa, rfl, hba, e1, e2⟩ := rA.pair hlt
          have hba' : ba < wr.heap.size := by omega
          have hkz : (k : Int) < cs.length := by omega
          have hk0 : (0 : Int) ≤ (k : Int) := by omega
          obtain ⟨q1, q2, q3, q4⟩ := HCA.out cs[k] (List.getElem_mem _)
          have HNA := Lib.hid (newR_at (d := d) (P := PP) hlt)
          have hkl : k < (mixL (newR cs d PP) (restOf cs (d - 1) PP) cs.length k).length := by rw [mixL_len]; exact hlt
          have ck := HLk.out.at_ hkl
          have cf := HLk.out.free k
          have cl := HLk.out.lt
          by_cases hday : cs[k].1 = d
          · have hdb : (cs[k].1 == d) = true := by rw [beq_iff_eq]; exact hday
            have HL2 : Hid (Lst (wr.setCell ⟨b, k, none⟩ (.int .i64 cs[k].2)) b (mixL (newR cs d PP) (restOf cs (d - 1) PP) cs.length (k + 1))) := by
              show Lst _ _ _
              rw [← mixL_set _ _ hlt, HNA.out, if_pos hday]
              exact HLk.out.put hkl _
            have HG2 := Lib.hid (grownBy_trans HG.out (grownBy_setCell wr b k (.int .i64 cs[k].2)))
            obtain ⟨old, ck2⟩ : ∃ y, wr.cell? ⟨b, k, none⟩ = some y := ⟨_, ck⟩
            clear ck hkl HNA
            go_wp2_with fail
            go_roundw
            case rel => exact ⟨k + 1, by go_num, by omega, HL2, HG2⟩
            case measure => simp [intOf]; omega
          · have hdb : (cs[k].1 == d) = false := by rw [beq_eq_false_iff_ne]; exact hday
            have HL2 : Hid (Lst wr b (mixL (newR cs d PP) (restOf cs (d - 1) PP) cs.length (k + 1))) := by
              show Lst _ _ _
              rw [← mixL_same _ _ (by rw [HNA.out, if_neg hday])]
              exact HLk.out
            clear ck hkl HNA
            go_wp2_with fail
            go_roundw
            case rel => exact ⟨k + 1, by go_num, by omega, HL2, HG⟩
            case measure => simp [intOf]; omega
        · obtain rfl : k = cs.length := by omega
          rw [mixL_all] at HLk
          clear hlt hk rA rB
          have hst := HM.out.start
          have hl0 := HM.out.left0
          have hf := HM.out.fin
          have HKB := Lib.hid HM.out.keptb
          have HRE := Lib.hid HM.out.rest
          have HPY := Lib.hid HM.out.pay
          rw [HPP.out] at hst hl0 hf HKB HRE HPY
          generalize hLL : leftK cs (d - 1) PP cs.length = LL at *
          have HST := Lib.hid hst
          have HFI := Lib.hid hf
          clear hst hf hLL HM
          go_wp2_with fail
          clear y0 y1 yl
          go_loopw [7, 10] (fun kv iv wr => ∃ k : Nat, iv = .int .i64 k ∧ k ≤ ps.length ∧ kv = .int .i64 (LL + (uptoF (ps.take k) d - uptoF (ps.take k) (d - 1))) ∧ Hid (Lst wr b ((List.range cs.length).map (newR cs d PP))) ∧ Hid (Wb.grownBy wr (some b))) (fun _ iv _ => ps.length - (intOf iv).toNat)
          case atStart => exact ⟨0, rfl, Nat.zero_le _, by simp [uptoF_nil], HLk, HG⟩
          case round =>
            clear HLk HG
            obtain ⟨k, rfl, hk, rfl, HLk, HG⟩ := hrel
            obtain ⟨y0, y1, yl, rA, rB⟩ := HBOX.out wr HG.out
            obtain ⟨t0, t1⟩ := HPY.out k hk
            by_cases hlt : k < ps.length
            · obtain ⟨ba, oa, rfl, hba, e1, e2⟩ := rB.pair hlt
              have hba' : ba < wr.heap.size := by omega
              have hkz : (k : Int) < ps.length := by omega
              have hk0 : (0 : Int) ≤ (k : Int) := by omega
              obtain ⟨q1, q2, q3, q4⟩ := HPA.out ps[k] (List.getElem_mem _)
              have HUD := Lib.hid (uptoF_day (d := d) hlt)
              generalize uptoF (ps.take k) d - uptoF (ps.take k) (d - 1) = U at *
              by_cases hday : ps[k].1 = d
              · have hdb : (ps[k].1 == d) = true := by rw [beq_iff_eq]; exact hday
                have HU2 : Hid (LL + (uptoF (ps.take (k + 1)) d - uptoF (ps.take (k + 1)) (d - 1)) = LL + U + ps[k].2) := by show _ = _; rw [HUD.out, if_pos hday]; omega
                clear hday
                go_wp2_with fail
                go_roundw
                case rel => exact ⟨k + 1, by go_num, by omega, by rw [HU2.out], HLk, HG⟩
                case measure => simp [intOf]; omega
              · have hdb : (ps[k].1 == d) = false := by rw [beq_eq_false_iff_ne]; exact hday
                have HU2 : Hid (LL + (uptoF (ps.take (k + 1)) d - uptoF (ps.take (k + 1)) (d - 1)) = LL + U) := by show _ = _; rw [HUD.out, if_neg hday]; omega
                clear hday
                go_wp2_with fail
                go_roundw
                case rel => exact ⟨k + 1, by go_num, by omega, by rw [HU2.out], HLk, HG⟩
                case measure => simp [intOf]; omega
            · obtain rfl : k = ps.length := by omega
              rw [List.take_length]
              have HQ : Hid (LL + (uptoF ps d - uptoF ps (d - 1)) = keptS cs d PP (uptoF ps d) 0) := by
                show _ = _
                rw [HPP.out, HST.out]
              rw [HQ.out]
              have HL1 : Hid (Lst wr b (mixL (restOf cs d (uptoF ps d)) (newR cs d PP) cs.length 0)) := by
                show Lst _ _ _
                rw [mixL_zero]; exact HLk.out
              clear hlt hk t0 t1 rA rB HLk
              go_wp2_with fail
              go_loopw [7, 11, 12] (fun kv iv _ wr => ∃ k : Nat, iv = .int .i64 k ∧ k ≤ cs.length ∧ kv = .int .i64 (keptS cs d PP (uptoF ps d) k) ∧ Hid (Lst wr b (mixL (restOf cs d (uptoF ps d)) (newR cs d PP) cs.length k)) ∧ Hid (Wb.grownBy wr (some b))) (fun _ iv _ _ => cs.length - (intOf iv).toNat)
              case atStart => exact ⟨0, rfl, Nat.zero_le _, rfl, HL1, HG⟩
              case round =>
                clear HL1 HG y0 y1 yl
                obtain ⟨k, rfl, hk, rfl, HLk, HG⟩ := hrel
                obtain ⟨y0, y1, yl, rA, rB⟩ := HBOX.out wr HG.out
                by_cases hlt : k < cs.length
                · have hkl : k < (mixL (restOf cs d (uptoF ps d)) (newR cs d PP) cs.length k).length := by rw [mixL_len]; exact hlt
                  have ck := HLk.out.at_ hkl
                  rw [mixL_get _ _ hlt, if_neg (by omega)] at ck
                  have cf := HLk.out.free k
                  have cl := HLk.out.lt
                  have hkz : (k : Int) < cs.length := by omega
                  have hk0 : (0 : Int) ≤ (k : Int) := by omega
                  obtain ⟨b0, b1⟩ := HKB.out k
                  obtain ⟨r1, r2⟩ := HRE.out k hlt
                  obtain ⟨n0, n1⟩ := HNB.out k hlt
                  have HL2 : Hid (∀ v, v = restOf cs d (uptoF ps d) k → Lst (wr.setCell ⟨b, k, none⟩ (.int .i64 v)) b (mixL (restOf cs d (uptoF ps d)) (newR cs d PP) cs.length (k + 1))) := by
                    show ∀ v, _ → _
                    rintro v rfl
                    rw [← mixL_set _ _ hlt]
                    exact HLk.out.put hkl _
                  have HG2 : Hid (∀ v, Wb.grownBy (wr.setCell ⟨b, k, none⟩ v) (some b)) := fun v => grownBy_trans HG.out (grownBy_setCell wr b k v)
                  clear hkl HLk HG
                  generalize keptS cs d PP (uptoF ps d) k = kp at *
                  have HR1 := Lib.hid r1
                  have HR2 := Lib.hid r2
                  clear r1 r2
                  generalize newR cs d PP k = nr at *
                  by_cases hgt : kp < nr
                  · have m1 : min nr kp = kp := by omega
                    have H1 : Hid (restOf cs d (uptoF ps d) k = nr - kp) := by show _ = _; rw [HR1.out, m1]
                    have H2 : Hid (keptS cs d PP (uptoF ps d) (k + 1) = kp - kp) := by show _ = _; rw [HR2.out, m1]
                    clear m1 HR1 HR2
                    go_wp2_with fail
                    go_roundw
                    case rel => exact ⟨k + 1, by go_num, by omega, by rw [H2.out, Int.sub_self], HL2.out _ H1.out.symm, HG2.out _⟩
                    case measure => simp [intOf]; omega
                  · have m1 : min nr kp = nr := by omega
                    have H1 : Hid (restOf cs d (uptoF ps d) k = nr - nr) := by show _ = _; rw [HR1.out, m1]
                    have H2 : Hid (keptS cs d PP (uptoF ps d) (k + 1) = kp - nr) := by show _ = _; rw [HR2.out, m1]
                    clear m1 HR1 HR2
                    go_wp2_with fail
                    go_roundw
                    case rel => exact ⟨k + 1, by go_num, by omega, by rw [H2.out], HL2.out 0 (by rw [H1.out]; omega), HG2.out _⟩
                    case measure => simp [intOf]; omega
                · obtain rfl : k = cs.length := by omega
                  rw [mixL_all] at HLk
                  rw [HFI.out]
                  go_wp2_with fail
                  go_roundw
                  case rel => exact ⟨d + 1, by go_num, by omega, by omega, by rw [show d + 1 - 1 = d by omega], by rw [show d + 1 - 1 = d by omega]; exact HLk, HG⟩
                  case measure => simp [intOf]; omega
    · obtain rfl : d = day + 1 := by omega
      have e0 : day + 1 - 1 = day := by omega
      rw [e0] at HLd ⊢
      go_wp2_with fail
      go_ret2
      exact ⟨b, _, rfl, by omega, HLd.out, HB0.out.grown HG.out HB0.out.size (fun q hq => by injection hq; omega)⟩
end Go.Proofs.YtfojjecnmfkcfaaGreat
namespace Go.Proofs.YtfojjecnmfkcfaaGreat
open Go.RowKit
set_option linter.unusedVariables false
/-- Some of the first k entries comes before the one ahead of it. -/
def earlyB (t : List (Int × Int)) (k : Nat) : Bool := (List.range k).any fun i => decide (0 < i) && decide ((t.getD i (0, 0)).1 < (t.getD (i - 1) (0, 0)).1)
theorem earlyB_succ (t : List (Int × Int)) (k : Nat) : earlyB t (k + 1) = (earlyB t k || (decide (0 < k) && decide ((t.getD k (0, 0)).1 < (t.getD (k - 1) (0, 0)).1))) := by
  unfold earlyB; rw [List.range_succ, List.any_append]; simp
theorem getD_fst {t : List (Int × Int)} {i : Nat} (h : i < t.length) : t.getD i (0, 0) = t[i] := by simp [List.getD_eq_getElem?_getD, List.getElem?_eq_getElem h]
theorem earlyB_up (t : List (Int × Int)) : earlyB t t.length = !risesB 0 (t.map (·.1)) := by
  cases hr : risesB 0 (t.map (·.1)) with
  | true =>
    have hu := up_of hr
    show _ = false
    unfold earlyB
    rw [List.any_eq_false]
    intro i hi
    rw [List.mem_range] at hi
    simp only [Bool.and_eq_true, decide_eq_true_eq, not_and]
    intro h0
    rw [getD_fst hi, getD_fst (show i - 1 < t.length by omega)]
    have := hu.le (show i - 1 ≤ i by omega) hi
    omega
  | false =>
    show _ = true
    cases he : earlyB t t.length with
    | true => rfl
    | false =>
      exfalso
      have hs : ∀ i, i + 1 < t.length → (t.getD i (0, 0)).1 ≤ (t.getD (i + 1) (0, 0)).1 := fun i hi => by
        unfold earlyB at he
        have := List.any_eq_false.1 he (i + 1) (List.mem_range.2 hi)
        simp at this
        exact this
      have hs2 : ∀ j i, i ≤ j → j < t.length → (t.getD i (0, 0)).1 ≤ (t.getD j (0, 0)).1 := fun j => by
        induction j with
        | zero => intro i h1 h2; have : i = 0 := by omega
                  subst this; exact Int.le_refl _
        | succ j ih =>
          intro i h1 h2
          by_cases e : i = j + 1
          · subst e; exact Int.le_refl _
          · exact Int.le_trans (ih i (by omega) (by omega)) (hs j h2)
      have hu : Up t := by
        unfold Up
        rw [List.pairwise_iff_getElem]
        intro i j hi hj hij
        have := hs2 j i (by omega) hj
        rwa [getD_fst hi, getD_fst hj] at this
      rw [rises_up hu] at hr; cases hr
set_option maxRecDepth 100000 in
set_option maxHeartbeats 4000000 in
theorem rEntries_any (A : Option Addr) (c : Nat) (t : List (Int × Int)) (w : World) (hr : Rd w w.heap.size A (pairs t)) (hl : t.length ≤ 1000) :
    Calls Tryz.prog 93 #[.slice A t.length c] w fun e w' => e = .returned (.tuple #[.bool (t.any entryOkP), .bool (!risesB 0 (t.map (·.1)))]) ∧ Below w.heap.size w w' := by
  go_enter Tryz.func93, Tryz.ntmps93
  go_wp2_with fail
  go_loopw [4, 5, 6] (fun wv ev iv wr => ∃ (k : Nat) (a b : Bool), wv = .bool a ∧ ev = .bool b ∧ iv = .int .i64 k ∧ k ≤ t.length ∧ Hid ((t.take k).any entryOkP = a) ∧ Hid (earlyB t k = b) ∧ Hid (Below w.heap.size w wr)) (fun _ _ iv _ => t.length - (intOf iv).toNat)
  case atStart => exact ⟨0, false, false, rfl, rfl, rfl, Nat.zero_le _, rfl, rfl, Below.refl _ _⟩
  case round =>
    obtain ⟨k, a, b, rfl, rfl, rfl, hk, HW0, HE0, HX⟩ := hrel
    by_cases hlt : k < t.length
    · have HWS := Lib.hid (any_take_succ entryOkP t k hlt)
      have HES := Lib.hid (earlyB_succ t k)
      obtain ⟨ba, oa, rfl, hba, e1, e2⟩ := (hr.below HX.out).pair hlt
      have hba' : ba < wr.heap.size := Nat.lt_of_lt_of_le hba HX.out.size
      have hkz : (k : Int) < t.length := by omega
      have hk0 : (0 : Int) ≤ (k : Int) := by omega
      have hpe : ∀ (h : k - 1 < t.length), wr.cell? ⟨ba, oa + (k - 1) * 2, none⟩ = some (.int .i64 t[k - 1].1) := fun h => ((hr.below HX.out).pair' h).1
      have HPE := Lib.hid (hpe (by omega))
      rw [getD_fst hlt, getD_fst (show k - 1 < t.length by omega)] at HES
      have hP : entryOkP t[k] = !(inB t[k].1 0 400 && inB t[k].2 1 10000) := rfl
      have HP := Lib.hid hP
      clear hP hpe
      generalize t[k].1 = u at *
      generalize t[k].2 = q at *
      generalize t[k - 1].1 = v at *
      obtain ⟨a2, ha2⟩ : ∃ a2, (t.take (k + 1)).any entryOkP = a2 := ⟨_, rfl⟩
      have HA2 := Lib.hid ha2
      have hval : a2 = (a || !(inB u 0 400 && inB q 1 10000)) := by rw [← ha2, HWS.out, HW0.out, HP.out]
      clear ha2
      have hcs : (a = true ∧ a2 = true) ∨ (a = false ∧ inB u 0 400 = false ∧ a2 = true) ∨ (a = false ∧ inB u 0 400 = true ∧ inB q 1 10000 = false ∧ a2 = true) ∨ (a = false ∧ inB u 0 400 = true ∧ inB q 1 10000 = true ∧ a2 = false) := by
        cases a <;> cases h1 : inB u 0 400 <;> cases h2 : inB q 1 10000 <;> simp [hval, h1, h2]
      have hes : (b = true ∧ earlyB t (k + 1) = true) ∨ (b = false ∧ k = 0 ∧ earlyB t (k + 1) = false) ∨ (b = false ∧ 0 < k ∧ u < v ∧ earlyB t (k + 1) = true) ∨ (b = false ∧ 0 < k ∧ ¬ u < v ∧ earlyB t (k + 1) = false) := by
        have h := HES.out
        rw [HE0.out] at h
        cases b with
        | true => exact .inl ⟨rfl, by rw [h]; rfl⟩
        | false =>
          right
          by_cases h0 : k = 0
          · exact .inl ⟨rfl, h0, by rw [h, h0]; simp⟩
          · right
            by_cases h1 : u < v
            · exact .inl ⟨rfl, by omega, h1, by rw [h]; simp [h1]; omega⟩
            · exact .inr ⟨rfl, by omega, h1, by rw [h]; simp [h1]⟩
      have HESX := Lib.hid hes
      clear hval hes HES HWS HW0 HE0 HP
      rcases hcs with ⟨rfl, rfl⟩ | ⟨rfl, h1, rfl⟩ | ⟨rfl, h1, h2, rfl⟩ | ⟨rfl, h1, h2, rfl⟩
      all_goals
        go_wp2_with (go_at_call 75; refine (off_any _ _ _ _).mono ?_; rintro e w' ⟨rfl, rfl⟩)
      all_goals
        rcases HESX.out with ⟨rfl, he⟩ | ⟨rfl, h0, he⟩ | ⟨rfl, h0, huv, he⟩ | ⟨rfl, h0, huv, he⟩
        · have HE := Lib.hid he
          clear he HESX
          go_quiet (fail)
          go_wp2_with fail
          go_roundw
          case rel => exact ⟨_, _, _, rfl, rfl, by go_num, by omega, HA2, HE, below_drewN HX.out _⟩
          case measure => simp [intOf]; omega
        · subst h0
          have HE := Lib.hid he
          clear he HESX
          go_quiet (fail)
          go_wp2_with fail
          go_roundw
          case rel => exact ⟨_, _, _, rfl, rfl, by go_num, by omega, HA2, HE, below_drewN HX.out _⟩
          case measure => simp [intOf]; omega
        · obtain ⟨j, rfl⟩ : ∃ j, k = j + 1 := ⟨k - 1, by omega⟩
          have e0 := HPE.out
          rw [Nat.add_sub_cancel] at e0
          have hj1 : (0 : Int) < (j : Int) + 1 := by omega
          have hj2 : (j : Int) < t.length := by omega
          have hj3 : (0 : Int) ≤ (j : Int) := by omega
          have w1 : IntKind.i64.wrap ((j : Int) + 1 - 1) = (j : Int) := by rw [Int.add_sub_cancel]; exact IntWalk.i64_in _ (by omega)
          have w2 : IntKind.i64.wrap (j : Int) = (j : Int) := IntWalk.i64_in _ (by omega)
          clear HPE
          have HE := Lib.hid he
          clear he HESX
          go_quiet (fail)
          go_wp2_with fail
          go_roundw
          case rel => exact ⟨_, _, _, rfl, rfl, by go_num, by omega, HA2, HE, below_drewN HX.out _⟩
          case measure => simp [intOf]; omega
        · obtain ⟨j, rfl⟩ : ∃ j, k = j + 1 := ⟨k - 1, by omega⟩
          have e0 := HPE.out
          rw [Nat.add_sub_cancel] at e0
          have hj1 : (0 : Int) < (j : Int) + 1 := by omega
          have hj2 : (j : Int) < t.length := by omega
          have hj3 : (0 : Int) ≤ (j : Int) := by omega
          have w1 : IntKind.i64.wrap ((j : Int) + 1 - 1) = (j : Int) := by rw [Int.add_sub_cancel]; exact IntWalk.i64_in _ (by omega)
          have w2 : IntKind.i64.wrap (j : Int) = (j : Int) := IntWalk.i64_in _ (by omega)
          clear HPE
          have HE := Lib.hid he
          clear he HESX
          go_quiet (fail)
          go_wp2_with fail
          go_roundw
          case rel => exact ⟨_, _, _, rfl, rfl, by go_num, by omega, HA2, (by rw [decide_eq_false (show ¬ u < v by omega)]; exact HE), below_drewN HX.out _⟩
          case measure => simp [intOf]; omega
    · obtain rfl : k = t.length := by omega
      have ha := HW0.out
      rw [List.take_of_length_le (Nat.le_refl _)] at ha
      have hb := HE0.out
      rw [earlyB_up] at hb
      have HA := Lib.hid ha
      have HB := Lib.hid hb
      clear ha hb
      go_wp2_with fail
      go_ret2
      exact ⟨by rw [HA.out, HB.out]; rfl, HX.out⟩
theorem off_bool {n a b : Int} {v : Bool} (h : inB n a b = v) : (!inB n a b) = !v := by rw [h]
set_option maxRecDepth 100000 in
set_option maxHeartbeats 4000000 in
theorem rCheckAcc_any (A B : Option Addr) (c d : Nat) (cs ps : List (Int × Int)) (g l : Int) (w : World) (hA : Rd w w.heap.size A (pairs cs)) (hB : Rd w w.heap.size B (pairs ps)) (hl : cs.length ≤ 1000) (hl2 : ps.length ≤ 1000) :
    Calls Tryz.prog 35 #[.agg #[.slice A cs.length c, .slice B ps.length d, .int .i64 g, .int .i64 l]] w fun e w' => e = .returned (.int .i64 (ckAcc cs ps g l)) ∧ Below w.heap.size w w' := by
  have HCE := fun w1 (hb : Below w.heap.size w w1) => Lib.hid (rEntries_any A c cs w1 (hA.next hb) hl)
  have HPE := fun w1 (hb : Below w.heap.size w w1) => Lib.hid (rEntries_any B d ps w1 (hB.next hb) hl2)
  by_cases h8 : cs.length > 8 ∨ ps.length > 8
  · have hck : ckAcc cs ps g l = 3 := by unfold ckAcc; rw [if_pos h8]
    rw [hck]
    have hcs : (8 : Int) < cs.length ∨ (¬ (8 : Int) < cs.length ∧ (8 : Int) < ps.length) := by omega
    clear h8 hck
    rcases hcs with h1 | ⟨h1, h2⟩
    all_goals
      go_enter Tryz.func35, Tryz.ntmps35
      go_wp2_with fail
      go_ret
      exact ⟨rfl, by go_grown⟩
  · have h1 : ¬ (8 : Int) < cs.length := by omega
    have h2 : ¬ (8 : Int) < ps.length := by omega
    have HCK : Hid (ckAcc cs ps g l = if accBad cs ps g l = true then 4 else if (risesB 0 (cs.map (·.1)) && risesB 0 (ps.map (·.1))) = true then 0 else 6) := by show _ = _; unfold ckAcc; rw [if_neg h8]
    unfold accBad at HCK
    clear h8
    generalize cs.any entryOkP = ca at *
    generalize ps.any entryOkP = pa at *
    generalize risesB 0 (cs.map (·.1)) = cr at *
    generalize risesB 0 (ps.map (·.1)) = pr at *
    cases hg : inB g 0 60 <;> cases hll : inB l 0 100 <;> cases ca <;> cases pa <;> cases cr <;> cases pr
    all_goals
      rw [hg, hll] at HCK
      have hg' := off_bool hg
      have hl' := off_bool hll
      go_enter Tryz.func35, Tryz.ntmps35
      go_wp2_with fail
      generalize hW1 : World.alloc w _ = W1
      have bw : Below w.heap.size w W1 := by rw [← hW1]; exact below_new _ _
      have nw := news_new w [.slice A cs.length c, .slice B ps.length d, .int .i64 g, .int .i64 l] 85 rfl
      have k1 : W1.cell? ⟨w.heap.size, 1, none⟩ = some (.slice B ps.length d) := by rw [← hW1]; exact nw 1 _ rfl
      have k2 : W1.cell? ⟨w.heap.size, 2, none⟩ = some (.int .i64 g) := by rw [← hW1]; exact nw 2 _ rfl
      have k3 : W1.cell? ⟨w.heap.size, 3, none⟩ = some (.int .i64 l) := by rw [← hW1]; exact nw 3 _ rfl
      have kz : w.heap.size < W1.heap.size := by rw [← hW1]; simp
      clear hW1 nw
      refine (HCE _ bw).out.mono ?_
      rintro e w2 ⟨rfl, hb2⟩
      have k1 := hb2.at_ kz k1
      have k2 := hb2.at_ kz k2
      have k3 := hb2.at_ kz k3
      have bw2 := bw.trans (hb2.mono bw.size)
      have kz := Nat.lt_of_lt_of_le kz hb2.size
      clear hb2 bw
      go_wp2_with fail
      refine (HPE _ bw2).out.mono ?_
      rintro e w3 ⟨rfl, hb3⟩
      have k2 := hb3.at_ kz k2
      have k3 := hb3.at_ kz k3
      have bw3 := bw2.trans (hb3.mono bw2.size)
      have kz := Nat.lt_of_lt_of_le kz hb3.size
      clear hb3 bw2 k1
      go_wp2_with (go_at_call 75; refine (off_any _ _ _ _).mono ?_; rintro e w' ⟨rfl, rfl⟩)
      go_ret
      exact ⟨ret_int (by rw [HCK.out]; rfl), bw3⟩
end Go.Proofs.YtfojjecnmfkcfaaGreat
