/- What a bridge can show too much at a minute: plain. A proof more: what can be is no wider. Plain. What ScaleShown asks of the functions that compute: plain, over the walks' words. The book that a statement works on, out of Made; Wrap. A list of drifts in memory. -/
import Derived.Test.YtcdjoegihmfanaaGreatG13
import Derived.Test.YtcdjoegihmfanaaGreatG20
import Derived.Test.YtcdjoegihmfanaaGreatG17
import Derived.Test.YtcdjoegihmfanaaGreatG11
import Derived.Test.YtcdjoegihmfanaaGreatG8
import Derived.Test.YtcdjoegihmfanaaGreatG4
namespace Go.Proofs.YtcdjoegihmfanaaGreat
set_option linter.unusedVariables false
/-- The values of a way, by minutes. -/
theorem way_fun : ∀ {l : List Ev} {xs : List Int}, sortedE l → fitsL l xs → ∃ v : Int → Int, (∀ m, -50 ≤ v m ∧ v m ≤ 50) ∧ xs = l.map fun e => v e.m
  | [], [], _, _ => ⟨fun _ => 0, fun _ => by show -50 ≤ (0 : Int) ∧ (0 : Int) ≤ 50; omega, rfl⟩
  | [], x :: xs, _, h => absurd h (by simp [fitsL])
  | e :: l, [], _, h => absurd h (by simp [fitsL])
  | e :: l, x :: xs, hs, h => by
    obtain ⟨v, hv, hx⟩ := way_fun hs.2 h.2
    have h1 := h.1
    unfold fits1 at h1
    refine ⟨fun m => if m = e.m then x else v m, fun m => ?_, ?_⟩
    · by_cases c : m = e.m
      · simp only [c, if_true]; omega
      · simp only [c, if_false]; exact hv m
    · rw [List.map_cons]
      simp only [if_true]
      rw [hx]
      congr 1
      refine List.map_congr_left fun y hy => ?_
      have := hs.1 y hy
      rw [if_neg (by omega)]
theorem fitsL_noW (p : Ev) : ∀ {l : List Ev} {xs : List Int}, fitsL (putE l p) xs → fitsL (putE l ⟨p.m, p.lo, p.hi, 0⟩) xs
  | [], xs, h => by
    match xs, h with
    | [x], h => exact ⟨h.1, trivial⟩
    | x :: y :: t, h => exact absurd h.2 (by simp [fitsL])
  | e :: t, xs, h => by
    simp only [putE] at h ⊢
    split at h
    · rename_i hm
      rw [if_pos hm]
      match xs, h with
      | x :: xs, h => exact ⟨h.1, h.2⟩
    · rename_i hm
      rw [if_neg hm]
      split at h
      · rename_i hlt
        rw [if_pos hlt]
        match xs, h with
        | x :: xs, h => exact ⟨h.1, h.2⟩
      · rename_i hlt
        rw [if_neg hlt]
        match xs, h with
        | x :: xs, h => exact ⟨h.1, fitsL_noW p h.2⟩
theorem some_put' {l : List Ev} {p : Ev} {c : Nat} (h : (sumsR (putE l p) c).isSome = true) : (sumsR l c).isSome = true := by
  obtain ⟨xs, hx⟩ := sums_isSome.1 h
  obtain ⟨ys, y1, _, y3, _⟩ := putE_way (p := ⟨p.m, p.lo, p.hi, 0⟩) rfl (fitsL_noW p hx.1)
  exact sums_isSome.2 ⟨ys, y1, Nat.le_trans y3 hx.2⟩
theorem some_putA : ∀ {asks : List (Int × Int)} {l : List Ev} {c : Nat}, (sumsR (putA l asks) c).isSome = true → (sumsR l c).isSome = true
  | [], _, _, h => h
  | a :: t, _, _, h => some_put' (some_putA (asks := t) h)
theorem some_evP {e0 e1 : Int} {ps : List Pr} {n : Int} {asks : List (Int × Int)} {c : Nat} (h : (sumsR (evP e0 e1 ps n asks) c).isSome = true) : (sumsR ((ordL ps n).map (evI e0 e1 ps)) c).isSome = true := some_putA h
/-- Each value of a way at a minute that is asked for. -/
theorem one_bd {e0 e1 : Int} {ps : List Pr} (ho : Once ps) {n m : Int} {c : Nat} {xs : List Int} (h : Way (evP e0 e1 ps n [(m, 1)]) c xs) : -50 ≤ wsum (evP e0 e1 ps n [(m, 1)]) xs ∧ wsum (evP e0 e1 ps n [(m, 1)]) xs ≤ 50 := by
  obtain ⟨v, hv, rfl⟩ := way_fun (evP_sorted ho n _) h.1
  rw [wsum_map]
  have : wsumV v (evP e0 e1 ps n [(m, 1)]) = v m := by
    unfold evP
    rw [wsumV_putA, wsumV_map]
    simp [askSum]
  rw [this]
  exact hv m
/-- A drift that fits makes a way. -/
theorem fit_way {e0 e1 : Int} {ps : List Pr} (ho : Once ps) {n f : Int} {cs : List (Int × Int)} (hf : fitsD e0 e1 ps n f cs) (hv : ∀ m, -50 ≤ valueD f cs m ∧ valueD f cs m ≤ 50) {c : Nat} (hc : cs.length ≤ c) (m : Int) :
    ∃ p, sumsR (evP e0 e1 ps n [(m, 1)]) c = some p ∧ p.1 ≤ valueD f cs m ∧ valueD f cs m ≤ p.2 := by
  obtain ⟨h1, h2⟩ := drift_evP ho hf hv [(m, 1)]
  have h3 := h1.more hc
  have he := sums_ends (evP e0 e1 ps n [(m, 1)]) c
  cases hs : sumsR (evP e0 e1 ps n [(m, 1)]) c with
  | none => exact absurd h3 (sums_none hs _)
  | some p =>
    rw [hs] at he
    obtain ⟨a, b⟩ := p
    have := he.2.2 _ _ ⟨h3, rfl⟩
    rw [h2] at this
    have e : askSum (valueD f cs) [(m, 1)] = valueD f cs m := by simp [askSum]
    rw [e] at this
    exact ⟨(a, b), rfl, this.1, this.2⟩
theorem one_ends {e0 e1 : Int} {ps : List Pr} (ho : Once ps) {n m : Int} {c : Nat} {a b : Int} (h : sumsR (evP e0 e1 ps n [(m, 1)]) c = some (a, b)) : a ≤ b ∧ -50 ≤ a ∧ b ≤ 50 := by
  have he := sums_ends (evP e0 e1 ps n [(m, 1)]) c
  rw [h] at he
  obtain ⟨⟨xs, h1, h2⟩, ⟨ys, h3, h4⟩, h5⟩ := he
  have := h5 xs a ⟨h1, h2⟩
  have k1 := one_bd ho h1
  have k2 := one_bd ho h3
  omega
theorem ends_more {l : List Ev} {c d : Nat} {a b a' b' : Int} (h : sumsR l c = some (a, b)) (k : sumsR l d = some (a', b')) (hd : c ≤ d) : a' ≤ a ∧ b ≤ b' := by
  obtain ⟨h1, h2⟩ := sums_some h
  obtain ⟨k1, k2⟩ := sums_some k
  have n1 := h1.more k1 hd
  have n2 := h2.more k2 hd
  unfold noBetter at n1 n2
  simp at n1 n2
  exact ⟨n1, n2⟩
/-- The groups are few enough for a drift that fits; and such a drift there is. -/
theorem few_fit {e0 e1 : Int} {ps : List Pr} (ho : Once ps) {n f : Int} {cs : List (Int × Int)} (hf : fitsD e0 e1 ps n f cs) : (∀ i ∈ ordL ps n, (spI e0 e1 ps i).1 ≤ (spI e0 e1 ps i).2) ∧ (groupsG (spI e0 e1 ps) (ordL ps n)).length ≤ cs.length + 1 := by
  have hL := ordL_is ho n
  have h1 : ∀ i ∈ ordL ps n, (spI e0 e1 ps i).1 ≤ valueD f cs (pAt ps i).m ∧ valueD f cs (pAt ps i).m ≤ (spI e0 e1 ps i).2 := fun i hi => by
    obtain ⟨a, b⟩ := (hL.2 i).1 hi
    exact hf i a b
  have h2 : ∀ i ∈ ordL ps n, (spI e0 e1 ps i).1 ≤ (spI e0 e1 ps i).2 := fun i hi => by have := h1 i hi; omega
  exact ⟨h2, (few_groups h2 cs.length).1 (evs_way hL.1 h1)⟩
theorem ckD_bd {f : Int} {cs : List (Int × Int)} (h : ckD f cs = 0) (m : Int) : -50 ≤ valueD f cs m ∧ valueD f cs m ≤ 50 := by
  unfold ckD at h
  split at h
  · cases h
  · split at h
    · cases h
    · rename_i h2
      have h2 : rngD f cs = true := by simpa using h2
      simp only [rngD, Bool.and_eq_true, decide_eq_true_eq, List.all_eq_true] at h2
      exact valueD_bd h2.1 fun c hc => by have := h2.2 c hc; omega
theorem few_drift {e0 e1 : Int} {ps : List Pr} (ho : Once ps) (hm : ∀ p ∈ ps, 0 ≤ p.m ∧ p.m ≤ 10000) (hl : ps.length ≤ 10) {n : Int} (hs : ∀ i ∈ ordL ps n, (spI e0 e1 ps i).1 ≤ (spI e0 e1 ps i).2) :
    ∃ f cs, ckD f cs = 0 ∧ cs.length = (groupsG (spI e0 e1 ps) (ordL ps n)).length - 1 ∧ fitsD e0 e1 ps n f cs := by
  have hL := ordL_is ho n
  have hlen : (ordL ps n).length ≤ 10 := by
    have := (List.Nodup.length_le_of_subset (l₁ := ordL ps n) (l₂ := List.range ps.length) ?_ ?_)
    · rw [List.length_range] at this; omega
    · refine hL.1.imp fun {a b} hab e => ?_
      subst e; omega
    · intro i hi
      exact List.mem_range.2 ((hL.2 i).1 hi).1
  obtain ⟨h1, h2, h3⟩ := find_ok hs hL.1 (fun i hi => by
    have := ((hL.2 i).1 hi).1
    rw [pAt_eq this]
    exact hm _ (List.getElem_mem _)) hlen
  exact ⟨_, _, h1, h2, fun i hi hb => h3 i ((hL.2 i).2 ⟨hi, hb⟩)⟩
/-- Whether there is a span at a minute. -/
theorem at_few {e0 e1 : Int} {ps : List Pr} (ho : Once ps) (hm : ∀ p ∈ ps, 0 ≤ p.m ∧ p.m ≤ 10000) (hl : ps.length ≤ 10) {n : Int} (hs : ∀ i ∈ ordL ps n, (spI e0 e1 ps i).1 ≤ (spI e0 e1 ps i).2) (m : Int) (c : Nat) :
    (sumsR (evP e0 e1 ps n [(m, 1)]) c).isSome = true ↔ (groupsG (spI e0 e1 ps) (ordL ps n)).length ≤ c + 1 := by
  refine ⟨fun h => (few_groups hs c).1 (some_evP h), fun h => ?_⟩
  obtain ⟨f, cs, h1, h2, h3⟩ := few_drift ho hm hl hs
  obtain ⟨p, hp, _⟩ := fit_way ho h3 (ckD_bd h1) (c := c) (by omega) m
  rw [hp]; rfl
end Go.Proofs.YtcdjoegihmfanaaGreat
namespace Go.Proofs.YtcdjoegihmfanaaGreat
set_option linter.unusedVariables false
theorem pAt_app {ps : List Pr} {p : Pr} {i : Nat} (h : i < ps.length) : pAt (ps ++ [p]) i = pAt ps i := by unfold pAt; simp [List.getD_eq_getElem?_getD, List.getElem?_append_left h]
theorem pAt_last {ps : List Pr} {p : Pr} : pAt (ps ++ [p]) ps.length = p := by unfold pAt; simp [List.getD_eq_getElem?_getD]
theorem sumAt_no {q : List (Int × Int)} {m : Int} : hasAt q m = false → sumAt q m = 0 := by
  induction q with
  | nil => intro _; rfl
  | cons a q ih =>
    intro h
    simp only [hasAt, List.any_cons, Bool.or_eq_false_iff, beq_eq_false_iff_ne] at h
    simp only [sumAt, if_neg h.1]
    have := ih h.2
    omega
theorem evP_put {e0 e1 : Int} {ps : List Pr} {p : Pr} (h : Once ps) (h' : Once (ps ++ [p])) (n : Int) (asks : List (Int × Int)) :
    evP e0 e1 (ps ++ [p]) n asks = if p.b = n then putE (evP e0 e1 ps n asks) ⟨p.m, (spanP e0 e1 p).1, (spanP e0 e1 p).2, 0⟩ else evP e0 e1 ps n asks := by
  have hlen : (ps ++ [p]).length = ps.length + 1 := by simp
  by_cases hb : p.b = n
  · rw [if_pos hb]
    have hs := evP_sorted (e0 := e0) (e1 := e1) h n asks
    refine sortedE_ext (evP_sorted h' n asks) (putE_sorted hs) fun m => ?_
    obtain ⟨a1, a2⟩ := evP_at (e0 := e0) (e1 := e1) h' n asks m
    obtain ⟨b1, b2⟩ := evP_at (e0 := e0) (e1 := e1) h n asks m
    rw [putE_at hs m]
    by_cases hm : m = p.m
    · rw [if_pos hm]
      have hno : ∀ i, i < ps.length → (pAt ps i).b = n → (pAt ps i).m ≠ m := by
        intro i hi hbi hmi
        have := h' i ps.length hi (by omega)
        rw [pAt_app hi, pAt_last] at this
        exact this (by rw [hbi, hb]) (by rw [hmi, hm])
      have hsp : spI e0 e1 (ps ++ [p]) ps.length = spanP e0 e1 p := by unfold spI; rw [pAt_last]
      have hbd : -50 ≤ (spanP e0 e1 p).1 ∧ (spanP e0 e1 p).2 ≤ 50 := by rw [← hsp]; exact spI_bd _ _ _ _
      rw [a1 ps.length (by omega) (by rw [pAt_last]; exact hb) (by rw [pAt_last]; exact hm.symm), b2 hno, hsp]
      cases ha : hasAt asks m with
      | true =>
        simp only [if_true]
        rw [Int.max_eq_right hbd.1, Int.min_eq_right hbd.2, Int.add_zero]
      | false => simp [sumAt_no ha]
    · rw [if_neg hm]
      by_cases hx : ∃ i, i < ps.length ∧ (pAt ps i).b = n ∧ (pAt ps i).m = m
      · obtain ⟨i, i1, i2, i3⟩ := hx
        rw [b1 i i1 i2 i3, a1 i (by omega) (by rw [pAt_app i1]; exact i2) (by rw [pAt_app i1]; exact i3)]
        unfold spI; rw [pAt_app i1]
      · rw [b2 fun i i1 i2 i3 => hx ⟨i, i1, i2, i3⟩, a2 fun i i1 i2 i3 => ?_]
        by_cases h5 : i < ps.length
        · rw [pAt_app h5] at i2 i3; exact hx ⟨i, h5, i2, i3⟩
        · have : i = ps.length := by omega
          subst this
          rw [pAt_last] at i3; exact hm i3.symm
  · rw [if_neg hb]
    refine sortedE_ext (evP_sorted h' n asks) (evP_sorted h n asks) fun m => ?_
    obtain ⟨a1, a2⟩ := evP_at (e0 := e0) (e1 := e1) h' n asks m
    obtain ⟨b1, b2⟩ := evP_at (e0 := e0) (e1 := e1) h n asks m
    by_cases hx : ∃ i, i < ps.length ∧ (pAt ps i).b = n ∧ (pAt ps i).m = m
    · obtain ⟨i, i1, i2, i3⟩ := hx
      rw [b1 i i1 i2 i3, a1 i (by omega) (by rw [pAt_app i1]; exact i2) (by rw [pAt_app i1]; exact i3)]
      unfold spI; rw [pAt_app i1]
    · rw [b2 fun i i1 i2 i3 => hx ⟨i, i1, i2, i3⟩, a2 fun i i1 i2 i3 => ?_]
      by_cases h5 : i < ps.length
      · rw [pAt_app h5] at i2 i3; exact hx ⟨i, h5, i2, i3⟩
      · have : i = ps.length := by omega
        subst this
        rw [pAt_last] at i2; exact hb i2
/-- With a proof more sums lie within those without it. -/
theorem put_within {e0 e1 : Int} {ps : List Pr} {p : Pr} (h : Once ps) (h' : Once (ps ++ [p])) {n : Int} {asks : List (Int × Int)} {c : Nat} {r s : Int × Int} (hr : sumsR (evP e0 e1 ps n asks) c = some r) (hs : sumsR (evP e0 e1 (ps ++ [p]) n asks) c = some s) : r.1 ≤ s.1 ∧ s.2 ≤ r.2 := by
  obtain ⟨a, b⟩ := r
  obtain ⟨a', b'⟩ := s
  rw [evP_put h h'] at hs
  by_cases hb : p.b = n
  · rw [if_pos hb] at hs
    obtain ⟨r1, r2⟩ := sums_some hr
    obtain ⟨s1, s2⟩ := sums_some hs
    have n1 := best_put rfl r1 s1
    have n2 := best_put rfl r2 s2
    unfold noBetter at n1 n2
    simp at n1 n2
    exact ⟨n1, n2⟩
  · rw [if_neg hb, hr] at hs
    injection hs with hs
    injection hs with h1 h2
    subst h1 h2
    exact ⟨Int.le_refl _, Int.le_refl _⟩
theorem put_some {e0 e1 : Int} {ps : List Pr} {p : Pr} (h : Once ps) (h' : Once (ps ++ [p])) {n : Int} {asks : List (Int × Int)} {c : Nat} (hs : (sumsR (evP e0 e1 (ps ++ [p]) n asks) c).isSome = true) : (sumsR (evP e0 e1 ps n asks) c).isSome = true := by
  rw [evP_put h h'] at hs
  by_cases hb : p.b = n
  · rw [if_pos hb] at hs; exact some_put' hs
  · rw [if_neg hb] at hs; exact hs
end Go.Proofs.YtcdjoegihmfanaaGreat
namespace Go.Proofs.YtcdjoegihmfanaaGreat
open Go.RowKit
set_option linter.unusedVariables false
theorem ckBook_mk {e0 e1 : Int} {ps : List Pr} {ts : List Tr} (h : BkOk e0 e1 ps ts) : ckBook e0 e1 ps ts = 0 := by
  have h1 : [e0, e1].all errOk = true := by
    simp only [List.all_cons, List.all_nil, Bool.and_true, Bool.and_eq_true, errOk, inB_iff]
    exact ⟨h.h0, h.h1⟩
  have h2 : ps.all prRng = true := List.all_eq_true.2 fun p hp => by
    have := h.pr p hp
    simp only [prRng, Bool.and_eq_true, inB_iff]
    exact ⟨this.1, this.2.1, this.2.2.1⟩
  have h3 : ts.all trRng = true := List.all_eq_true.2 fun t ht => by
    have := h.tr t ht
    simp only [trRng, slOk, Bool.and_eq_true, inB_iff]
    exact ⟨⟨⟨this.1, this.2.1⟩, this.2.2.1, this.2.2.2.1⟩, this.2.2.2.2.1⟩
  have h4 : ps.all prBr = true := List.all_eq_true.2 fun p hp => by
    have := (h.pr p hp).2.2.2
    simp only [prBr, inB_iff]
    omega
  have h5 : ts.all trBr = true := List.all_eq_true.2 fun t ht => by
    have := h.tr t ht
    simp only [trBr, Bool.and_eq_true, inB_iff]
    omega
  have h6 : twiceUpto ps ps.length = false := by
    cases ht : twiceUpto ps ps.length with
    | false => rfl
    | true =>
      unfold twiceUpto at ht
      rw [List.any_eq_true] at ht
      obtain ⟨j, hj, ht⟩ := ht
      rw [List.mem_range] at hj
      rw [List.any_eq_true] at ht
      obtain ⟨q, hq, hs⟩ := ht
      rw [List.mem_take_iff_getElem] at hq
      obtain ⟨i, hi, rfl⟩ := hq
      simp only [samePr, Bool.and_eq_true, beq_iff_eq] at hs
      have hi' : i < j := by omega
      refine absurd hs.2 (h.once i j hi' hj ?_ |> fun k => by rw [← pAt_eq (by omega : i < ps.length)]; exact k)
      rw [pAt_eq (by omega : i < ps.length)]; exact hs.1
  have h7 : ts.all trOrd = true := List.all_eq_true.2 fun t ht => by
    have := h.tr t ht
    simp only [trOrd, decide_eq_true_eq]
    omega
  unfold ckBook
  rw [if_neg (by have := h.lp; have := h.lt; omega), h1, h2, h3, h4, h5, h6, h7]
  simp
theorem MdPs.ok {e0 e1 : Int} {V : Int → Int → Int} {ps : List Pr} {ts : List Tr} (h : MdPs e0 e1 V ps) (hV : ∀ b m, -9 ≤ V b m ∧ V b m ≤ 9) (hl : ps.length ≤ 10) (htl : ts.length ≤ 4) (ht : ∀ t ∈ ts, ∃ net, (0 ≤ net ∧ net ≤ 5000) ∧ MdT e0 e1 V net t) : BkOk e0 e1 ps ts := by
  have a0 := h.h0
  have a1 := h.h1
  refine ⟨by omega, by omega, hl, htl, fun p hp => ?_, fun t hh => ?_, h.once⟩
  · have q := h.all p hp
    have q1 := q.m
    have q2 := q.k
    have q3 := q.r
    have q4 := hV p.b p.m
    have q5 : 0 ≤ (if p.b = 0 then e0 else e1) ∧ (if p.b = 0 then e0 else e1) ≤ 3 := by split <;> omega
    generalize (if p.b = 0 then e0 else e1) = e at *
    exact ⟨by omega, by omega, by omega, q.b⟩
  · obtain ⟨net, hn, q⟩ := ht t hh
    have q1 := q.im
    have q2 := q.om
    have q3 := q.mud
    have q4 := q.or
    have q5 := q.ir
    have q6 := hV t.ob t.om
    have q7 := hV t.ib t.im
    have q8 : 0 ≤ (if t.ob = 0 then e0 else e1) ∧ (if t.ob = 0 then e0 else e1) ≤ 3 := by split <;> omega
    have q9 : 0 ≤ (if t.ib = 0 then e0 else e1) ∧ (if t.ib = 0 then e0 else e1) ≤ 3 := by split <;> omega
    generalize (if t.ob = 0 then e0 else e1) = e at *
    generalize (if t.ib = 0 then e0 else e1) = e' at *
    exact ⟨by omega, by omega, by omega, by omega, by omega, q.ib, q.ob, q2.1⟩
theorem ask_mk {e0 e1 : Int} {ps : List Pr} {ts : List Tr} {n ch : Int} (h : BkOk e0 e1 ps ts) (hn : n = 0 ∨ n = 1) (hc : 0 ≤ ch ∧ ch ≤ 4) : askCode (ckBook e0 e1 ps ts) n ch = 0 := by
  have h1 : inB n 0 1 = true := inB_iff.2 (by omega)
  have h2 : inB ch 0 4 = true := inB_iff.2 hc
  unfold askCode
  rw [ckBook_mk h, h1, h2]
  simp
theorem gr_few {e0 e1 : Int} {ps : List Pr} {ts : List Tr} {n f : Int} {cs : List (Int × Int)} (h : BkOk e0 e1 ps ts) (hn : n = 0 ∨ n = 1) (hf : fitsD e0 e1 ps n f cs) : grCode e0 e1 ps ts n = 0 ∧ 0 ≤ fewE e0 e1 ps ts n ∧ fewE e0 e1 ps ts n ≤ cs.length ∧ fewE e0 e1 ps ts n = fewN e0 e1 ps n := by
  obtain ⟨h1, h2⟩ := few_fit h.once hf
  have hg : grCode e0 e1 ps ts n = 0 := grCode_ok (ask_mk h hn (by omega)) h1
  refine ⟨hg, ?_⟩
  unfold fewE
  rw [if_pos hg]
  unfold fewN
  exact ⟨by omega, by omega, rfl⟩
theorem gr_ok {e0 e1 : Int} {ps : List Pr} {ts : List Tr} {n : Int} (h : BkOk e0 e1 ps ts) (hn : n = 0 ∨ n = 1) (hg : grCode e0 e1 ps ts n = 0) : ∀ i ∈ ordL ps n, (spI e0 e1 ps i).1 ≤ (spI e0 e1 ps i).2 := by
  by_cases k : okG (spI e0 e1 ps) (ordL ps n)
  · exact k
  · rw [grCode_bad (ask_mk h hn (by omega)) k] at hg; cases hg
theorem at_code {e0 e1 : Int} {ps : List Pr} {ts : List Tr} {n m : Int} {c : Nat} (h : BkOk e0 e1 ps ts) (hn : n = 0 ∨ n = 1) (hm : 0 ≤ m ∧ m ≤ 10000) (hc : c ≤ 4) : atCode e0 e1 ps ts n m (c : Nat) = if (sumsR (evP e0 e1 ps n [(m, 1)]) c).isSome then 0 else 7 := by
  unfold atCode
  rw [ask_mk h hn (by omega), ask_mk h hn (by omega), if_neg (by simp), if_neg (by rw [inB_iff.2 hm]; simp), Int.toNat_natCast]
  rfl
theorem at_val {e0 e1 : Int} {ps : List Pr} {ts : List Tr} {n m : Int} {c : Nat} {p : Int × Int} (h0 : atCode e0 e1 ps ts n m (c : Nat) = 0) (hs : sumsR (evP e0 e1 ps n [(m, 1)]) c = some p) : atE e0 e1 ps ts n m (c : Nat) = p := by
  unfold atE
  rw [if_pos h0, Int.toNat_natCast]
  unfold solS
  rw [hs]
  rfl
theorem at_no {e0 e1 : Int} {ps : List Pr} {ts : List Tr} {n m : Int} {c : Nat} (h : BkOk e0 e1 ps ts) (hn : n = 0 ∨ n = 1) (hm : 0 ≤ m ∧ m ≤ 10000) (hg : grCode e0 e1 ps ts n = 0) (hc : c ≤ 4) (hlt : (c : Int) < fewE e0 e1 ps ts n) : atCode e0 e1 ps ts n m (c : Nat) = 7 := by
  have hk := at_few h.once (fun p hp => (h.pr p hp).1) h.lp (gr_ok h hn hg) m c
  rw [at_code h hn hm hc]
  unfold fewE at hlt
  rw [if_pos hg] at hlt
  unfold fewN at hlt
  rw [if_neg (fun e => by have := hk.1 e; omega)]
/-- What At tells where there is a span. -/
structure AtOk (e0 e1 : Int) (ps : List Pr) (ts : List Tr) (n m : Int) (c : Nat) : Prop where
  code : atCode e0 e1 ps ts n m (c : Nat) = 0
  some : sumsR (evP e0 e1 ps n [(m, 1)]) c = some (atE e0 e1 ps ts n m (c : Nat))
  le : (atE e0 e1 ps ts n m (c : Nat)).1 ≤ (atE e0 e1 ps ts n m (c : Nat)).2
  lo : -50 ≤ (atE e0 e1 ps ts n m (c : Nat)).1
  hi : (atE e0 e1 ps ts n m (c : Nat)).2 ≤ 50
theorem at_yes {e0 e1 : Int} {ps : List Pr} {ts : List Tr} {n m : Int} {c : Nat} (h : BkOk e0 e1 ps ts) (hn : n = 0 ∨ n = 1) (hm : 0 ≤ m ∧ m ≤ 10000) (hg : grCode e0 e1 ps ts n = 0) (hc : c ≤ 4) (hle : fewE e0 e1 ps ts n ≤ (c : Int)) : AtOk e0 e1 ps ts n m c := by
  have hk := at_few h.once (fun p hp => (h.pr p hp).1) h.lp (gr_ok h hn hg) m c
  unfold fewE at hle
  rw [if_pos hg] at hle
  unfold fewN at hle
  have hs := hk.2 (by omega)
  obtain ⟨⟨a, b⟩, hp⟩ := Option.isSome_iff_exists.1 hs
  have h0 : atCode e0 e1 ps ts n m (c : Nat) = 0 := by rw [at_code h hn hm hc, if_pos hs]
  have hv := at_val h0 hp
  have hb := one_ends h.once hp
  exact ⟨h0, by rw [hv]; exact hp, by rw [hv]; exact hb.1, by rw [hv]; exact hb.2.1, by rw [hv]; exact hb.2.2⟩
theorem AtOk.more {e0 e1 : Int} {ps : List Pr} {ts : List Tr} {n m : Int} {c d : Nat} (h : AtOk e0 e1 ps ts n m c) (k : AtOk e0 e1 ps ts n m d) (hd : c ≤ d) : (atE e0 e1 ps ts n m (d : Nat)).1 ≤ (atE e0 e1 ps ts n m (c : Nat)).1 ∧ (atE e0 e1 ps ts n m (c : Nat)).2 ≤ (atE e0 e1 ps ts n m (d : Nat)).2 := by
  exact ends_more (a := (atE e0 e1 ps ts n m (c : Nat)).1) (b := (atE e0 e1 ps ts n m (c : Nat)).2) h.some k.some hd
theorem fit_mk {e0 e1 : Int} {ps : List Pr} {ts : List Tr} {n f : Int} {cs : List (Int × Int)} (h : BkOk e0 e1 ps ts) (hn : n = 0 ∨ n = 1) (hk : ckD f cs = 0) : fitCode e0 e1 ps ts n f cs = 0 := by
  unfold fitCode
  rw [ask_mk h hn (by omega), if_neg (by simp), hk]
theorem fitE_iff {e0 e1 : Int} {ps : List Pr} {ts : List Tr} {n f : Int} {cs : List (Int × Int)} (h : BkOk e0 e1 ps ts) (hn : n = 0 ∨ n = 1) (hk : ckD f cs = 0) : fitE e0 e1 ps ts n f cs = true ↔ fitsD e0 e1 ps n f cs := by
  unfold fitE
  rw [if_pos (fit_mk h hn hk), List.all_eq_true]
  refine ⟨fun hh i hi hb => ?_, fun hh i hi => ?_⟩
  · have := hh i (((ordL_is h.once n).2 i).2 ⟨hi, hb⟩)
    exact inB_iff.1 this
  · obtain ⟨a, b⟩ := ((ordL_is h.once n).2 i).1 hi
    exact inB_iff.2 (hh i a b)
theorem AtOk.within {e0 e1 : Int} {ps : List Pr} {ts : List Tr} {n m : Int} {c : Nat} (k : AtOk e0 e1 ps ts n m c) {f : Int} {cs : List (Int × Int)} (h : BkOk e0 e1 ps ts) (hn : n = 0 ∨ n = 1) (hk : ckD f cs = 0) (hf : fitE e0 e1 ps ts n f cs = true) (hl : cs.length ≤ c) : inB (valueD f cs m) (atE e0 e1 ps ts n m (c : Nat)).1 (atE e0 e1 ps ts n m (c : Nat)).2 = true := by
  obtain ⟨p, hp, h1, h2⟩ := fit_way h.once ((fitE_iff h hn hk).1 hf) (ckD_bd hk) hl m
  rw [k.some] at hp
  injection hp with hp
  rw [hp]
  exact inB_iff.2 ⟨h1, h2⟩
end Go.Proofs.YtcdjoegihmfanaaGreat
namespace Go.Proofs.YtcdjoegihmfanaaGreat
open Go.RowKit
set_option linter.unusedVariables false
def WrapPost (n : Int) (W : World) (e : Ending) (w' : World) : Prop := ∃ m : Int, e = .returned (.int .i64 m) ∧ 0 ≤ m ∧ m < n ∧ W = w'
theorem wrap_any (v n : Int) (w : World) (hn : 1 ≤ n ∧ n ≤ 1000000) : Calls Tryz.prog 30 #[.int .i64 v, .int .i64 n] w (WrapPost n w) := by
  obtain ⟨hn0, hn1⟩ := hn
  have h1 := Int.tmod_lt_of_pos v (show 0 < n by omega)
  have h2 : -n < v.tmod n := by
    have := Int.lt_tmod_of_pos v (show 0 < n by omega)
    omega
  have hz : ¬ n = 0 := by omega
  by_cases h0 : 0 ≤ v
  · have e1 : v.tmod n = v % n := Int.tmod_eq_emod_of_nonneg h0
    have h3 := Int.emod_nonneg v hz
    have h4 := Int.emod_lt_of_pos v (show 0 < n by omega)
    clear h1 h2 e1
    go_enter Tryz.func30, Tryz.ntmps30
    go_wp2_with fail
    go_ret
    exact ⟨_, rfl, by omega, by omega, rfl⟩
  · obtain ⟨r, hr⟩ : ∃ r, Hid (v.tmod n = r) := ⟨_, Lib.hid rfl⟩
    have hr1 := hr.out
    rw [hr1] at h1 h2
    by_cases h5 : r < 0
    · go_enter Tryz.func30, Tryz.ntmps30
      go_wp2_with fail
      go_ret
      exact ⟨_, rfl, by omega, by omega, rfl⟩
    · go_enter Tryz.func30, Tryz.ntmps30
      go_wp2_with fail
      go_ret
      exact ⟨_, rfl, by omega, by omega, rfl⟩
/-- The book lies in block bb, its lists and the drifts below block g2, which alone may change. -/
structure LwI (W x : World) (g2 bb : Nat) (e0 e1 : Int) (AP : Option Addr) (cp : Nat) (ps : List Pr) (AT : Option Addr) (ct : Nat) (ts : List Tr) (l db : Nat) (D0 D1 : DrM) : Prop where
  bel : Below W.heap.size W x
  k : Blk x bb [.int .i64 e0, .int .i64 e1, .slice AP ps.length cp, .slice AT ts.length ct]
  rp : RdI x 0 g2 AP (prs ps)
  rt : RdI x 0 g2 AT (trs ts)
  dr : DrL x l g2 db D0 D1
  kb : bb < g2
  wg : W.heap.size ≤ g2
  gs : g2 ≤ x.heap.size
  hcp : ps.length ≤ cp
  hct : ts.length ≤ ct
  lp : ps.length ≤ 1000
  lt : ts.length ≤ 1000
section
variable {W x y : World} {g2 bb : Nat} {e0 e1 : Int} {AP : Option Addr} {cp : Nat} {ps : List Pr} {AT : Option Addr} {ct : Nat} {ts : List Tr} {l db : Nat} {D0 D1 : DrM}
theorem LwI.block (h : LwI W x g2 bb e0 e1 AP cp ps AT ct ts l db D0 D1) (hb : Below W.heap.size W y) (hs : x.heap.size ≤ y.heap.size) (hk : ∀ b, b < g2 → y.heap[b]? = x.heap[b]?) : LwI W y g2 bb e0 e1 AP cp ps AT ct ts l db D0 D1 :=
  ⟨hb, h.k.block hs (hk bb h.kb), h.rp.keep fun b _ h2 => hk b h2, h.rt.keep fun b _ h2 => hk b h2, h.dr.block hs fun b _ h2 => hk b h2, h.kb, h.wg, Nat.le_trans h.gs hs, h.hcp, h.hct, h.lp, h.lt⟩
theorem LwI.pull (h : LwI W x g2 bb e0 e1 AP cp ps AT ct ts l db D0 D1) (hg : x.grownBy y (some g2)) : LwI W y g2 bb e0 e1 AP cp ps AT ct ts l db D0 D1 :=
  h.block (below_grown h.bel hg h.wg) hg.size fun b hb => hg.block b (Nat.lt_of_lt_of_le hb h.gs) (by intro e; injection e; omega)
theorem LwI.below (h : LwI W x g2 bb e0 e1 AP cp ps AT ct ts l db D0 D1) (hb : Below x.heap.size x y) : LwI W y g2 bb e0 e1 AP cp ps AT ct ts l db D0 D1 :=
  h.block (h.bel.trans (hb.mono h.bel.size)) hb.size fun b hl => hb.block b (Nat.lt_of_lt_of_le hl h.gs)
theorem LwI.alloc (h : LwI W x g2 bb e0 e1 AP cp ps AT ct ts l db D0 D1) (o : Obj) : LwI W (x.alloc o) g2 bb e0 e1 AP cp ps AT ct ts l db D0 D1 := h.below (below_new x o)
theorem LwI.drewN (h : LwI W x g2 bb e0 e1 AP cp ps AT ct ts l db D0 D1) (n : Nat) : LwI W (x.drewN n) g2 bb e0 e1 AP cp ps AT ct ts l db D0 D1 := h.pull (only_drewN (grownBy_self _ _) n)
theorem LwI.far (h : LwI W x g2 bb e0 e1 AP cp ps AT ct ts l db D0 D1) {b o : Nat} {v : Value} (hb : g2 ≤ b) : LwI W (x.setCell ⟨b, o, none⟩ v) g2 bb e0 e1 AP cp ps AT ct ts l db D0 D1 :=
  h.block (h.bel.setCell (p := ⟨b, o, none⟩) (Nat.le_trans h.wg hb) v) (by simp [World.setCell]) fun k hk => heap_far (by omega)
theorem LwI.row (h : LwI W x g2 bb e0 e1 AP cp ps AT ct ts l db D0 D1) {row : Option Nat} (hg : x.grownBy y row) (hr : ∀ r, row = some r → g2 ≤ r) : LwI W y g2 bb e0 e1 AP cp ps AT ct ts l db D0 D1 :=
  h.block ⟨hg.os.trans h.bel.os, hg.tape.trans h.bel.tape, hg.output.trans h.bel.output, Nat.le_trans h.bel.size hg.size, fun k hk => (hg.block k (Nat.lt_of_lt_of_le hk h.bel.size) (by intro e; have := hr k e.symm; have := h.wg; omega)).trans (h.bel.block k hk)⟩ hg.size fun b hb => hg.block b (Nat.lt_of_lt_of_le hb h.gs) (by intro e; have := hr b e.symm; omega)
theorem LwI.ba (h : LwI W x g2 bb e0 e1 AP cp ps AT ct ts l db D0 D1) : BA x AP AT cp ct ps ts := ⟨h.rp.rd h.gs, h.rt.rd h.gs, h.hcp, h.hct, h.lp, h.lt⟩
theorem LwI.belowB (h : LwI W x g2 bb e0 e1 AP cp ps AT ct ts l db D0 D1) {B : Nat} (hB : g2 ≤ B) (hb : Below B x y) : LwI W y g2 bb e0 e1 AP cp ps AT ct ts l db D0 D1 :=
  h.block (h.bel.trans (hb.mono (Nat.le_trans h.wg hB))) hb.size fun b hl => hb.block b (Nat.lt_of_lt_of_le hl hB)
theorem LwI.pickR (h : LwI W x g2 bb e0 e1 AP cp ps AT ct ts l db D0 D1) {D : DrM} {n : Nat} (hD : pickD D0 D1 n = D) : RdI x 0 g2 D.A (pairs D.cs) := by
  subst hD
  unfold pickD
  split
  · exact h.dr.r0.low (Nat.zero_le _)
  · exact h.dr.r1.low (Nat.zero_le _)
theorem LwI.bl (h : LwI W x g2 bb e0 e1 AP cp ps AT ct ts l db D0 D1) : bb < x.heap.size := h.k.lt
end
theorem MdTs.ok {e0 e1 : Int} {V : Int → Int → Int} {ns : List Int} {ts : List Tr} (h : MdTs e0 e1 V ns ts) : ∀ t ∈ ts, ∃ net, (0 ≤ net ∧ net ≤ 5000) ∧ MdT e0 e1 V net t := fun t ht => by
  obtain ⟨i, hi, rfl⟩ := List.getElem_of_mem ht
  have := h.2 i hi
  exact ⟨_, ⟨this.1.1, by omega⟩, this.2⟩
theorem valB_bd {D0 D1 : DrM} {q : Int} (h0 : MdD q D0.f D0.cs) (h1 : MdD q D1.f D1.cs) : ∀ b m, -9 ≤ valB D0.f D0.cs D1.f D1.cs b m ∧ valB D0.f D0.cs D1.f D1.cs b m ≤ 9 := fun b m => by
  unfold valB
  split
  · exact h0.bd m
  · exact h1.bd m
/-- The made book as the statements take it. -/
theorem made_book {w1 w2 : World} {g1 : Nat} {L : Option Addr} {c : Nat} {zs : List Int} {db : Nat} {D0 D1 : DrM} {ps : List Pr} {vp : Value} {ts : List Tr} {vt : Value} {ns : List Int} {vn : Value} (hM : MadeM w1 w2 g1 L c zs db D0 D1 ps vp ts vt ns vn) (hp : ps.length ≤ 1000) (ht : ts.length ≤ 1000) :
    ∃ AP cp AT ct, vp = .slice AP ps.length cp ∧ vt = .slice AT ts.length ct ∧ ∀ (e0 e1 : Int) (t : TypeId) (w : World) (y : World) (g2 : Nat), Below w.heap.size w w2 → Below (w2.heap.size + 1) (w2.alloc (.cells #[.int .i64 e0, .int .i64 e1, .slice AP ps.length cp, .slice AT ts.length ct] t)) y → w2.heap.size + 1 ≤ g2 → g2 ≤ y.heap.size → LwI w y g2 w2.heap.size e0 e1 AP cp ps AT ct ts w1.heap.size db D0 D1 := by
  obtain ⟨AP, cp, rfl, h1, r1⟩ := own_sliceI hM.op
  obtain ⟨AT, ct, rfl, h2, r2⟩ := own_sliceI hM.ot
  refine ⟨AP, cp, AT, ct, rfl, rfl, fun e0 e1 t w y g2 hb hy hg hgy => ?_⟩
  have hb2 := below_new w2 (.cells #[.int .i64 e0, .int .i64 e1, .slice AP ps.length cp, .slice AT ts.length ct] t)
  have hz : (w2.alloc (.cells #[.int .i64 e0, .int .i64 e1, .slice AP ps.length cp, .slice AT ts.length ct] t)).heap.size = w2.heap.size + 1 := by simp
  have hk := Blk.new w2 [.int .i64 e0, .int .i64 e1, .slice AP ps.length cp, .slice AT ts.length ct] t
  change Blk (w2.alloc (.cells #[.int .i64 e0, .int .i64 e1, .slice AP ps.length cp, .slice AT ts.length ct] t)) _ _ at hk
  generalize w2.alloc (.cells #[.int .i64 e0, .int .i64 e1, .slice AP ps.length cp, .slice AT ts.length ct] t) = W3 at *
  have bl : ∀ b, b < w2.heap.size → y.heap[b]? = w2.heap[b]? := fun b h => (hy.block b (by omega)).trans (hb2.block b h)
  have hw := hb.size
  have hd := hM.dr.block (y := y) (by have := hb2.size; omega) fun b _ hb => bl b hb
  refine ⟨hb.trans ((hb2.mono hb.size).trans (hy.mono (by omega))), hk.block (by omega) (hy.block _ (by omega)), ((r1.keep fun b _ h => bl b h).low (Nat.zero_le _)).more (by omega), ((r2.keep fun b _ h => bl b h).low (Nat.zero_le _)).more (by omega), hd.more (by omega) hgy, by omega, by omega, hgy, h1, h2, hp, ht⟩
end Go.Proofs.YtcdjoegihmfanaaGreat
namespace Go.Proofs.YtcdjoegihmfanaaGreat
open Go.RowKit
set_option linter.unusedVariables false
theorem infoDrift : (Tryz.prog.info? 61).map (fun i => (i.zero, i.size, i.bytes)) = some (some (.agg #[.int .i64 0, .slice none 0 0]), 2, 32) := by kernel_rfl
/-- Drifts as cells. -/
def drs (l : List DrM) : List Value := l.flatMap fun D => [.int .i64 D.f, .slice D.A D.cs.length D.q]
theorem drs_length (l : List DrM) : (drs l).length = l.length * 2 := by
  induction l with
  | nil => rfl
  | cons a t ih => simp only [drs, List.flatMap_cons, List.length_append, List.length_cons, List.length_nil] at *; omega
theorem drs_app (l : List DrM) (D : DrM) : drs (l ++ [D]) = drs l ++ [.int .i64 D.f, .slice D.A D.cs.length D.q] := by simp [drs]
theorem drs_get : ∀ (l : List DrM) (k : Nat) (h : k < l.length), (drs l)[k * 2]? = some (.int .i64 l[k].f) ∧ (drs l)[k * 2 + 1]? = some (.slice l[k].A l[k].cs.length l[k].q)
  | a :: t, 0, _ => ⟨rfl, rfl⟩
  | a :: t, k + 1, h => by
    have := drs_get t k (by simpa using h)
    rw [show (k + 1) * 2 = k * 2 + 2 from by omega, show k * 2 + 2 + 1 = (k * 2 + 1) + 2 from by omega]
    exact this
theorem drs_one (l : List DrM) : ∀ u ∈ drs l, u.oneCell' = true := by
  intro u hu
  simp only [drs, List.mem_flatMap] at hu
  obtain ⟨a, _, h⟩ := hu
  simp at h
  rcases h with rfl | rfl <;> rfl
/-- A drift's changes, in a block that is neither of two. -/
def RdX (x : World) (g2 : Nat) (vb : Option Nat) (A : Option Addr) (xs : List Value) : Prop := xs ≠ [] → ∃ b off, A = some ⟨b, off, none⟩ ∧ b ≠ g2 ∧ some b ≠ vb ∧ b < x.heap.size ∧ ∀ j u, xs[j]? = some u → x.cell? ⟨b, off + j, none⟩ = some u
theorem RdX.rd {x : World} {g2 : Nat} {vb : Option Nat} {A : Option Addr} {xs : List Value} (h : RdX x g2 vb A xs) : Rd x x.heap.size A xs := fun hn => by
  obtain ⟨b, off, e, _, _, h1, h2⟩ := h hn
  exact ⟨b, off, e, h1, h2⟩
theorem RdX.grown {x y : World} {g2 : Nat} {vb row : Option Nat} {A : Option Addr} {xs : List Value} (h : RdX x g2 vb A xs) (hg : x.grownBy y row) (hr : row = some g2 ∨ row = vb) : RdX y g2 vb A xs := fun hn => by
  obtain ⟨b, off, e, n1, n2, h1, h2⟩ := h hn
  refine ⟨b, off, e, n1, n2, Nat.lt_of_lt_of_le h1 hg.size, fun j u hu => (World.cell?_of_block (a := ⟨b, off + j, none⟩) (hg.block b h1 ?_)).trans (h2 j u hu)⟩
  rcases hr with rfl | rfl
  · intro e; injection e with e; exact n1 e
  · exact n2
theorem RdX.below {x y : World} {g2 : Nat} {vb : Option Nat} {A : Option Addr} {xs : List Value} (h : RdX x g2 vb A xs) (hb : Below x.heap.size x y) : RdX y g2 vb A xs := h.grown (grown_below (grownBy_self _ _) hb) (.inl rfl)
theorem RdX.to {x : World} {g2 : Nat} {vb vb' : Option Nat} {A : Option Addr} {xs : List Value} (h : RdX x g2 vb A xs) (hv : vb' = vb ∨ ∀ b, vb' = some b → x.heap.size ≤ b) : RdX x g2 vb' A xs := fun hn => by
  obtain ⟨b, off, e, n1, n2, h1, h2⟩ := h hn
  refine ⟨b, off, e, n1, ?_, h1, h2⟩
  rcases hv with rfl | hv
  · exact n2
  · intro e; have := hv b e.symm; omega
theorem RdX.app {x y : World} {g2 : Nat} {vb vb' : Option Nat} {A : Option Addr} {xs : List Value} (h : RdX x g2 vb A xs) (hg : x.grownBy y vb) (hv : vb' = vb ∨ vb' = some x.heap.size) : RdX y g2 vb' A xs := fun hn => by
  obtain ⟨b, off, e, n1, n2, h1, h2⟩ := h hn
  refine ⟨b, off, e, n1, ?_, Nat.lt_of_lt_of_le h1 hg.size, fun j u hu => (World.cell?_of_block (a := ⟨b, off + j, none⟩) (hg.block b h1 n2)).trans (h2 j u hu)⟩
  rcases hv with rfl | rfl
  · exact n2
  · intro e; injection e; omega
theorem RdX.of {x : World} {l g2 : Nat} {vb : Option Nat} {A : Option Addr} {xs : List Value} (h : RdI x l g2 A xs) (hg : g2 ≤ x.heap.size) (hv : ∀ b, vb = some b → g2 ≤ b) : RdX x g2 vb A xs := fun hn => by
  obtain ⟨b, off, e, h1, h2, h3⟩ := h hn
  exact ⟨b, off, e, by omega, (by intro e; have := hv b e.symm; omega), by omega, h3⟩
theorem RdX.new {x : World} {l g2 : Nat} {vb : Option Nat} {A : Option Addr} {xs : List Value} (h : RdI x l x.heap.size A xs) (hg : g2 < l) (hv : ∀ b, vb = some b → b < l) : RdX x g2 vb A xs := fun hn => by
  obtain ⟨b, off, e, h1, h2, h3⟩ := h hn
  exact ⟨b, off, e, by omega, (by intro e; have := hv b e.symm; omega), h2, h3⟩
theorem RdI.of2x {x : World} {l g2 : Nat} {A : Option Addr} {xs : List Value} (h : RdI x l x.heap.size A xs) (hl : g2 < l) (o : Obj) : RdX (x.alloc o) g2 (some x.heap.size) A xs := fun hn => by
  obtain ⟨b, off, e, h1, h2, h3⟩ := (h.keep fun b _ h => (below_new x o).block b h) hn
  exact ⟨b, off, e, by omega, (by intro e; injection e; omega), by simp; omega, h3⟩
/-- A list of drifts. -/
structure DlI (x : World) (g2 : Nat) (l : List DrM) (v : Value) : Prop where
  own : x.ownsRow (g2 + 1) 61 2 v l.length (drs l)
  rd : ∀ D ∈ l, RdX x g2 v.ownBlock D.A (pairs D.cs)
  ok : ∀ D ∈ l, ckD D.f D.cs = 0
theorem DlI.pull {x y : World} {g2 : Nat} {l : List DrM} {v : Value} (h : DlI x g2 l v) (hg : x.grownBy y (some g2)) : DlI y g2 l v :=
  ⟨h.own.kept hg (.inr fun e => by have := (h.own.lt g2 e).1; omega), fun D hD => (h.rd D hD).grown hg (.inl rfl), h.ok⟩
theorem DlI.below {x y : World} {g2 : Nat} {l : List DrM} {v : Value} (h : DlI x g2 l v) (hb : Below x.heap.size x y) : DlI y g2 l v := h.pull (grown_below (grownBy_self _ _) hb)
theorem DlI.alloc {x : World} {g2 : Nat} {l : List DrM} {v : Value} (h : DlI x g2 l v) (o : Obj) : DlI (x.alloc o) g2 l v := h.below (below_new x o)
theorem DlI.app {x y : World} {g2 : Nat} {l : List DrM} {v v1 : Value} {D : DrM} (h : DlI x g2 l v) (ho : y.ownsRow (g2 + 1) 61 2 v1 (l.length + 1) (drs l ++ [.int .i64 D.f, .slice D.A D.cs.length D.q])) (hg : x.grownBy y v.ownBlock) (hat : v1.ownBlock = v.ownBlock ∨ v1.ownBlock = some x.heap.size) (hD : RdX x g2 v.ownBlock D.A (pairs D.cs)) (hk : ckD D.f D.cs = 0) : DlI y g2 (l ++ [D]) v1 := by
  refine ⟨by rw [drs_app, List.length_append]; exact ho, fun E hE => ?_, fun E hE => ?_⟩
  · rcases List.mem_append.1 hE with hE | hE
    · exact (h.rd E hE).app hg hat
    · simp only [List.mem_singleton] at hE; subst hE; exact hD.app hg hat
  · rcases List.mem_append.1 hE with hE | hE
    · exact h.ok E hE
    · simp only [List.mem_singleton] at hE; subst hE; exact hk
theorem DlI.one {x : World} {g2 l : Nat} {D : DrM} (hg : g2 < x.heap.size) (hD : RdI (x.alloc (.cells #[.int .i64 D.f, .slice D.A D.cs.length D.q] 61)) l g2 D.A (pairs D.cs)) (hk : ckD D.f D.cs = 0) : DlI (x.alloc (.cells #[.int .i64 D.f, .slice D.A D.cs.length D.q] 61)) g2 [D] (.slice (some ⟨x.heap.size, 0, none⟩) 1 1) := by
  refine ⟨?_, fun E hE => ?_, fun E hE => ?_⟩
  · exact World.ownsRow_lit x #[.int .i64 D.f, .slice D.A D.cs.length D.q] 1 hg (by simp [maxLen]) (by simp)
  · simp only [List.mem_singleton] at hE; subst hE
    exact RdX.of hD (by simp; omega) (fun b e => by injection e with e; have e : x.heap.size = b := e; omega)
  · simp only [List.mem_singleton] at hE; subst hE; exact hk
theorem DlI.at_ {x : World} {g2 : Nat} {l : List DrM} {b c n : Nat} (h : DlI x g2 l (.slice (some ⟨b, 0, none⟩) n c)) {k : Nat} (hk : k < l.length) : x.cell? ⟨b, k * 2, none⟩ = some (.int .i64 l[k].f) ∧ x.cell? ⟨b, k * 2 + 1, none⟩ = some (.slice l[k].A l[k].cs.length l[k].q) ∧ Rd x x.heap.size l[k].A (pairs l[k].cs) ∧ ckD l[k].f l[k].cs = 0 ∧ b < x.heap.size := by
  obtain ⟨h1, h2⟩ := drs_get l k hk
  exact ⟨h.own.cells (g := b) rfl _ _ h1 |> fun e => by rwa [addr_add, Nat.zero_add] at e, h.own.cells (g := b) rfl _ _ h2 |> fun e => by rwa [addr_add, Nat.zero_add] at e, (h.rd _ (List.getElem_mem hk)).rd, h.ok _ (List.getElem_mem hk), (h.own.lt b rfl).2⟩
theorem DlI.two {x : World} {g2 l l2 : Nat} {D E : DrM} (hg : g2 < x.heap.size) (hD : RdI x l g2 D.A (pairs D.cs)) (hE : RdI x l2 x.heap.size E.A (pairs E.cs)) (hl : g2 < l2) (hk : ckD D.f D.cs = 0) (hk2 : ckD E.f E.cs = 0) : DlI (x.alloc (.cells #[.int .i64 D.f, .slice D.A D.cs.length D.q, .int .i64 E.f, .slice E.A E.cs.length E.q] 61)) g2 [D, E] (.slice (some ⟨x.heap.size, 0, none⟩) 2 2) := by
  have hb := below_new x (.cells #[.int .i64 D.f, .slice D.A D.cs.length D.q, .int .i64 E.f, .slice E.A E.cs.length E.q] 61)
  refine ⟨?_, fun F hF => ?_, fun F hF => ?_⟩
  · exact World.ownsRow_lit x #[.int .i64 D.f, .slice D.A D.cs.length D.q, .int .i64 E.f, .slice E.A E.cs.length E.q] 2 hg (by simp [maxLen]) (by simp)
  · simp only [List.mem_cons, List.not_mem_nil, or_false] at hF
    rcases hF with rfl | rfl
    · exact RdX.of (hD.keep fun b _ h => hb.block b (by omega)) (by simp; omega) (fun b e => by injection e with e; have e : x.heap.size = b := e; omega)
    · have h := hE.keep fun b _ h => hb.block b h
      intro hn
      obtain ⟨b, off, e, h1, h2, h3⟩ := h hn
      exact ⟨b, off, e, by omega, (by intro e; injection e with e; have e : b = x.heap.size := e; omega), by simp; omega, h3⟩
  · simp only [List.mem_cons, List.not_mem_nil, or_false] at hF
    rcases hF with rfl | rfl
    · exact hk
    · exact hk2
end Go.Proofs.YtcdjoegihmfanaaGreat
