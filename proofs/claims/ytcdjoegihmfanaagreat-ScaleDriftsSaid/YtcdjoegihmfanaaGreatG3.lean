/- The table of best sums, as the program reckons it, has the best sums. The least and the greatest sum as the reference reckons it, by the parts in which a drift stays as it is; and lists the other way round. The table's best sums are those of the reference; what trips ask. Groups that are grown as far as they can are the fewest. Whether a drift with so many changes fits some proofs: by groups, and by sums. The drift that groups tell fits; the pairs that they tell are apart. at: the value of a drift at a minute. Check: the error of a book. -/
import Derived.Test.YtcdjoegihmfanaaGreatG1
import Derived.Test.YtcdjoegihmfanaaGreatG2
namespace Go.Proofs.YtcdjoegihmfanaaGreat
set_option linter.unusedVariables false
def big : Int := 1099511627776
/-- The best of a row of the table, and its place. -/
def topP (b : Bool) (row : Nat → Int) : Nat → Int × Nat
  | 0 => (big, 0)
  | n + 1 => if row n ≠ big ∧ ((topP b row n).1 = big ∨ betterB b (row n) (topP b row n).1 = true) then (row n, n) else topP b row n
def topC (b : Bool) (tab : Nat → Nat → Int) (c : Nat) : Int × Nat := if c = 0 then (big, 0) else topP b (tab (c - 1)) 101
def befP (b : Bool) (here top : Int) (v from_ : Nat) : Int × Nat := if top ≠ big ∧ (here = big ∨ betterB b top here = true) then (top, from_) else (here, v)
def cellP (e : Ev) (n : Int) (v : Nat) : Int := if n ≠ big ∧ e.lo ≤ (v : Int) - 50 ∧ (v : Int) - 50 ≤ e.hi then n + e.w * ((v : Int) - 50) else big
/-- The table behind the events (the last one first). -/
def levP (b : Bool) : List Ev → Nat → Nat → Int
  | [], _, _ => 0
  | e :: l, c, v => cellP e (if l.isEmpty then 0 else (befP b (levP b l c v) (topC b (levP b l) c).1 v (topC b (levP b l) c).2).1) v
theorem noBetter_of_not {b : Bool} {x y : Int} (h : ¬ betterB b x y = true) : noBetter b x y := by
  unfold betterB at h; unfold noBetter; cases b <;> simp at h ⊢ <;> omega
theorem noBetter_of {b : Bool} {x y : Int} (h : betterB b x y = true) : noBetter b y x := by
  unfold betterB at h; unfold noBetter; cases b <;> simp at h ⊢ <;> omega
theorem noBetter.trans_ {b : Bool} {x y z : Int} (h : noBetter b x y) (k : noBetter b y z) : noBetter b x z := by
  unfold noBetter at *; cases b <;> simp at h k ⊢ <;> omega
theorem noBetter.rfl_ {b : Bool} {x : Int} : noBetter b x x := by
  unfold noBetter; cases b <;> simp
theorem noBetter.add {b : Bool} {x y : Int} (h : noBetter b x y) (k : Int) : noBetter b (x + k) (y + k) := by
  unfold noBetter at *; cases b <;> simp at h ⊢ <;> omega
theorem topP_spec (b : Bool) (row : Nat → Int) : ∀ n, ((topP b row n).1 = big ∧ ∀ v, v < n → row v = big) ∨
    ((topP b row n).1 ≠ big ∧ (topP b row n).2 < n ∧ row (topP b row n).2 = (topP b row n).1 ∧ ∀ v, v < n → row v = big ∨ noBetter b (row v) (topP b row n).1)
  | 0 => .inl ⟨rfl, fun v h => absurd h (by omega)⟩
  | n + 1 => by
    have ih := topP_spec b row n
    simp only [topP]
    split
    · rename_i h
      refine .inr ⟨h.1, by simp, rfl, fun v hv => ?_⟩
      by_cases e : v = n
      · subst e; exact .inr noBetter.rfl_
      · have hv' : v < n := by omega
        rcases ih with ⟨i1, i2⟩ | ⟨i1, i2, i3, i4⟩
        · exact .inl (i2 v hv')
        · rcases i4 v hv' with k | k
          · exact .inl k
          · rcases h.2 with h2 | h2
            · exact absurd h2 i1
            · exact .inr (k.trans_ (noBetter_of h2))
    · rename_i h
      rcases ih with ⟨i1, i2⟩ | ⟨i1, i2, i3, i4⟩
      · refine .inl ⟨i1, fun v hv => ?_⟩
        by_cases e : v = n
        · subst e
          by_cases hb : row v = big
          · exact hb
          · exact absurd ⟨hb, .inl i1⟩ h
        · exact i2 v (by omega)
      · refine .inr ⟨i1, by omega, i3, fun v hv => ?_⟩
        by_cases e : v = n
        · subst e
          by_cases hb : row v = big
          · exact .inl hb
          · refine .inr (noBetter_of_not fun k => h ⟨hb, .inr k⟩)
        · exact i4 v (by omega)
/-- What the table says at a value: no way ends there, or the best one of those that do. -/
def LevOk (b : Bool) (l : List Ev) (c : Nat) (x n : Int) : Prop :=
  (n = big ∧ ∀ xs, Way l c xs → xs.head? ≠ some x) ∨
  (n ≠ big ∧ -(50000 * (l.length : Int)) ≤ n ∧ n ≤ 50000 * (l.length : Int) ∧ (∃ xs, Way l c xs ∧ xs.head? = some x ∧ wsum l xs = n) ∧ ∀ xs, Way l c xs → xs.head? = some x → noBetter b (wsum l xs) n)
def TopOk (b : Bool) (l : List Ev) (c : Nat) (n : Int) : Prop :=
  (n = big ∧ ∀ xs, ¬ Way l c xs) ∨ (n ≠ big ∧ -(50000 * (l.length : Int)) ≤ n ∧ n ≤ 50000 * (l.length : Int) ∧ IsBest b l c n)
theorem Way.head {l : List Ev} {c : Nat} {xs : List Int} (h : Way l c xs) (hl : l ≠ []) : ∃ v : Nat, v < 101 ∧ xs.head? = some ((v : Int) - 50) := by
  match l, xs, h with
  | e :: l, x :: xs, h =>
    have := h.1.1
    unfold fits1 at this
    exact ⟨(x + 50).toNat, by omega, by simp; omega⟩
theorem top_ok {b : Bool} {l : List Ev} {c : Nat} (hl : l ≠ []) {tab : Nat → Nat → Int} (h : ∀ v : Nat, v < 101 → LevOk b l c ((v : Int) - 50) (tab c v)) : TopOk b l c (topP b (tab c) 101).1 := by
  rcases topP_spec b (tab c) 101 with ⟨i1, i2⟩ | ⟨i1, i2, i3, i4⟩
  · refine .inl ⟨i1, fun xs hx => ?_⟩
    obtain ⟨v, hv, hh⟩ := hx.head hl
    rcases h v hv with ⟨_, k⟩ | ⟨k, _⟩
    · exact k xs hx hh
    · exact k (i2 v hv)
  · rcases h _ i2 with ⟨k, _⟩ | ⟨k1, k2, k3, ⟨xs, x1, x2, x3⟩, k5⟩
    · exact absurd (i3 ▸ k) i1
    · rw [i3] at k2 k3 x3 k5
      refine .inr ⟨i1, k2, k3, ⟨xs, x1, x3⟩, fun ys hy => ?_⟩
      obtain ⟨v, hv, hh⟩ := hy.head hl
      rcases h v hv with ⟨_, m⟩ | ⟨m1, _, _, _, m⟩
      · exact absurd hh (m ys hy)
      · rcases i4 v hv with q | q
        · exact absurd q m1
        · exact (m ys hy hh).trans_ q
theorem lev_ok (b : Bool) : ∀ (l : List Ev), l ≠ [] → (∀ e ∈ l, -1000 ≤ e.w ∧ e.w ≤ 1000) → l.length ≤ 1000 → ∀ (c v : Nat), v < 101 → LevOk b l c ((v : Int) - 50) (levP b l c v)
  | [], h, _, _, _, _, _ => absurd rfl h
  | [e], _, hw, _, c, v, hv => by
    have hwe := hw e (by simp)
    have hp : -50000 ≤ e.w * ((v : Int) - 50) ∧ e.w * ((v : Int) - 50) ≤ 50000 := by
      have a : (v : Int) - 50 ≤ 50 := by omega
      have a' : -50 ≤ (v : Int) - 50 := by omega
      generalize (v : Int) - 50 = x at a a'
      constructor
      · rcases Int.le_total 0 e.w with h | h
        · have := Int.mul_le_mul_of_nonneg_left a' h; omega
        · have := Int.mul_le_mul_of_nonpos_left h a; omega
      · rcases Int.le_total 0 e.w with h | h
        · have := Int.mul_le_mul_of_nonneg_left a h; omega
        · have := Int.mul_le_mul_of_nonpos_left h a'; omega
    simp only [levP, cellP, List.isEmpty_nil, if_true]
    split
    · rename_i h
      refine .inr ⟨by unfold big; omega, by simp; omega, by simp; omega, ⟨[(v : Int) - 50], ⟨⟨⟨h.2.1, h.2.2, by omega, by omega⟩, trivial⟩, by simp [chg]⟩, rfl, by simp [wsum]⟩, ?_⟩
      intro xs hx hh
      match xs, hx, hh with
      | [x], hx, hh => simp at hh; subst hh; simp [wsum]; exact noBetter.rfl_
      | x :: y :: t, hx, _ => exact absurd hx.1.2 (by simp [fitsL])
    · rename_i h
      refine .inl ⟨rfl, fun xs hx hh => ?_⟩
      match xs, hx, hh with
      | x :: t, hx, hh =>
        simp at hh; subst hh
        have := hx.1.1
        exact h ⟨by unfold big; omega, this.1, this.2.1⟩
  | e :: e' :: l, _, hw, hlen, c, v, hv => by
    have hwe := hw e (by simp)
    have hp : -50000 ≤ e.w * ((v : Int) - 50) ∧ e.w * ((v : Int) - 50) ≤ 50000 := by
      have a : (v : Int) - 50 ≤ 50 := by omega
      have a' : -50 ≤ (v : Int) - 50 := by omega
      generalize (v : Int) - 50 = x at a a'
      constructor
      · rcases Int.le_total 0 e.w with h | h
        · have := Int.mul_le_mul_of_nonneg_left a' h; omega
        · have := Int.mul_le_mul_of_nonpos_left h a; omega
      · rcases Int.le_total 0 e.w with h | h
        · have := Int.mul_le_mul_of_nonneg_left a h; omega
        · have := Int.mul_le_mul_of_nonpos_left h a'; omega
    have hw' : ∀ x ∈ e' :: l, -1000 ≤ x.w ∧ x.w ≤ 1000 := fun x hx => hw x (List.mem_cons_of_mem _ hx)
    have hlen' : (e' :: l).length ≤ 1000 := by simp at hlen ⊢; omega
    have IH := fun c v hv => lev_ok b (e' :: l) (by simp) hw' hlen' c v hv
    generalize hL : e' :: l = L at IH hlen'
    have hLn : L ≠ [] := by rw [← hL]; simp
    have hLl : (L.length : Int) + 1 = ((e :: L).length : Int) := by simp
    have hLe : L.isEmpty = false := by rw [← hL]; rfl
    -- the best sum before the event
    have hB : LevOk b L c ((v : Int) - 50) (levP b L c v) := IH c v hv
    have hT : (c = 0 ∧ (topC b (levP b L) c).1 = big) ∨ (0 < c ∧ TopOk b L (c - 1) (topC b (levP b L) c).1) := by
      unfold topC
      by_cases h0 : c = 0
      · exact .inl ⟨h0, by simp [h0]⟩
      · refine .inr ⟨by omega, ?_⟩
        rw [if_neg h0]
        exact top_ok hLn fun v hv => IH (c - 1) v hv
    have hBd : (levP b L c v ≠ big → -(50000 * (L.length : Int)) ≤ levP b L c v ∧ levP b L c v ≤ 50000 * (L.length : Int)) := by
      intro hh; rcases hB with ⟨k, _⟩ | ⟨_, k1, k2, _⟩
      · exact absurd k hh
      · exact ⟨k1, k2⟩
    simp only [levP, hLe, Bool.false_eq_true, if_false]
    generalize htf : (topC b (levP b L) c).2 = tf
    generalize htop : (topC b (levP b L) c).1 = top at hT
    generalize hhere : levP b L c v = here at hB hBd
    -- what is a way at the head
    have hway : ∀ xs, Way (e :: L) c xs → xs.head? = some ((v : Int) - 50) → fits1 e ((v : Int) - 50) ∧ ∃ ys, xs = ((v : Int) - 50) :: ys ∧ wsum (e :: L) xs = wsum L ys + e.w * ((v : Int) - 50) ∧
        ((Way L c ys ∧ ys.head? = some ((v : Int) - 50)) ∨ (0 < c ∧ Way L (c - 1) ys)) := by
      intro xs hx hh
      match xs, hx, hh with
      | x :: ys, hx, hh =>
        simp at hh; subst hh
        refine ⟨hx.1.1, ys, rfl, by simp [wsum]; omega, ?_⟩
        match ys, hx with
        | [], hx => exact absurd (fitsL_length hx.1.2) (by rw [← hL]; simp)
        | y :: t, hx =>
          have h2 := hx.2
          simp only [chg] at h2
          by_cases exy : (v : Int) - 50 = y
          · rw [if_pos exy] at h2
            exact .inl ⟨⟨hx.1.2, by omega⟩, by simp [exy]⟩
          · rw [if_neg exy] at h2
            exact .inr ⟨by omega, hx.1.2, by omega⟩
    have hmk : ∀ ys, fits1 e ((v : Int) - 50) → ((Way L c ys ∧ ys.head? = some ((v : Int) - 50)) ∨ (0 < c ∧ Way L (c - 1) ys)) → Way (e :: L) c (((v : Int) - 50) :: ys) ∧ wsum (e :: L) (((v : Int) - 50) :: ys) = wsum L ys + e.w * ((v : Int) - 50) := by
      intro ys hf hy
      refine ⟨?_, by simp [wsum]; omega⟩
      rcases hy with ⟨hy, hh⟩ | ⟨hc, hy⟩
      · match ys, hy, hh with
        | y :: t, hy, hh => simp at hh; subst hh; exact ⟨⟨hf, hy.1⟩, by simp only [chg]; simp; exact hy.2⟩
      · match ys, hy with
        | [], hy => exact ⟨⟨hf, hy.1⟩, by simp [chg]⟩
        | y :: t, hy => exact ⟨⟨hf, hy.1⟩, by simp only [chg]; have := hy.2; split <;> omega⟩
    -- the best before: 'n'
    have hN : ((befP b here top v tf).1 = big ∧ ∀ ys, ¬ ((Way L c ys ∧ ys.head? = some ((v : Int) - 50)) ∨ (0 < c ∧ Way L (c - 1) ys))) ∨
        ((befP b here top v tf).1 ≠ big ∧ -(50000 * (L.length : Int)) ≤ (befP b here top v tf).1 ∧ (befP b here top v tf).1 ≤ 50000 * (L.length : Int) ∧
          (∃ ys, ((Way L c ys ∧ ys.head? = some ((v : Int) - 50)) ∨ (0 < c ∧ Way L (c - 1) ys)) ∧ wsum L ys = (befP b here top v tf).1) ∧
          ∀ ys, ((Way L c ys ∧ ys.head? = some ((v : Int) - 50)) ∨ (0 < c ∧ Way L (c - 1) ys)) → noBetter b (wsum L ys) (befP b here top v tf).1) := by
      have hTt : top ≠ big → 0 < c ∧ -(50000 * (L.length : Int)) ≤ top ∧ top ≤ 50000 * (L.length : Int) ∧ IsBest b L (c - 1) top := by
        intro hh
        rcases hT with ⟨_, k⟩ | ⟨hc, ⟨k, _⟩ | ⟨_, k1, k2, k3⟩⟩
        · exact absurd k hh
        · exact absurd k hh
        · exact ⟨hc, k1, k2, k3⟩
      have hTn : top = big → ∀ ys, ¬ (0 < c ∧ Way L (c - 1) ys) := by
        intro hh ys ⟨hc, hy⟩
        rcases hT with ⟨k, _⟩ | ⟨_, ⟨_, k⟩ | ⟨k, _⟩⟩
        · omega
        · exact k ys hy
        · exact k hh
      have hHn : here = big → ∀ ys, ¬ (Way L c ys ∧ ys.head? = some ((v : Int) - 50)) := by
        intro hh ys ⟨h1, h2⟩
        rcases hB with ⟨_, k⟩ | ⟨k, _⟩
        · exact k ys h1 h2
        · exact k hh
      have hHy : here ≠ big → (∃ xs, Way L c xs ∧ xs.head? = some ((v : Int) - 50) ∧ wsum L xs = here) ∧ ∀ xs, Way L c xs → xs.head? = some ((v : Int) - 50) → noBetter b (wsum L xs) here := by
        intro hh
        rcases hB with ⟨k, _⟩ | ⟨_, _, _, k1, k2⟩
        · exact absurd k hh
        · exact ⟨k1, k2⟩
      unfold befP
      split
      · rename_i h
        obtain ⟨t1, t2, t3, ⟨ys, y1, y2⟩, t5⟩ := hTt h.1
        refine .inr ⟨h.1, t2, t3, ⟨ys, .inr ⟨t1, y1⟩, y2⟩, fun zs hz => ?_⟩
        rcases hz with ⟨z1, z2⟩ | ⟨_, z1⟩
        · rcases h.2 with k | k
          · exact absurd ⟨z1, z2⟩ (hHn k zs)
          · by_cases hb : here = big
            · exact absurd ⟨z1, z2⟩ (hHn hb zs)
            · exact ((hHy hb).2 zs z1 z2).trans_ (noBetter_of k)
        · exact t5 zs z1
      · rename_i h
        by_cases hb : here = big
        · refine .inl ⟨hb, fun ys hy => ?_⟩
          have ht : top = big := by
            by_cases ht : top = big
            · exact ht
            · exact absurd ⟨ht, .inl hb⟩ h
          rcases hy with hy | hy
          · exact hHn hb ys hy
          · exact hTn ht ys hy
        · obtain ⟨⟨xs, x1, x2, x3⟩, x4⟩ := hHy hb
          refine .inr ⟨hb, (hBd hb).1, (hBd hb).2, ⟨xs, .inl ⟨x1, x2⟩, x3⟩, fun zs hz => ?_⟩
          rcases hz with ⟨z1, z2⟩ | hz
          · exact x4 zs z1 z2
          · by_cases ht : top = big
            · exact absurd hz (hTn ht zs)
            · have nb : ¬ betterB b top here = true := fun k => h ⟨ht, .inr k⟩
              exact ((hTt ht).2.2.2.2 zs hz.2).trans_ (noBetter_of_not nb)
    generalize (befP b here top v tf).1 = n at hN
    unfold cellP
    split
    · rename_i h
      rcases hN with ⟨k, _⟩ | ⟨_, k1, k2, ⟨ys, y1, y2⟩, k5⟩
      · exact absurd k h.1
      · have hf : fits1 e ((v : Int) - 50) := ⟨h.2.1, h.2.2, by omega, by omega⟩
        obtain ⟨m1, m2⟩ := hmk ys hf y1
        have hl1 : (L.length : Int) ≤ 1000 := by omega
        refine .inr ⟨by unfold big; omega, by omega, by omega, ⟨_, m1, rfl, by rw [m2, y2]⟩, fun xs hx hh => ?_⟩
        obtain ⟨_, zs, _, hs, hz⟩ := hway xs hx hh
        rw [hs]
        exact (k5 zs hz).add _
    · rename_i h
      refine .inl ⟨rfl, fun xs hx hh => ?_⟩
      obtain ⟨hf, zs, _, _, hz⟩ := hway xs hx hh
      rcases hN with ⟨_, k⟩ | ⟨k, _⟩
      · exact k zs hz
      · exact h ⟨k, hf.1, hf.2.1⟩
end Go.Proofs.YtcdjoegihmfanaaGreat
namespace Go.Proofs.YtcdjoegihmfanaaGreat
set_option linter.unusedVariables false
theorem fitsL_reverse : ∀ {l : List Ev} {xs : List Int}, fitsL l xs → fitsL l.reverse xs.reverse
  | [], [], _ => trivial
  | e :: l, x :: xs, h => by
    rw [List.reverse_cons, List.reverse_cons]
    exact (fitsL_append (by simp [fitsL_length h.2])).2 ⟨fitsL_reverse h.2, h.1, trivial⟩
theorem wsum_reverse : ∀ {l : List Ev} {xs : List Int}, l.length = xs.length → wsum l.reverse xs.reverse = wsum l xs
  | [], [], _ => rfl
  | e :: l, x :: xs, h => by
    rw [List.reverse_cons, List.reverse_cons, wsum_append (by simpa using h), wsum_reverse (by simpa using h)]
    simp [wsum]; omega
theorem chg_reverse : ∀ (xs : List Int), chg xs.reverse = chg xs
  | [] => rfl
  | [a] => rfl
  | a :: b :: t => by
    have ih := chg_reverse (b :: t)
    rw [List.reverse_cons] at ih
    rw [List.reverse_cons, List.reverse_cons, List.append_assoc]
    show chg (t.reverse ++ [b, a]) = _
    rw [chg_snoc, ih]
    simp only [chg]
    by_cases e : a = b
    · subst e; simp
    · rw [if_neg e, if_neg (fun h => e h.symm)]; omega
theorem Way.reverse {l : List Ev} {c : Nat} {xs : List Int} (h : Way l c xs) : Way l.reverse c xs.reverse := ⟨fitsL_reverse h.1, by rw [chg_reverse]; exact h.2⟩
theorem IsBest.reverse {b : Bool} {l : List Ev} {c : Nat} {m : Int} (h : IsBest b l c m) : IsBest b l.reverse c m := by
  obtain ⟨⟨xs, h1, h2⟩, h3⟩ := h
  refine ⟨⟨xs.reverse, h1.reverse, by rw [wsum_reverse (fitsL_length h1.1), h2]⟩, fun ys hy => ?_⟩
  have k := hy.reverse
  rw [List.reverse_reverse] at k
  have := h3 _ k
  rwa [← wsum_reverse (fitsL_length hy.1), List.reverse_reverse]
/-- Two results of which each can lack. -/
def combR : Option (Int × Int) → Option (Int × Int) → Option (Int × Int)
  | none, y => y
  | x, none => x
  | some (a, b), some (c, d) => some (if c < a then c else a, if b < d then d else b)
def endR (lo hi w : Int) (p : Int × Int) : Int × Int := if 0 ≤ w then (p.1 + w * lo, p.2 + w * hi) else (p.1 + w * hi, p.2 + w * lo)
/-- The sums from an event on, the first part having begun. -/
def partsR (lo hi w : Int) : List Ev → Nat → Option (Int × Int)
  | [], _ => none
  | e :: t, c =>
    let lo' := if lo < e.lo then e.lo else lo
    let hi' := if e.hi < hi then e.hi else hi
    if hi' < lo' then none else
      combR (if c = 0 ∧ t ≠ [] then none else (if t = [] then some (0, 0) else partsR (-50) 50 0 t (c - 1)).map (endR lo' hi' (w + e.w))) (partsR lo' hi' (w + e.w) t c)
def sumsR (l : List Ev) (c : Nat) : Option (Int × Int) := if l = [] then some (0, 0) else partsR (-50) 50 0 l c
/-- Both ends of what the ways of a kind sum to. -/
def Ends (P : List Int → Int → Prop) : Option (Int × Int) → Prop
  | none => ∀ xs v, ¬ P xs v
  | some (a, b) => (∃ xs, P xs a) ∧ (∃ xs, P xs b) ∧ ∀ xs v, P xs v → a ≤ v ∧ v ≤ b
theorem Ends.comb {P Q R : List Int → Int → Prop} {x y : Option (Int × Int)} (hx : Ends P x) (hy : Ends Q y) (h : ∀ xs v, R xs v ↔ P xs v ∨ Q xs v) : Ends R (combR x y) := by
  match x, y with
  | none, none => exact fun xs v hr => (h xs v).1 hr |>.elim (hx xs v) (hy xs v)
  | none, some (c, d) =>
    obtain ⟨⟨xs, h1⟩, ⟨ys, h2⟩, h3⟩ := hy
    exact ⟨⟨xs, (h _ _).2 (.inr h1)⟩, ⟨ys, (h _ _).2 (.inr h2)⟩, fun zs v hr => ((h zs v).1 hr).elim (fun k => absurd k (hx zs v)) (h3 zs v)⟩
  | some (a, b), none =>
    obtain ⟨⟨xs, h1⟩, ⟨ys, h2⟩, h3⟩ := hx
    exact ⟨⟨xs, (h _ _).2 (.inl h1)⟩, ⟨ys, (h _ _).2 (.inl h2)⟩, fun zs v hr => ((h zs v).1 hr).elim (h3 zs v) (fun k => absurd k (hy zs v))⟩
  | some (a, b), some (c, d) =>
    obtain ⟨⟨xs, h1⟩, ⟨ys, h2⟩, h3⟩ := hx
    obtain ⟨⟨xs', h1'⟩, ⟨ys', h2'⟩, h3'⟩ := hy
    refine ⟨?_, ?_, fun zs v hr => ?_⟩
    · by_cases e : c < a
      · rw [if_pos e]; exact ⟨xs', (h _ _).2 (.inr h1')⟩
      · rw [if_neg e]; exact ⟨xs, (h _ _).2 (.inl h1)⟩
    · by_cases e : b < d
      · rw [if_pos e]; exact ⟨ys', (h _ _).2 (.inr h2')⟩
      · rw [if_neg e]; exact ⟨ys, (h _ _).2 (.inl h2)⟩
    · rcases (h zs v).1 hr with k | k
      · have := h3 zs v k; constructor <;> split <;> omega
      · have := h3' zs v k; constructor <;> split <;> omega
/-- What a part that is begun (its span, how often it counts) and the events from there on can sum to. -/
def From (lo hi w : Int) (l : List Ev) (c : Nat) (xs : List Int) (v : Int) : Prop := Way l c xs ∧ ∃ x, xs.head? = some x ∧ lo ≤ x ∧ x ≤ hi ∧ v = w * x + wsum l xs
theorem mul_lo {w x lo hi : Int} (hw : 0 ≤ w) (h1 : lo ≤ x) (h2 : x ≤ hi) : w * lo ≤ w * x ∧ w * x ≤ w * hi := ⟨Int.mul_le_mul_of_nonneg_left h1 hw, Int.mul_le_mul_of_nonneg_left h2 hw⟩
theorem mul_hi {w x lo hi : Int} (hw : w ≤ 0) (h1 : lo ≤ x) (h2 : x ≤ hi) : w * hi ≤ w * x ∧ w * x ≤ w * lo := ⟨Int.mul_le_mul_of_nonpos_left hw h2, Int.mul_le_mul_of_nonpos_left hw h1⟩
theorem Ends.last {lo hi w : Int} {P Q : List Int → Int → Prop} {x : Option (Int × Int)} (hx : Ends P x) (hlh : lo ≤ hi) (h : ∀ xs v, Q xs v ↔ ∃ y ys s, xs = y :: ys ∧ lo ≤ y ∧ y ≤ hi ∧ P ys s ∧ v = w * y + s) : Ends Q (x.map (endR lo hi w)) := by
  match x with
  | none => exact fun xs v hq => by obtain ⟨y, ys, s, _, _, _, hp, _⟩ := (h xs v).1 hq; exact hx ys s hp
  | some (a, b) =>
    obtain ⟨⟨xs, h1⟩, ⟨ys, h2⟩, h3⟩ := hx
    show Ends Q (some (endR lo hi w (a, b)))
    unfold endR
    split
    · rename_i hw
      refine ⟨⟨lo :: xs, (h _ _).2 ⟨lo, xs, a, rfl, Int.le_refl _, hlh, h1, by simp; omega⟩⟩, ⟨hi :: ys, (h _ _).2 ⟨hi, ys, b, rfl, hlh, Int.le_refl _, h2, by simp; omega⟩⟩, fun zs v hq => ?_⟩
      obtain ⟨y, ys, s, _, y1, y2, hp, rfl⟩ := (h zs v).1 hq
      have := h3 _ _ hp
      have := mul_lo hw y1 y2
      simp; omega
    · rename_i hw
      refine ⟨⟨hi :: xs, (h _ _).2 ⟨hi, xs, a, rfl, hlh, Int.le_refl _, h1, by simp; omega⟩⟩, ⟨lo :: ys, (h _ _).2 ⟨lo, ys, b, rfl, Int.le_refl _, hlh, h2, by simp; omega⟩⟩, fun zs v hq => ?_⟩
      obtain ⟨y, ys, s, _, y1, y2, hp, rfl⟩ := (h zs v).1 hq
      have := h3 _ _ hp
      have := mul_hi (w := w) (by omega) y1 y2
      simp; omega
theorem from_all {l : List Ev} {c : Nat} (hl : l ≠ []) (xs : List Int) (v : Int) : From (-50) 50 0 l c xs v ↔ Way l c xs ∧ v = wsum l xs := by
  constructor
  · rintro ⟨h, x, _, _, _, rfl⟩; exact ⟨h, by simp⟩
  · rintro ⟨h, rfl⟩
    match l, xs, h with
    | e :: l, x :: xs, h => exact ⟨h, x, rfl, h.1.1.2.2.1, h.1.1.2.2.2, by simp⟩
theorem parts_ends : ∀ (l : List Ev) (c : Nat) (lo hi w : Int), l ≠ [] → -50 ≤ lo → hi ≤ 50 → Ends (From lo hi w l c) (partsR lo hi w l c)
  | [], _, _, _, _, h, _, _ => absurd rfl h
  | e :: t, c, lo, hi, w, _, hlo, hhi => by
    simp only [partsR]
    have hlo' : (if lo < e.lo then e.lo else lo) = max lo e.lo := by split <;> omega
    have hhi' : (if e.hi < hi then e.hi else hi) = min hi e.hi := by split <;> omega
    rw [hlo', hhi']
    split
    · rename_i hno
      rintro xs v ⟨hw, x, hx, h1, h2, _⟩
      match xs, hw, hx with
      | y :: ys, hw, hx =>
        simp at hx; subst hx
        have := hw.1.1
        unfold fits1 at this
        omega
    · rename_i hyes
      -- the part ends here
      have hA : Ends (fun xs v => ∃ y ys s, xs = y :: ys ∧ max lo e.lo ≤ y ∧ y ≤ min hi e.hi ∧ ((t = [] ∧ ys = [] ∧ s = 0) ∨ (t ≠ [] ∧ 0 < c ∧ Way t (c - 1) ys ∧ s = wsum t ys)) ∧ v = (w + e.w) * y + s)
          (if c = 0 ∧ t ≠ [] then none else (if t = [] then some (0, 0) else partsR (-50) 50 0 t (c - 1)).map (endR (max lo e.lo) (min hi e.hi) (w + e.w))) := by
        split
        · rename_i h0
          rintro xs v ⟨y, ys, s, _, _, _, ⟨h, _⟩ | ⟨_, h, _⟩, _⟩
          · exact h0.2 h
          · omega
        · rename_i h0
          refine Ends.last (P := fun ys s => (t = [] ∧ ys = [] ∧ s = 0) ∨ (t ≠ [] ∧ 0 < c ∧ Way t (c - 1) ys ∧ s = wsum t ys)) ?_ (by omega) (fun xs v => Iff.rfl)
          by_cases ht : t = []
          · rw [if_pos ht]
            exact ⟨⟨[], .inl ⟨ht, rfl, rfl⟩⟩, ⟨[], .inl ⟨ht, rfl, rfl⟩⟩, fun ys s h => by rcases h with ⟨_, _, rfl⟩ | ⟨h, _⟩; exact ⟨Int.le_refl _, Int.le_refl _⟩; exact absurd ht h⟩
          · rw [if_neg ht]
            have hc : 0 < c := by
              by_cases hc : c = 0
              · exact absurd ⟨hc, ht⟩ h0
              · omega
            have ih := parts_ends t (c - 1) (-50) 50 0 ht (by omega) (by omega)
            have e1 : From (-50) 50 0 t (c - 1) = fun ys s => (t = [] ∧ ys = [] ∧ s = 0) ∨ (t ≠ [] ∧ 0 < c ∧ Way t (c - 1) ys ∧ s = wsum t ys) := by
              funext ys s
              rw [eq_iff_iff, from_all ht]
              constructor
              · rintro ⟨a, b⟩; exact .inr ⟨ht, hc, a, b⟩
              · rintro (⟨a, _⟩ | ⟨_, _, a, b⟩)
                · exact absurd a ht
                · exact ⟨a, b⟩
            rwa [e1] at ih
      -- it goes on
      have hB : Ends (fun xs v => ∃ y ys, xs = y :: ys ∧ From (max lo e.lo) (min hi e.hi) (w + e.w) t c ys v ∧ ys.head? = some y) (partsR (max lo e.lo) (min hi e.hi) (w + e.w) t c) := by
        by_cases ht : t = []
        · subst ht
          rintro xs v ⟨y, ys, _, ⟨hw, _⟩, hh⟩
          match ys, hw, hh with
          | z :: zs, hw, _ => exact hw.1
        · have ih := parts_ends t c (max lo e.lo) (min hi e.hi) (w + e.w) ht (by omega) (by omega)
          revert ih
          generalize partsR (max lo e.lo) (min hi e.hi) (w + e.w) t c = o
          intro ih
          match o, ih with
          | none, ih => exact fun xs v ⟨y, ys, _, h, _⟩ => ih ys v h
          | some (a, b), ⟨⟨xs, h1⟩, ⟨ys, h2⟩, h3⟩ =>
            obtain ⟨x, hx, _⟩ := h1.2
            obtain ⟨y, hy, _⟩ := h2.2
            exact ⟨⟨x :: xs, x, xs, rfl, h1, hx⟩, ⟨y :: ys, y, ys, rfl, h2, hy⟩, fun zs v ⟨_, qs, _, h, _⟩ => h3 qs v h⟩
      refine Ends.comb hA hB fun xs v => ?_
      constructor
      · rintro ⟨hw, x, hx, h1, h2, rfl⟩
        match xs, hw, hx with
        | x' :: ys, hw, hx =>
          simp at hx; subst hx
          have hf := hw.1.1
          unfold fits1 at hf
          have hv : w * x' + wsum (e :: t) (x' :: ys) = (w + e.w) * x' + wsum t ys := by simp only [wsum, Int.add_mul]; omega
          match t, ys, hw with
          | [], [], hw => exact .inl ⟨x', [], 0, rfl, by omega, by omega, .inl ⟨rfl, rfl, rfl⟩, by rw [hv]; simp [wsum]⟩
          | e2 :: t, y :: ys, hw =>
            have hc := hw.2
            simp only [chg] at hc
            by_cases exy : x' = y
            · subst exy
              simp at hc
              exact .inr ⟨x', x' :: ys, rfl, ⟨⟨hw.1.2, by omega⟩, x', rfl, by omega, by omega, hv⟩, rfl⟩
            · rw [if_neg exy] at hc
              exact .inl ⟨x', y :: ys, _, rfl, by omega, by omega, .inr ⟨by simp, by omega, ⟨hw.1.2, by omega⟩, rfl⟩, hv⟩
      · rintro (⟨y, ys, s, rfl, h1, h2, hs, rfl⟩ | ⟨y, ys, rfl, ⟨hw, x, hx, h1, h2, rfl⟩, hh⟩)
        · have hv : ∀ q, w * y + (e.w * y + q) = (w + e.w) * y + q := fun q => by rw [Int.add_mul]; omega
          rcases hs with ⟨rfl, rfl, rfl⟩ | ⟨ht, hc, hw, rfl⟩
          · exact ⟨⟨⟨⟨by omega, by omega, by omega, by omega⟩, trivial⟩, by simp [chg]⟩, y, rfl, by omega, by omega, (hv 0).symm⟩
          · refine ⟨⟨⟨⟨by omega, by omega, by omega, by omega⟩, hw.1⟩, ?_⟩, y, rfl, by omega, by omega, (hv _).symm⟩
            match ys, hw with
            | [], hw => simp [chg]
            | z :: zs, hw => simp only [chg]; have := hw.2; split <;> omega
        · rw [hx] at hh
          injection hh with hh
          subst hh
          refine ⟨⟨⟨⟨by omega, by omega, by omega, by omega⟩, hw.1⟩, ?_⟩, x, rfl, by omega, by omega, by simp only [wsum, Int.add_mul]; omega⟩
          match ys, hw, hx with
          | z :: zs, hw, hx => simp at hx; subst hx; simp only [chg]; simp; exact hw.2
theorem sums_ends (l : List Ev) (c : Nat) : Ends (fun xs v => Way l c xs ∧ v = wsum l xs) (sumsR l c) := by
  unfold sumsR
  by_cases h : l = []
  · subst h
    rw [if_pos rfl]
    refine ⟨⟨[], ⟨trivial, by simp [chg]⟩, rfl⟩, ⟨[], ⟨trivial, by simp [chg]⟩, rfl⟩, fun xs v h => ?_⟩
    obtain ⟨h, rfl⟩ := h
    match xs, h with
    | [], _ => simp [wsum]
    | x :: xs, h => exact absurd h.1 (by simp [fitsL])
  · rw [if_neg h]
    have := parts_ends l c (-50) 50 0 h (by omega) (by omega)
    have e : From (-50) 50 0 l c = fun xs v => Way l c xs ∧ v = wsum l xs := by funext xs v; rw [eq_iff_iff, from_all h]
    rwa [e] at this
/-- The reference's sums are the best ones. -/
theorem sums_some {l : List Ev} {c : Nat} {a b : Int} (h : sumsR l c = some (a, b)) : IsBest false l c a ∧ IsBest true l c b := by
  have := sums_ends l c
  rw [h] at this
  obtain ⟨⟨xs, h1, h2⟩, ⟨ys, h3, h4⟩, h5⟩ := this
  exact ⟨⟨⟨xs, h1, h2.symm⟩, fun zs hz => (h5 zs _ ⟨hz, rfl⟩).1⟩, ⟨⟨ys, h3, h4.symm⟩, fun zs hz => (h5 zs _ ⟨hz, rfl⟩).2⟩⟩
theorem sums_none {l : List Ev} {c : Nat} (h : sumsR l c = none) : ∀ xs, ¬ Way l c xs := by
  have := sums_ends l c
  rw [h] at this
  exact fun xs hx => this xs _ ⟨hx, rfl⟩
end Go.Proofs.YtcdjoegihmfanaaGreat
namespace Go.Proofs.YtcdjoegihmfanaaGreat
set_option linter.unusedVariables false
def pick (b : Bool) (p : Int × Int) : Int := if b then p.2 else p.1
theorem sums_pick {l : List Ev} {c : Nat} {p : Int × Int} (h : sumsR l c = some p) (b : Bool) : IsBest b l c (pick b p) := by
  obtain ⟨h1, h2⟩ := sums_some (a := p.1) (b := p.2) h
  cases b
  · exact h1
  · exact h2
theorem solve_sum (b : Bool) (l : List Ev) (c : Nat) (hl : l ≠ []) (hw : ∀ e ∈ l, -1000 ≤ e.w ∧ e.w ≤ 1000) (hlen : l.length ≤ 1000) :
    (sumsR l c = none ∧ (topP b (levP b l.reverse c) 101).1 = big) ∨ (∃ p, sumsR l c = some p ∧ (topP b (levP b l.reverse c) 101).1 = pick b p ∧ pick b p ≠ big) := by
  have hr : l.reverse ≠ [] := by simpa using hl
  have hT := top_ok hr (c := c) (tab := levP b l.reverse) fun v hv => lev_ok b l.reverse hr (fun e he => hw e (by simpa using he)) (by simpa using hlen) c v hv
  cases hs : sumsR l c with
  | none =>
    refine .inl ⟨rfl, ?_⟩
    rcases hT with ⟨h, _⟩ | ⟨_, _, _, ⟨xs, hx, _⟩, _⟩
    · exact h
    · have := hx.reverse
      rw [List.reverse_reverse] at this
      exact absurd this (sums_none hs _)
  | some p =>
    refine .inr ⟨p, rfl, ?_⟩
    have hb := (sums_pick hs b)
    rcases hT with ⟨_, h⟩ | ⟨h, _, _, h'⟩
    · obtain ⟨⟨xs, hx, _⟩, _⟩ := hb
      exact absurd hx.reverse (h _)
    · have h2 := h'.reverse
      rw [List.reverse_reverse] at h2
      have := h2.uniq hb
      exact ⟨this, by rw [← this]; exact h⟩
/-- What trips ask of a bridge: by minutes, how often its drift counts. -/
def asksOf (ts : List Tr) (n : Int) : List (Int × Int) := ts.flatMap fun t => (if t.ib = n then [(t.im, -1)] else []) ++ (if t.ob = n then [(t.om, 1)] else [])
def hasAt (l : List (Int × Int)) (m : Int) : Bool := l.any fun p => p.1 == m
def sumAt : List (Int × Int) → Int → Int
  | [], _ => 0
  | p :: t, m => (if p.1 = m then p.2 else 0) + sumAt t m
def putA (l : List Ev) (asks : List (Int × Int)) : List Ev := asks.foldl (fun l p => putE l ⟨p.1, -50, 50, p.2⟩) l
theorem putA_sorted : ∀ {asks : List (Int × Int)} {l : List Ev}, sortedE l → sortedE (putA l asks)
  | [], _, h => h
  | p :: t, l, h => putA_sorted (asks := t) (putE_sorted h)
def spanOk (l : List Ev) : Prop := ∀ e ∈ l, -50 ≤ e.lo ∧ e.hi ≤ 50
theorem putE_spanOk {l : List Ev} {m w : Int} (h : spanOk l) : spanOk (putE l ⟨m, -50, 50, w⟩) := by
  induction l with
  | nil => intro e he; simp [putE] at he; subst he; simp
  | cons a t ih =>
    have ha := h a (by simp)
    have ht : spanOk t := fun e he => h e (List.mem_cons_of_mem _ he)
    intro e he
    simp only [putE] at he
    split at he
    · rcases List.mem_cons.1 he with rfl | he
      · simp only [mergeE]; omega
      · exact ht e he
    · split at he
      · rcases List.mem_cons.1 he with rfl | he
        · simp
        · exact h e he
      · rcases List.mem_cons.1 he with rfl | he
        · exact ha
        · exact ih ht e he
theorem putA_spanOk : ∀ {asks : List (Int × Int)} {l : List Ev}, spanOk l → spanOk (putA l asks)
  | [], _, h => h
  | p :: t, l, h => putA_spanOk (asks := t) (putE_spanOk h)
theorem putA_at : ∀ {asks : List (Int × Int)} {l : List Ev}, sortedE l → spanOk l → ∀ m, evAt (putA l asks) m =
    if hasAt asks m = true then (match evAt l m with | none => some (-50, 50, sumAt asks m) | some (a, b, w) => some (a, b, w + sumAt asks m)) else evAt l m
  | [], l, _, _, m => by simp [putA, hasAt]
  | p :: t, l, hs, hk, m => by
    show evAt (putA (putE l ⟨p.1, -50, 50, p.2⟩) t) m = _
    rw [putA_at (asks := t) (putE_sorted hs) (putE_spanOk hk) m, putE_at hs m]
    have hh : hasAt (p :: t) m = (p.1 == m || hasAt t m) := rfl
    have hz : ∀ {q : List (Int × Int)}, hasAt q m = false → sumAt q m = 0 := by
      intro q
      induction q with
      | nil => intro _; rfl
      | cons a q ih =>
        intro h
        simp only [hasAt, List.any_cons, Bool.or_eq_false_iff, beq_eq_false_iff_ne] at h
        simp only [sumAt, if_neg h.1]
        have := ih h.2
        omega
    have hbd : ∀ a b w, evAt l m = some (a, b, w) → max a (-50) = a ∧ min b 50 = b := by
      intro a b w h
      have := hk _ (evAt_mem h)
      simp at this
      omega
    rw [hh]
    simp only [sumAt]
    by_cases e : p.1 = m
    · have e' : m = p.1 := e.symm
      simp only [e, beq_self_eq_true, Bool.true_or, if_true]
      cases hl : evAt l m with
      | none =>
        simp only
        cases ht : hasAt t m with
        | true => simp
        | false => simp [hz ht]
      | some q =>
        obtain ⟨a, b, w⟩ := q
        obtain ⟨h1, h2⟩ := hbd a b w hl
        simp only [h1, h2]
        cases ht : hasAt t m with
        | true => simp; omega
        | false => simp [hz ht]
    · have e' : ¬ m = p.1 := fun h => e h.symm
      simp only [e', if_false, e, beq_eq_false_iff_ne.2 e, Bool.false_or, Int.zero_add]
/-- The events of a bridge: its proofs, and what is asked. -/
def evP (e0 e1 : Int) (ps : List Pr) (n : Int) (asks : List (Int × Int)) : List Ev := putA ((ordL ps n).map (evI e0 e1 ps)) asks
theorem spanOk_map (e0 e1 : Int) (ps : List Pr) (l : List Nat) : spanOk (l.map (evI e0 e1 ps)) := by
  intro e he
  simp only [List.mem_map] at he
  obtain ⟨i, _, rfl⟩ := he
  simp only [evI, spI, spanP]
  omega
theorem evP_sorted {e0 e1 : Int} {ps : List Pr} (h : Once ps) (n : Int) (asks : List (Int × Int)) : sortedE (evP e0 e1 ps n asks) := putA_sorted (sortedE_map (ordL_is h n).1)
/-- What stands at a minute, in the program's words: a proof's span or all, and what is asked. -/
theorem evP_at {e0 e1 : Int} {ps : List Pr} (h : Once ps) (n : Int) (asks : List (Int × Int)) (m : Int) :
    (∀ i, i < ps.length → (pAt ps i).b = n → (pAt ps i).m = m → evAt (evP e0 e1 ps n asks) m = some ((spI e0 e1 ps i).1, (spI e0 e1 ps i).2, sumAt asks m)) ∧
    ((∀ i, i < ps.length → (pAt ps i).b = n → (pAt ps i).m ≠ m) → evAt (evP e0 e1 ps n asks) m = if hasAt asks m = true then some (-50, 50, sumAt asks m) else none) := by
  have hz : ∀ {q : List (Int × Int)}, hasAt q m = false → sumAt q m = 0 := by
    intro q
    induction q with
    | nil => intro _; rfl
    | cons a q ih =>
      intro h
      simp only [hasAt, List.any_cons, Bool.or_eq_false_iff, beq_eq_false_iff_ne] at h
      simp only [sumAt, if_neg h.1]
      have := ih h.2
      omega
  have ho := ordL_is h n
  have hs := sortedE_map (e0 := e0) (e1 := e1) ho.1
  unfold evP
  rw [putA_at hs (spanOk_map _ _ _ _) m]
  constructor
  · intro i hi hb hm
    have hmem : evI e0 e1 ps i ∈ (ordL ps n).map (evI e0 e1 ps) := List.mem_map_of_mem ((ho.2 i).2 ⟨hi, hb⟩)
    have := mem_evAt hs hmem
    rw [show (evI e0 e1 ps i).m = m from hm] at this
    rw [this]
    cases ha : hasAt asks m with
    | true => simp [evI]
    | false => simp [evI, hz ha]
  · intro hno
    have : evAt ((ordL ps n).map (evI e0 e1 ps)) m = none := evAt_none fun e he => by
      simp only [List.mem_map] at he
      obtain ⟨i, hi, rfl⟩ := he
      obtain ⟨h1, h2⟩ := (ho.2 i).1 hi
      exact hno i h1 h2
    rw [this]
end Go.Proofs.YtcdjoegihmfanaaGreat
namespace Go.Proofs.YtcdjoegihmfanaaGreat
set_option linter.unusedVariables false
/-- How many groups more are begun behind one with a span. -/
def gN : Int → Int → List Ev → Nat
  | _, _, [] => 0
  | lo, hi, e :: t => if max lo e.lo ≤ min hi e.hi then gN (max lo e.lo) (min hi e.hi) t else 1 + gN e.lo e.hi t
theorem gN_mono : ∀ (t : List Ev), (∀ (a b c d : Int), gN a b t ≤ 1 + gN c d t) ∧ (∀ (a b c d : Int), a ≤ c → d ≤ b → gN a b t ≤ gN c d t)
  | [] => ⟨fun _ _ _ _ => by simp [gN], fun _ _ _ _ _ _ => by simp [gN]⟩
  | e :: t => by
    obtain ⟨h1, h2⟩ := gN_mono t
    constructor
    · intro a b c d
      simp only [gN]
      split
      · split
        · exact h1 _ _ _ _
        · have := h1 (max a e.lo) (min b e.hi) e.lo e.hi; omega
      · split
        · have := h2 e.lo e.hi (max c e.lo) (min d e.hi) (by omega) (by omega); omega
        · omega
    · intro a b c d hac hdb
      simp only [gN]
      split
      · split
        · exact h2 _ _ _ _ (by omega) (by omega)
        · exact h1 _ _ _ _
      · split
        · omega
        · omega
/-- Whatever fits changes as often as groups are begun. -/
theorem gN_le : ∀ (t : List Ev) (lo hi x : Int) (xs : List Int), lo ≤ x → x ≤ hi → fitsL t xs → gN lo hi t ≤ chg (x :: xs)
  | [], _, _, _, [], _, _, _ => by simp [gN]
  | e :: t, lo, hi, x, y :: ys, h1, h2, hf => by
    obtain ⟨f1, f2, _, _⟩ := hf.1
    simp only [gN, chg]
    by_cases exy : x = y
    · subst exy
      rw [if_pos rfl, if_pos (by omega)]
      have := gN_le t (max lo e.lo) (min hi e.hi) x ys (by omega) (by omega) hf.2
      omega
    · rw [if_neg exy]
      have := gN_le t e.lo e.hi y ys f1 f2 hf.2
      split
      · have k := (gN_mono t).1 (max lo e.lo) (min hi e.hi) e.lo e.hi
        omega
      · omega
/-- And something fits that changes no more often. -/
theorem gN_ex : ∀ (t : List Ev) (lo hi : Int), lo ≤ hi → -50 ≤ lo → hi ≤ 50 → (∀ e ∈ t, e.lo ≤ e.hi ∧ -50 ≤ e.lo ∧ e.hi ≤ 50) → ∃ x xs, lo ≤ x ∧ x ≤ hi ∧ fitsL t xs ∧ chg (x :: xs) ≤ gN lo hi t
  | [], lo, hi, h, _, _, _ => ⟨lo, [], Int.le_refl _, h, trivial, by simp [chg]⟩
  | e :: t, lo, hi, h, h1, h2, he => by
    obtain ⟨e1, e2, e3⟩ := he e (by simp)
    have he' : ∀ e ∈ t, e.lo ≤ e.hi ∧ -50 ≤ e.lo ∧ e.hi ≤ 50 := fun x hx => he x (List.mem_cons_of_mem _ hx)
    simp only [gN]
    split
    · rename_i hm
      obtain ⟨x, xs, x1, x2, hf, hc⟩ := gN_ex t (max lo e.lo) (min hi e.hi) hm (by omega) (by omega) he'
      exact ⟨x, x :: xs, by omega, by omega, ⟨⟨by omega, by omega, by omega, by omega⟩, hf⟩, by simp only [chg]; simp; exact hc⟩
    · obtain ⟨x, xs, x1, x2, hf, hc⟩ := gN_ex t e.lo e.hi e1 e2 e3 he'
      exact ⟨lo, x :: xs, Int.le_refl _, h, ⟨⟨x1, x2, by omega, by omega⟩, hf⟩, by simp only [chg]; split <;> omega⟩
/-- How many groups. -/
def gAll : List Ev → Nat
  | [] => 0
  | e :: t => 1 + gN e.lo e.hi t
theorem way_iff {l : List Ev} (hl : ∀ e ∈ l, e.lo ≤ e.hi ∧ -50 ≤ e.lo ∧ e.hi ≤ 50) (c : Nat) : (∃ xs, Way l c xs) ↔ gAll l ≤ c + 1 := by
  match l, hl with
  | [], _ => exact ⟨fun _ => by simp [gAll], fun _ => ⟨[], trivial, by simp [chg]⟩⟩
  | e :: t, hl =>
    obtain ⟨e1, e2, e3⟩ := hl e (by simp)
    constructor
    · rintro ⟨xs, hf, hc⟩
      match xs, hf, hc with
      | x :: xs, hf, hc =>
        have := gN_le t e.lo e.hi x xs hf.1.1 hf.1.2.1 hf.2
        simp only [gAll]; omega
    · intro h
      obtain ⟨x, xs, x1, x2, hf, hc⟩ := gN_ex t e.lo e.hi e1 e2 e3 fun y hy => hl y (List.mem_cons_of_mem _ hy)
      simp only [gAll] at h
      exact ⟨x :: xs, ⟨⟨x1, x2, by omega, by omega⟩, hf⟩, by omega⟩
theorem way_empty {l : List Ev} {e : Ev} (he : e ∈ l) (h : e.hi < e.lo) (c : Nat) (xs : List Int) : ¬ Way l c xs := by
  rintro ⟨hf, -⟩
  induction l generalizing xs with
  | nil => simp at he
  | cons a t ih =>
    match xs, hf with
    | x :: xs, hf =>
      rcases List.mem_cons.1 he with rfl | k
      · have := hf.1.1; have := hf.1.2.1; omega
      · exact ih k xs hf.2
/-- A group: its span, and its proofs. -/
structure Gr where
  lo : Int
  hi : Int
  ps : List Nat
deriving DecidableEq, Repr
def newG (sp : Nat → Int × Int) (i : Nat) : Gr := ⟨(sp i).1, (sp i).2, [i]⟩
def addG (sp : Nat → Int × Int) (g : Gr) (i : Nat) : Gr := ⟨max g.lo (sp i).1, min g.hi (sp i).2, g.ps ++ [i]⟩
def meetsG (sp : Nat → Int × Int) (g : Gr) (i : Nat) : Bool := decide (max g.lo (sp i).1 ≤ min g.hi (sp i).2)
def growG (sp : Nat → Int × Int) (out : List Gr) (i : Nat) : List Gr :=
  match out.getLast? with
  | none => [newG sp i]
  | some g => if meetsG sp g i then out.dropLast ++ [addG sp g i] else out ++ [newG sp i]
/-- The groups from one on. -/
def fromG (sp : Nat → Int × Int) : Gr → List Nat → List Gr
  | g, [] => [g]
  | g, i :: t => if meetsG sp g i then fromG sp (addG sp g i) t else g :: fromG sp (newG sp i) t
def groupsG (sp : Nat → Int × Int) (l : List Nat) : List Gr := l.foldl (growG sp) []
theorem foldl_growG (sp : Nat → Int × Int) : ∀ (l : List Nat) (out : List Gr) (g : Gr), l.foldl (growG sp) (out ++ [g]) = out ++ fromG sp g l
  | [], out, g => rfl
  | i :: t, out, g => by
    simp only [List.foldl_cons, growG, List.getLast?_concat, List.dropLast_concat, fromG]
    split
    · exact foldl_growG sp t out _
    · rw [foldl_growG sp t (out ++ [g]) _, List.append_assoc]; rfl
theorem groupsG_cons (sp : Nat → Int × Int) (i : Nat) (t : List Nat) : groupsG sp (i :: t) = fromG sp (newG sp i) t := by
  have := foldl_growG sp t [] (newG sp i)
  simpa [groupsG, growG] using this
def evsOf (sp : Nat → Int × Int) (l : List Nat) : List Ev := l.map fun i => ⟨0, (sp i).1, (sp i).2, 0⟩
theorem fromG_length (sp : Nat → Int × Int) : ∀ (l : List Nat) (g : Gr), (fromG sp g l).length = 1 + gN g.lo g.hi (evsOf sp l)
  | [], g => rfl
  | i :: t, g => by
    simp only [fromG, evsOf, List.map_cons, gN, meetsG, decide_eq_true_eq]
    split
    · rw [fromG_length sp t]; rfl
    · rw [List.length_cons, fromG_length sp t]; simp only [newG, evsOf]; omega
theorem groupsG_length (sp : Nat → Int × Int) (l : List Nat) : (groupsG sp l).length = gAll (evsOf sp l) := by
  match l with
  | [] => rfl
  | i :: t => rw [groupsG_cons, fromG_length]; rfl
theorem fromG_ne (sp : Nat → Int × Int) : ∀ (l : List Nat) (g : Gr), fromG sp g l ≠ []
  | [], g => by simp [fromG]
  | i :: t, g => by
    simp only [fromG]
    split
    · exact fromG_ne sp t _
    · simp
/-- What a group is. -/
def GoodG (sp : Nat → Int × Int) (g : Gr) : Prop :=
  g.lo ≤ g.hi ∧ (∀ i ∈ g.ps, (sp i).1 ≤ g.lo ∧ g.hi ≤ (sp i).2) ∧ (∃ i ∈ g.ps, (sp i).1 = g.lo) ∧ (∃ i ∈ g.ps, (sp i).2 = g.hi)
theorem goodG_new {sp : Nat → Int × Int} {i : Nat} (h : (sp i).1 ≤ (sp i).2) : GoodG sp (newG sp i) := ⟨h, by simp [newG], ⟨i, by simp [newG]⟩, ⟨i, by simp [newG]⟩⟩
theorem goodG_add {sp : Nat → Int × Int} {g : Gr} {i : Nat} (hg : GoodG sp g) (h : meetsG sp g i = true) : GoodG sp (addG sp g i) := by
  obtain ⟨h1, h2, ⟨j, j1, j2⟩, ⟨k, k1, k2⟩⟩ := hg
  simp only [meetsG, decide_eq_true_eq] at h
  refine ⟨h, ?_, ?_, ?_⟩
  · intro x hx
    simp only [addG, List.mem_append, List.mem_singleton] at hx ⊢
    rcases hx with hx | rfl
    · have := h2 x hx; omega
    · omega
  · simp only [addG, List.mem_append, List.mem_singleton]
    by_cases e : g.lo ≤ (sp i).1
    · exact ⟨i, .inr rfl, by omega⟩
    · exact ⟨j, .inl j1, by omega⟩
  · simp only [addG, List.mem_append, List.mem_singleton]
    by_cases e : (sp i).2 ≤ g.hi
    · exact ⟨i, .inr rfl, by omega⟩
    · exact ⟨k, .inl k1, by omega⟩
theorem fromG_good {sp : Nat → Int × Int} : ∀ {l : List Nat} {g : Gr}, GoodG sp g → (∀ i ∈ l, (sp i).1 ≤ (sp i).2) → ∀ h ∈ fromG sp g l, GoodG sp h
  | [], g, hg, _, h, hh => by simp [fromG] at hh; subst hh; exact hg
  | i :: t, g, hg, hl, h, hh => by
    simp only [fromG] at hh
    split at hh
    · rename_i hm; exact fromG_good (goodG_add hg hm) (fun x hx => hl x (List.mem_cons_of_mem _ hx)) h hh
    · rcases List.mem_cons.1 hh with rfl | hh
      · exact hg
      · exact fromG_good (goodG_new (hl i (by simp))) (fun x hx => hl x (List.mem_cons_of_mem _ hx)) h hh
theorem groupsG_good {sp : Nat → Int × Int} {l : List Nat} (hl : ∀ i ∈ l, (sp i).1 ≤ (sp i).2) : ∀ h ∈ groupsG sp l, GoodG sp h := by
  match l, hl with
  | [], _ => intro h hh; simp [groupsG] at hh
  | i :: t, hl => rw [groupsG_cons]; exact fromG_good (goodG_new (hl i (by simp))) fun x hx => hl x (List.mem_cons_of_mem _ hx)
theorem fromG_flat (sp : Nat → Int × Int) : ∀ (l : List Nat) (g : Gr), (fromG sp g l).flatMap Gr.ps = g.ps ++ l
  | [], g => by simp [fromG]
  | i :: t, g => by
    simp only [fromG]
    split
    · rw [fromG_flat sp t]; simp [addG]
    · rw [List.flatMap_cons, fromG_flat sp t]; simp [newG]
theorem groupsG_flat (sp : Nat → Int × Int) (l : List Nat) : (groupsG sp l).flatMap Gr.ps = l := by
  match l with
  | [] => rfl
  | i :: t => rw [groupsG_cons, fromG_flat]; rfl
/-- The first of a group is apart from the group before it. -/
def Linked (sp : Nat → Int × Int) : List Gr → Prop
  | g :: h :: t => (∃ f r, h.ps = f :: r ∧ meetsG sp g f = false) ∧ Linked sp (h :: t)
  | _ => True
theorem fromG_head (sp : Nat → Int × Int) : ∀ (l : List Nat) (g : Gr), ∃ h t, fromG sp g l = h :: t ∧ ∃ r, h.ps = g.ps ++ r
  | [], g => ⟨g, [], rfl, [], by simp⟩
  | i :: t, g => by
    simp only [fromG]
    split
    · obtain ⟨h, s, e, r, hr⟩ := fromG_head sp t (addG sp g i)
      exact ⟨h, s, e, i :: r, by rw [hr]; simp [addG]⟩
    · exact ⟨g, _, rfl, [], by simp⟩
theorem fromG_linked (sp : Nat → Int × Int) : ∀ (l : List Nat) (g : Gr), Linked sp (fromG sp g l)
  | [], g => trivial
  | i :: t, g => by
    simp only [fromG]
    split
    · exact fromG_linked sp t _
    · rename_i hm
      have := fromG_linked sp t (newG sp i)
      obtain ⟨h, s, e, r, hr⟩ := fromG_head sp t (newG sp i)
      rw [e] at this ⊢
      exact ⟨⟨i, r, by rw [hr]; rfl, by simpa using hm⟩, this⟩
theorem groupsG_linked (sp : Nat → Int × Int) (l : List Nat) : Linked sp (groupsG sp l) := by
  match l with
  | [] => trivial
  | i :: t => rw [groupsG_cons]; exact fromG_linked sp t _
theorem ps_ne {sp : Nat → Int × Int} {g : Gr} (h : GoodG sp g) : g.ps ≠ [] := by
  obtain ⟨_, _, ⟨i, hi, _⟩, _⟩ := h
  intro e; rw [e] at hi; simp at hi
end Go.Proofs.YtcdjoegihmfanaaGreat
namespace Go.Proofs.YtcdjoegihmfanaaGreat
set_option linter.unusedVariables false
theorem gAll_map {sp : Nat → Int × Int} {f : Nat → Ev} (h : ∀ i, (f i).lo = (sp i).1 ∧ (f i).hi = (sp i).2) (l : List Nat) : gAll (evsOf sp l) = gAll (l.map f) := by
  have key : ∀ (l : List Nat) (a b : Int), gN a b (evsOf sp l) = gN a b (l.map f) := by
    intro l
    induction l with
    | nil => intro a b; rfl
    | cons i t ih =>
      intro a b
      simp only [evsOf, List.map_cons, gN, (h i).1, (h i).2] at ih ⊢
      rw [ih, ih]
  match l with
  | [] => rfl
  | i :: t =>
    have := key t (sp i).1 (sp i).2
    simp only [evsOf, List.map_cons, gAll, (h i).1, (h i).2] at this ⊢
    rw [this]
def possB (sp : Nat → Int × Int) (l : List Nat) (c : Nat) : Bool := (l.all fun i => decide ((sp i).1 ≤ (sp i).2)) && decide ((groupsG sp l).length ≤ c + 1)
theorem spI_bd (e0 e1 : Int) (ps : List Pr) (i : Nat) : -50 ≤ (spI e0 e1 ps i).1 ∧ (spI e0 e1 ps i).2 ≤ 50 := by
  simp only [spI, spanP]; omega
theorem sums_isSome {l : List Ev} {c : Nat} : (sumsR l c).isSome = true ↔ ∃ xs, Way l c xs := by
  cases h : sumsR l c with
  | none => simp; exact fun xs hx => sums_none h xs hx
  | some p => simp; obtain ⟨⟨xs, hx, _⟩, _⟩ := sums_pick h true; exact ⟨xs, hx⟩
theorem poss_eq (e0 e1 : Int) (ps : List Pr) (l : List Nat) (c : Nat) : possB (spI e0 e1 ps) l c = (sumsR (l.map (evI e0 e1 ps)) c).isSome := by
  by_cases h : ∀ i ∈ l, (spI e0 e1 ps i).1 ≤ (spI e0 e1 ps i).2
  · have h1 : (l.all fun i => decide ((spI e0 e1 ps i).1 ≤ (spI e0 e1 ps i).2)) = true := by simpa using h
    have h2 := way_iff (l := l.map (evI e0 e1 ps)) (fun e he => by
      simp only [List.mem_map] at he
      obtain ⟨i, hi, rfl⟩ := he
      exact ⟨h i hi, spI_bd e0 e1 ps i⟩) c
    rw [← sums_isSome, ← gAll_map (sp := spI e0 e1 ps) (fun i => ⟨rfl, rfl⟩), ← groupsG_length] at h2
    unfold possB
    rw [h1, Bool.true_and]
    by_cases k : (groupsG (spI e0 e1 ps) l).length ≤ c + 1
    · rw [h2.2 k]; simpa using k
    · have : ¬ (sumsR (l.map (evI e0 e1 ps)) c).isSome = true := fun e => k (h2.1 e)
      rw [Bool.not_eq_true] at this
      rw [this]; simpa using k
  · have h1 : (l.all fun i => decide ((spI e0 e1 ps i).1 ≤ (spI e0 e1 ps i).2)) = false := by
      rw [Bool.eq_false_iff]; intro k; exact h (by simpa using k)
    unfold possB
    rw [h1, Bool.false_and]
    have hx : ∃ i, i ∈ l ∧ ¬ (spI e0 e1 ps i).1 ≤ (spI e0 e1 ps i).2 := by
      simpa using h
    obtain ⟨i, hi, hlt⟩ := hx
    symm
    rw [Bool.eq_false_iff]
    intro k
    obtain ⟨xs, hx⟩ := sums_isSome.1 k
    exact way_empty (List.mem_map_of_mem (f := evI e0 e1 ps) hi) (by simp only [evI]; omega) c xs hx
/-- The fewest changes, as the reference seeks them. -/
def fewR (l : List Ev) : Nat → Option Nat
  | 0 => none
  | k + 1 => match fewR l k with
    | some n => some n
    | none => if (sumsR l k).isSome then some k else none
theorem fewR_eq {l : List Ev} {g : Nat} (h : ∀ c, (sumsR l c).isSome = true ↔ g ≤ c + 1) : ∀ k, fewR l k = if g ≤ k then (if k = 0 then none else some (g - 1)) else none
  | 0 => by simp [fewR]
  | k + 1 => by
    simp only [fewR]
    rw [fewR_eq h k]
    have hk := h k
    by_cases h1 : g ≤ k
    · rw [if_pos h1, if_pos (by omega : g ≤ k + 1), if_neg (by omega : ¬ k + 1 = 0)]
      by_cases h0 : k = 0
      · subst h0
        have hg : g = 0 := by omega
        subst hg
        rw [hk.2 (by omega)]
        simp
      · simp [h0]
    · rw [if_neg h1]
      by_cases h2 : g ≤ k + 1
      · rw [hk.2 h2, if_pos h2]; simp; omega
      · have : (sumsR l k).isSome = false := by rw [Bool.eq_false_iff]; exact fun e => h2 (hk.1 e)
        rw [this, if_neg h2]; simp
/-- How many changes at least: one less than there are groups. -/
theorem few_groups {e0 e1 : Int} {ps : List Pr} {l : List Nat} (h : ∀ i ∈ l, (spI e0 e1 ps i).1 ≤ (spI e0 e1 ps i).2) (c : Nat) : (sumsR (l.map (evI e0 e1 ps)) c).isSome = true ↔ (groupsG (spI e0 e1 ps) l).length ≤ c + 1 := by
  rw [← poss_eq]
  unfold possB
  have h1 : (l.all fun i => decide ((spI e0 e1 ps i).1 ≤ (spI e0 e1 ps i).2)) = true := by simpa using h
  rw [h1, Bool.true_and, decide_eq_true_eq]
theorem gN_len : ∀ (t : List Ev) (a b : Int), gN a b t ≤ t.length
  | [], _, _ => Nat.le_refl _
  | e :: t, a, b => by
    simp only [gN, List.length_cons]
    split
    · have := gN_len t (max a e.lo) (min b e.hi); omega
    · have := gN_len t e.lo e.hi; omega
theorem groupsG_le (sp : Nat → Int × Int) (l : List Nat) : (groupsG sp l).length ≤ l.length := by
  rw [groupsG_length]
  match l with
  | [] => exact Nat.le_refl _
  | i :: t =>
    have := gN_len (evsOf sp t) (sp i).1 (sp i).2
    simp only [evsOf, List.map_cons, gAll, List.length_cons, List.length_map] at this ⊢
    omega
end Go.Proofs.YtcdjoegihmfanaaGreat
namespace Go.Proofs.YtcdjoegihmfanaaGreat
set_option linter.unusedVariables false
def valueD (f : Int) (cs : List (Int × Int)) (m : Int) : Int := cs.foldl (fun o c => if c.1 ≤ m then c.2 else o) f
theorem valueD_after : ∀ (cs : List (Int × Int)) (f m : Int), (∀ c ∈ cs, m < c.1) → valueD f cs m = f
  | [], _, _, _ => rfl
  | c :: t, f, m, h => by
    have := h c (by simp)
    show valueD (if c.1 ≤ m then c.2 else f) t m = f
    rw [if_neg (by omega)]
    exact valueD_after t f m fun x hx => h x (List.mem_cons_of_mem _ hx)
theorem valueD_cons (c : Int × Int) (t : List (Int × Int)) (f m : Int) : valueD f (c :: t) m = valueD (if c.1 ≤ m then c.2 else f) t m := rfl
def hdG (ps : List Pr) (g : Gr) : Int × Int := ((pAt ps (g.ps.headD 0)).m, g.lo)
theorem drift_fits {sp : Nat → Int × Int} {ps : List Pr} : ∀ (gs : List Gr) (f : Int), (∀ g ∈ gs, GoodG sp g) → ((gs.flatMap Gr.ps).Pairwise fun i j => (pAt ps i).m < (pAt ps j).m) →
    ∀ i ∈ gs.flatMap Gr.ps, (sp i).1 ≤ valueD f (gs.map (hdG ps)) (pAt ps i).m ∧ valueD f (gs.map (hdG ps)) (pAt ps i).m ≤ (sp i).2
  | [], _, _, _, i, hi => by simp at hi
  | g :: t, f, hg, hp, i, hi => by
    rw [List.flatMap_cons, List.pairwise_append] at hp
    obtain ⟨p1, p2, p3⟩ := hp
    have hgg := hg g (by simp)
    have ih := drift_fits t g.lo (fun h hh => hg h (List.mem_cons_of_mem _ hh)) p2
    rw [List.map_cons, valueD_cons]
    have hhd : ∀ j ∈ g.ps, (pAt ps (g.ps.headD 0)).m ≤ (pAt ps j).m := by
      intro j hj
      cases hps : g.ps with
      | nil => rw [hps] at hj; simp at hj
      | cons a r =>
        rw [hps] at hj p1
        rw [List.pairwise_cons] at p1
        rcases List.mem_cons.1 hj with rfl | hj
        · simp
        · have := p1.1 j hj; simp; omega
    have hne := ps_ne hgg
    have hhm : g.ps.headD 0 ∈ g.ps := by
      cases hps : g.ps with
      | nil => exact absurd hps hne
      | cons a r => simp
    rw [List.flatMap_cons, List.mem_append] at hi
    rcases hi with hi | hi
    · have h1 : (hdG ps g).1 ≤ (pAt ps i).m := hhd i hi
      rw [if_pos h1, valueD_after]
      · obtain ⟨q1, q2, _⟩ := hgg
        have := q2 i hi
        simp only [hdG]; omega
      · intro c hc
        simp only [List.mem_map] at hc
        obtain ⟨h, hh, rfl⟩ := hc
        have hge := hg h (List.mem_cons_of_mem _ hh)
        have hhe : h.ps.headD 0 ∈ h.ps := by
          cases hps : h.ps with
          | nil => exact absurd hps (ps_ne hge)
          | cons a r => simp
        exact p3 i hi _ (List.mem_flatMap.2 ⟨h, hh, hhe⟩)
    · have h1 : (hdG ps g).1 ≤ (pAt ps i).m := by
        have := p3 _ hhm i hi
        simp only [hdG]; omega
      rw [if_pos h1]
      exact ih i hi
/-- The drift that groups tell. -/
def findG (ps : List Pr) (gs : List Gr) : Int × List (Int × Int) :=
  match gs with
  | [] => (0, [])
  | g :: t => (g.lo, t.map (hdG ps))
theorem find_fits {sp : Nat → Int × Int} {ps : List Pr} {gs : List Gr} (hg : ∀ g ∈ gs, GoodG sp g) (hp : (gs.flatMap Gr.ps).Pairwise fun i j => (pAt ps i).m < (pAt ps j).m) :
    ∀ i ∈ gs.flatMap Gr.ps, (sp i).1 ≤ valueD (findG ps gs).1 (findG ps gs).2 (pAt ps i).m ∧ valueD (findG ps gs).1 (findG ps gs).2 (pAt ps i).m ≤ (sp i).2 := by
  match gs, hg, hp with
  | [], _, _ => intro i hi; simp at hi
  | g :: t, hg, hp =>
    intro i hi
    have := drift_fits (g :: t) g.lo hg hp i hi
    rw [List.map_cons, valueD_cons] at this
    have e : (if (hdG ps g).1 ≤ (pAt ps i).m then (hdG ps g).2 else g.lo) = g.lo := by split <;> rfl
    rw [e] at this
    exact this
def incD : List (Int × Int) → Bool
  | a :: b :: t => decide (a.1 < b.1) && incD (b :: t)
  | _ => true
def difD : Int → List (Int × Int) → Bool
  | _, [] => true
  | f, c :: t => decide (c.2 ≠ f) && difD c.2 t
def rngD (f : Int) (cs : List (Int × Int)) : Bool := decide (-50 ≤ f ∧ f ≤ 50) && cs.all fun c => decide (1 ≤ c.1 ∧ c.1 ≤ 10000 ∧ -50 ≤ c.2 ∧ c.2 ≤ 50)
/-- The error of a drift. -/
def ckD (f : Int) (cs : List (Int × Int)) : Int := if 10 < cs.length then 3 else if rngD f cs = false then 4 else if incD cs = false then 6 else if difD f cs = false then 8 else 0
theorem find_inc {sp : Nat → Int × Int} {ps : List Pr} : ∀ (gs : List Gr), (∀ g ∈ gs, GoodG sp g) → ((gs.flatMap Gr.ps).Pairwise fun i j => (pAt ps i).m < (pAt ps j).m) → incD (gs.map (hdG ps)) = true
  | [], _, _ => rfl
  | [g], _, _ => rfl
  | g :: h :: t, hg, hp => by
    have hp0 := hp
    rw [List.flatMap_cons, List.pairwise_append] at hp
    have hge := hg g (by simp)
    have hhe := hg h (by simp)
    have m1 : g.ps.headD 0 ∈ g.ps := by
      cases hps : g.ps with
      | nil => exact absurd hps (ps_ne hge)
      | cons a r => simp
    have m2 : h.ps.headD 0 ∈ h.ps := by
      cases hps : h.ps with
      | nil => exact absurd hps (ps_ne hhe)
      | cons a r => simp
    simp only [List.map_cons, incD, Bool.and_eq_true, decide_eq_true_eq]
    exact ⟨hp.2.2 _ m1 _ (List.mem_flatMap.2 ⟨h, by simp, m2⟩), find_inc (h :: t) (fun x hx => hg x (List.mem_cons_of_mem _ hx)) hp.2.1⟩
theorem find_dif {sp : Nat → Int × Int} {ps : List Pr} : ∀ (t : List Gr) (g : Gr), (∀ h ∈ g :: t, GoodG sp h) → Linked sp (g :: t) → difD g.lo (t.map (hdG ps)) = true
  | [], _, _, _ => rfl
  | h :: t, g, hg, hl => by
    obtain ⟨⟨f, r, h1, h2⟩, h3⟩ := hl
    obtain ⟨a1, _, _, _⟩ := hg g (by simp)
    obtain ⟨b1, b2, _, _⟩ := hg h (by simp)
    simp only [List.map_cons, difD, Bool.and_eq_true, decide_eq_true_eq]
    refine ⟨?_, find_dif t h (fun x hx => hg x (List.mem_cons_of_mem _ hx)) h3⟩
    have hf := b2 f (by rw [h1]; simp)
    simp only [meetsG, decide_eq_false_iff_not] at h2
    simp only [hdG]
    omega
theorem find_ok {e0 e1 : Int} {ps : List Pr} {L : List Nat} (hs : ∀ i ∈ L, (spI e0 e1 ps i).1 ≤ (spI e0 e1 ps i).2) (hp : L.Pairwise fun i j => (pAt ps i).m < (pAt ps j).m) (hm : ∀ i ∈ L, 0 ≤ (pAt ps i).m ∧ (pAt ps i).m ≤ 10000) (hl : L.length ≤ 10) :
    ckD (findG ps (groupsG (spI e0 e1 ps) L)).1 (findG ps (groupsG (spI e0 e1 ps) L)).2 = 0 ∧ (findG ps (groupsG (spI e0 e1 ps) L)).2.length = (groupsG (spI e0 e1 ps) L).length - 1 ∧
      ∀ i ∈ L, (spI e0 e1 ps i).1 ≤ valueD (findG ps (groupsG (spI e0 e1 ps) L)).1 (findG ps (groupsG (spI e0 e1 ps) L)).2 (pAt ps i).m ∧ valueD (findG ps (groupsG (spI e0 e1 ps) L)).1 (findG ps (groupsG (spI e0 e1 ps) L)).2 (pAt ps i).m ≤ (spI e0 e1 ps i).2 := by
  have hflat := groupsG_flat (spI e0 e1 ps) L
  have hgood := groupsG_good hs
  have hlink := groupsG_linked (spI e0 e1 ps) L
  have hlen := groupsG_le (spI e0 e1 ps) L
  generalize groupsG (spI e0 e1 ps) L = gs at *
  have hp' : (gs.flatMap Gr.ps).Pairwise fun i j => (pAt ps i).m < (pAt ps j).m := by rw [hflat]; exact hp
  refine ⟨?_, ?_, fun i hi => find_fits hgood hp' i (by rw [hflat]; exact hi)⟩
  · match gs, hflat, hgood, hlink, hlen, hp' with
    | [], _, _, _, _, _ => rfl
    | g :: t, hflat, hgood, hlink, hlen, hp' =>
      have hinc := find_inc (g :: t) hgood hp'
      have hdif := find_dif (ps := ps) t g hgood hlink
      have hlo : ∀ h ∈ g :: t, -50 ≤ h.lo ∧ h.lo ≤ 50 := by
        intro h hh
        obtain ⟨a1, a2, ⟨i, i1, i2⟩, ⟨j, j1, j2⟩⟩ := hgood h hh
        have := spI_bd e0 e1 ps i
        have := spI_bd e0 e1 ps j
        omega
      have hmin : ∀ h ∈ t, 1 ≤ (hdG ps h).1 ∧ (hdG ps h).1 ≤ 10000 := by
        intro h hh
        have hge := hgood g (by simp)
        have hhe := hgood h (List.mem_cons_of_mem _ hh)
        have m1 : g.ps.headD 0 ∈ g.ps := by
          cases hps : g.ps with
          | nil => exact absurd hps (ps_ne hge)
          | cons a r => simp
        have m2 : h.ps.headD 0 ∈ h.ps := by
          cases hps : h.ps with
          | nil => exact absurd hps (ps_ne hhe)
          | cons a r => simp
        have g1 : g.ps.headD 0 ∈ L := by rw [← hflat]; exact List.mem_flatMap.2 ⟨g, by simp, m1⟩
        have g2 : h.ps.headD 0 ∈ t.flatMap Gr.ps := List.mem_flatMap.2 ⟨h, hh, m2⟩
        have g3 : h.ps.headD 0 ∈ L := by rw [← hflat, List.flatMap_cons]; exact List.mem_append_right _ g2
        have q1 := hm _ g1
        have q3 := hm _ g3
        rw [List.flatMap_cons, List.pairwise_append] at hp'
        have := hp'.2.2 _ m1 _ g2
        simp only [hdG]; omega
      have hinc' : incD (t.map (hdG ps)) = true := by
        match t, hinc with
        | [], _ => rfl
        | h :: s, hinc => simp only [List.map_cons, incD, Bool.and_eq_true] at hinc ⊢; exact hinc.2
      unfold ckD findG
      simp only
      rw [if_neg (by simp at hlen ⊢; omega)]
      have hr : rngD g.lo (t.map (hdG ps)) = true := by
        simp only [rngD, Bool.and_eq_true, decide_eq_true_eq, List.all_eq_true, List.mem_map]
        refine ⟨hlo g (by simp), ?_⟩
        rintro c ⟨h, hh, rfl⟩
        have a := hmin h hh
        have b := hlo h (List.mem_cons_of_mem _ hh)
        exact ⟨a.1, a.2, b.1, b.2⟩
      rw [hr, hinc', hdif]
      simp
  · match gs with
    | [] => rfl
    | g :: t => simp [findG]
def exclI (sp : Nat → Int × Int) (i k : Nat) : Bool := decide (min (sp i).2 (sp k).2 < max (sp i).1 (sp k).1)
/-- The pairs that groups tell. -/
def apartG (sp : Nat → Int × Int) : List Gr → List (Nat × Nat)
  | g :: h :: t => (match g.ps.find? (fun i => exclI sp i (h.ps.headD 0)) with | some i => [(i, h.ps.headD 0)] | none => []) ++ apartG sp (h :: t)
  | _ => []
/-- Pairs are apart, behind a minute. -/
def pairsB (sp : Nat → Int × Int) (ps : List Pr) : Int → List (Nat × Nat) → Bool
  | _, [] => true
  | m, p :: t => decide ((pAt ps p.1).m < (pAt ps p.2).m) && decide (m ≤ (pAt ps p.1).m) && exclI sp p.1 p.2 && pairsB sp ps (pAt ps p.2).m t
theorem excl_ex {sp : Nat → Int × Int} {g : Gr} {f : Nat} (hg : GoodG sp g) (hf : (sp f).1 ≤ (sp f).2) (h : meetsG sp g f = false) : ∃ i ∈ g.ps, exclI sp i f = true := by
  obtain ⟨a1, a2, ⟨i, i1, i2⟩, ⟨j, j1, j2⟩⟩ := hg
  simp only [meetsG, decide_eq_false_iff_not] at h
  by_cases c : (sp f).2 < g.lo
  · exact ⟨i, i1, by simp only [exclI, decide_eq_true_eq]; omega⟩
  · exact ⟨j, j1, by simp only [exclI, decide_eq_true_eq]; omega⟩
theorem apart_ok {sp : Nat → Int × Int} {ps : List Pr} : ∀ (t : List Gr) (g : Gr) (m : Int), (∀ h ∈ g :: t, GoodG sp h) → Linked sp (g :: t) → (((g :: t).flatMap Gr.ps).Pairwise fun i j => (pAt ps i).m < (pAt ps j).m) → m ≤ (pAt ps (g.ps.headD 0)).m →
    (apartG sp (g :: t)).length = t.length ∧ pairsB sp ps m (apartG sp (g :: t)) = true ∧ ∀ p ∈ apartG sp (g :: t), p.1 ∈ (g :: t).flatMap Gr.ps ∧ p.2 ∈ (g :: t).flatMap Gr.ps
  | [], g, m, _, _, _, _ => by simp [apartG, pairsB]
  | h :: t, g, m, hg, hl, hp, hm => by
    obtain ⟨⟨f, r, h1, h2⟩, h3⟩ := hl
    have hge := hg g (by simp)
    have hhe := hg h (by simp)
    have hf0 : h.ps.headD 0 = f := by rw [h1]; rfl
    have hfm : f ∈ h.ps := by rw [h1]; simp
    have hfs : (sp f).1 ≤ (sp f).2 := by have := hhe.2.1 f hfm; have := hhe.1; omega
    obtain ⟨i, i1, i2⟩ := excl_ex hge hfs h2
    have hp0 := hp
    rw [List.flatMap_cons, List.pairwise_append] at hp
    obtain ⟨p1, p2, p3⟩ := hp
    have hfl : f ∈ (h :: t).flatMap Gr.ps := List.mem_flatMap.2 ⟨h, by simp, hfm⟩
    obtain ⟨k1, k2, k3⟩ := apart_ok t h (pAt ps f).m (fun x hx => hg x (List.mem_cons_of_mem _ hx)) h3 p2 (by rw [hf0]; omega)
    cases hfd : g.ps.find? (fun i => exclI sp i (h.ps.headD 0)) with
    | none =>
      rw [List.find?_eq_none] at hfd
      exact absurd (by rw [hf0]; exact i2) (hfd i i1)
    | some x =>
      have x1 := List.find?_some hfd
      have x2 := List.mem_of_find?_eq_some hfd
      rw [hf0] at x1
      have hmx : m ≤ (pAt ps x).m := by
        cases hps : g.ps with
        | nil => rw [hps] at x2; simp at x2
        | cons a s =>
          rw [hps] at x2 p1 hm
          rw [List.pairwise_cons] at p1
          simp at hm
          rcases List.mem_cons.1 x2 with rfl | x2
          · exact hm
          · have := p1.1 x x2; omega
      have he : apartG sp (g :: h :: t) = (x, f) :: apartG sp (h :: t) := by
        have h0 : apartG sp (g :: h :: t) = (match g.ps.find? (fun i => exclI sp i (h.ps.headD 0)) with | some i => [(i, h.ps.headD 0)] | none => []) ++ apartG sp (h :: t) := rfl
        rw [h0, hfd, hf0]; rfl
      rw [he]
      simp only [List.length_cons, pairsB, Bool.and_eq_true, decide_eq_true_eq]
      refine ⟨by omega, ⟨⟨⟨p3 x x2 f hfl, hmx⟩, x1⟩, k2⟩, ?_⟩
      intro p hpp
      rcases List.mem_cons.1 hpp with rfl | hpp
      · exact ⟨List.mem_flatMap.2 ⟨g, by simp, x2⟩, by rw [List.flatMap_cons]; exact List.mem_append_right _ hfl⟩
      · have := k3 p hpp
        rw [List.flatMap_cons]
        exact ⟨List.mem_append_right _ this.1, List.mem_append_right _ this.2⟩
end Go.Proofs.YtcdjoegihmfanaaGreat
namespace Go.Proofs.YtcdjoegihmfanaaGreat
open Go.RowKit
set_option linter.unusedVariables false
def drV (f : Int) (v : Value) : Value := .agg #[.int .i64 f, v]
theorem valueD_succ {f : Int} {cs : List (Int × Int)} {k : Nat} (m : Int) (h : k < cs.length) : valueD f (cs.take (k + 1)) m = if cs[k].1 ≤ m then cs[k].2 else valueD f (cs.take k) m := by
  unfold valueD
  rw [List.take_succ_eq_append_getElem h, List.foldl_append]; rfl
set_option maxHeartbeats 1000000 in
theorem at_any (f : Int) (A : Option Addr) (c : Nat) (cs : List (Int × Int)) (m : Int) (w : World) (hr : Rd w w.heap.size A (pairs cs)) (hl : cs.length ≤ 1000) :
    Calls Tryz.prog 116 #[drV f (.slice A cs.length c), .int .i64 m] w fun e w' => e = .returned (.int .i64 (valueD f cs m)) ∧ Below w.heap.size w w' := by
  have hB := fun (W : World) (hb : Below w.heap.size w W) => Lib.hid (hr.next hb)
  clear hr
  unfold drV
  go_enter Tryz.func116, Tryz.ntmps116
  go_wp2_with fail
  go_loopw [5, 13] (fun o i wr => ∃ k : Nat, k ≤ cs.length ∧ i = .int .i64 k ∧ o = .int .i64 (valueD f (cs.take k) m) ∧ Below w.heap.size w wr) (fun _ i _ => cs.length - (intOf i).toNat)
  case atStart => exact ⟨0, Nat.zero_le _, rfl, rfl, by go_grown⟩
  case round =>
    obtain ⟨k, hk, rfl, rfl, hb⟩ := hrel
    by_cases hlt : k < cs.length
    · have hs := valueD_succ (f := f) m hlt
      obtain ⟨b, off, rfl, hbb, c0, c1⟩ := (hB wr hb).out.pair hlt
      have HS := Lib.hid hs
      clear hs hB
      generalize cs[k] = q at *
      obtain ⟨q1, q2⟩ := q
      by_cases hq : q1 ≤ m
      all_goals
        go_wp2_with fail
        go_roundw
        case rel => exact ⟨k + 1, hlt, by go_num, by rw [HS.out]; first | rw [if_pos hq] | rw [if_neg hq], by first | exact hb.alloc hb.size _ | go_grown⟩
        case measure => simp [intOf]; omega
    · have hke : k = cs.length := by omega
      subst hke
      rw [List.take_length]
      go_wp2_with fail
      go_ret
      exact ⟨rfl, hb⟩
end Go.Proofs.YtcdjoegihmfanaaGreat
namespace Go.Proofs.YtcdjoegihmfanaaGreat
open Go.RowKit Go.Shelf
set_option linter.unusedVariables false
def prRng (p : Pr) : Bool := inB p.m 0 10000 && (inB p.k 0 20000 && inB p.r (-100) 20000)
def slOk (p : Int × Int × Int) : Bool := inB p.2.1 0 10000 && inB p.2.2 0 20000
def trRng (t : Tr) : Bool := (slOk (t.ib, t.im, t.ir) && slOk (t.ob, t.om, t.or)) && inB t.mud 0 200
def prBr (p : Pr) : Bool := inB p.b 0 1
def trBr (t : Tr) : Bool := inB t.ib 0 1 && inB t.ob 0 1
def samePr (p q : Pr) : Bool := (q.b == p.b) && (q.m == p.m)
def trOrd (t : Tr) : Bool := decide (t.im < t.om)
def errOk (n : Int) : Bool := inB n 0 50
theorem predErr (t : List Int) (w : World) : Decides 119 #[] (Value.int .i64) errOk t w := by
  intro W x hx hB
  unfold errOk
  show Calls Tryz.prog 119 #[.int .i64 x] W _
  go_enter Tryz.func119, Tryz.ntmps119
  go_wp2_with (go_at_call 88; refine (in_any _ _ _ _).mono ?_; rintro e w' ⟨rfl, rfl⟩)
  go_ret
  exact ⟨rfl, Below.refl _ _⟩
theorem predRng (t : List Pr) (w : World) : Decides 121 #[] prV prRng t w := by
  intro W x hx hB
  unfold prV
  show Calls Tryz.prog 121 #[_] W _
  go_enter Tryz.func121, Tryz.ntmps121
  go_wp2_with (go_at_call 88; refine (in_any _ _ _ _).mono ?_; rintro e w' ⟨rfl, rfl⟩)
  all_goals
    go_ret
    exact ⟨ret_bool (by simp [prRng, *]), by go_grown⟩
theorem predBr (t : List Pr) (w : World) : Decides 124 #[] prV prBr t w := by
  intro W x hx hB
  unfold prV
  show Calls Tryz.prog 124 #[_] W _
  go_enter Tryz.func124, Tryz.ntmps124
  go_wp2_with (go_at_call 125; refine (bridge_any _ _).mono ?_; rintro e w' ⟨rfl, rfl⟩)
  go_ret
  exact ⟨ret_bool (by simp [prBr]), by go_grown⟩
theorem predTrBr (t : List Tr) (w : World) : Decides 126 #[] trV trBr t w := by
  intro W x hx hB
  unfold trV
  show Calls Tryz.prog 126 #[_] W _
  go_enter Tryz.func126, Tryz.ntmps126
  go_wp2_with (go_at_call 125; refine (bridge_any _ _).mono ?_; rintro e w' ⟨rfl, rfl⟩)
  all_goals
    go_ret
    exact ⟨ret_bool (by simp [trBr, *]), by go_grown⟩
theorem predOrd (t : List Tr) (w : World) : Decides 128 #[] trV trOrd t w := by
  intro W x hx hB
  unfold trV
  show Calls Tryz.prog 128 #[_] W _
  go_enter Tryz.func128, Tryz.ntmps128
  go_wp2_with fail
  go_ret
  exact ⟨ret_bool (by simp [trOrd]), by go_grown⟩
theorem predSlip (t : List (Int × Int × Int)) (w : World) : Decides 176 #[] slpV slOk t w := by
  intro W x hx hB
  unfold slpV
  show Calls Tryz.prog 176 #[_] W _
  go_enter Tryz.func176, Tryz.ntmps176
  go_wp2_with (go_at_call 88; refine (in_any _ _ _ _).mono ?_; rintro e w' ⟨rfl, rfl⟩)
  all_goals
    go_ret
    exact ⟨ret_bool (by simp [slOk, *]), by go_grown⟩
theorem predTwice (p : Pr) (a : Nat) (t : List Pr) (w : World) (hb : Blk w a [.int .i64 p.b, .int .i64 p.m, .int .i64 p.k, .int .i64 p.r]) : Decides 127 #[.pointer (some ⟨a, 0, none⟩)] prV (samePr p) t w := by
  intro W x hx hB
  have b1 := hb.below hB
  have c0 := b1.cells 0 _ rfl
  have c1 := b1.cells 1 _ rfl
  have hl := b1.lt
  have hne : a ≠ W.heap.size := by omega
  clear hb b1
  unfold prV
  show Calls Tryz.prog 127 #[_, .pointer (some ⟨a, 0, none⟩)] W _
  cases hq : (x.b == p.b)
  · go_enter Tryz.func127, Tryz.ntmps127
    go_wp2_with fail
    go_ret
    exact ⟨ret_bool (by simp [samePr, hq]), by go_grown⟩
  · go_enter Tryz.func127, Tryz.ntmps127
    go_wp2_with fail
    go_ret
    exact ⟨ret_bool (by simp [samePr, hq]), by go_grown⟩
end Go.Proofs.YtcdjoegihmfanaaGreat
