/- Groups in memory: a row of spans and of lists, each in a block of its own. A region that draws its order ahead of a tail, by an invariant of what is done, its values and the world; its operations may have guards, and no place. Where the statement stands that puts a proof more into the last group: what is done, and what memory holds then. grow: one proof more, in the last group or in a new one. -/
import Derived.Test.YtcdjoegihmfanaaGreatG4
import Derived.Test.YtcdjoegihmfanaaGreatG6
import Derived.Test.YtcdjoegihmfanaaGreatG3
import Derived.Test.YtcdjoegihmfanaaGreatG5
import Derived.Maps.AppendAt
import Derived.Deep.RegionHeld3
namespace Go.Proofs.YtcdjoegihmfanaaGreat
open Go.RowKit
set_option linter.unusedVariables false
def grF (g : Gr) (v : Value) : List Value := [.int .i64 g.lo, .int .i64 g.hi, v]
def grC : List Gr → List Value → List Value
  | g :: gs, v :: vs => grF g v ++ grC gs vs
  | _, _ => []
theorem grC_length : ∀ {gs : List Gr} {vs : List Value}, vs.length = gs.length → (grC gs vs).length = gs.length * 3
  | [], [], _ => rfl
  | g :: gs, v :: vs, h => by
    have := grC_length (gs := gs) (vs := vs) (by simpa using h)
    simp only [grC, List.length_append, this, grF, List.length_cons, List.length_nil]; omega
theorem grC_append : ∀ {gs hs : List Gr} {vs us : List Value}, vs.length = gs.length → grC (gs ++ hs) (vs ++ us) = grC gs vs ++ grC hs us
  | [], hs, [], us, _ => rfl
  | g :: gs, hs, v :: vs, us, h => by
    have := grC_append (gs := gs) (hs := hs) (vs := vs) (us := us) (by simpa using h)
    simp only [List.cons_append, grC, this, List.append_assoc]
theorem grC_snoc {gs : List Gr} {g : Gr} {vs : List Value} {v : Value} (h : vs.length = gs.length) : grC (gs ++ [g]) (vs ++ [v]) = grC gs vs ++ grF g v := by
  rw [grC_append h]; simp [grC]
theorem grC_get : ∀ {gs : List Gr} {vs : List Value} (h : vs.length = gs.length) (k : Nat) (hk : k < gs.length), (grC gs vs)[k * 3]? = some (.int .i64 gs[k].lo) ∧ (grC gs vs)[k * 3 + 1]? = some (.int .i64 gs[k].hi) ∧ (grC gs vs)[k * 3 + 2]? = some (vs[k]'(by omega))
  | g :: gs, v :: vs, h, 0, _ => ⟨rfl, rfl, rfl⟩
  | g :: gs, v :: vs, h, k + 1, hk => by
    have := grC_get (gs := gs) (vs := vs) (by simpa using h) k (by simpa using hk)
    rw [show (k + 1) * 3 = k * 3 + 3 by omega, show k * 3 + 3 + 1 = (k * 3 + 1) + 3 by omega, show k * 3 + 3 + 2 = (k * 3 + 2) + 3 by omega]
    exact this
/-- The groups, as a slice of the call's own. -/
structure GrV (W : World) (base : Nat) (v : Value) (gs : List Gr) (vs : List Value) : Prop where
  len : vs.length = gs.length
  row : W.ownsRow base 198 3 v gs.length (grC gs vs)
  each : ∀ (k : Nat) (g : Gr) (u : Value), gs[k]? = some g → vs[k]? = some u → W.ownsRow base 3 1 u g.ps.length (nums g.ps)
  apart : ∀ (j k : Nat) (u u' : Value), vs[j]? = some u → vs[k]? = some u' → j ≠ k → ∀ b, u.ownBlock = some b → u'.ownBlock ≠ some b
  ne : ∀ (k : Nat) (u : Value), vs[k]? = some u → ∀ b, u.ownBlock = some b → v.ownBlock ≠ some b
theorem GrV.nil (W : World) (base : Nat) : GrV W base (.slice none 0 0) [] [] :=
  ⟨rfl, ⟨rfl, .inl ⟨rfl, rfl⟩⟩, fun k g u h => by simp at h, fun j k u u' h => by simp at h, fun k u h => by simp at h⟩
section
variable {W W' : World} {base : Nat} {v : Value} {gs : List Gr} {vs : List Value}
theorem GrV.each_lt (h : GrV W base v gs vs) {k : Nat} {u : Value} (hu : vs[k]? = some u) : ∀ b, u.ownBlock = some b → base ≤ b ∧ b < W.heap.size := by
  have hk : k < gs.length := by rw [← h.len]; exact (List.getElem?_eq_some_iff.1 hu).1
  exact own_lt (h.each k gs[k] u (List.getElem?_eq_getElem hk) hu)
theorem GrV.keep (h : GrV W base v gs vs) (hk : ∀ b, base ≤ b → b < W.heap.size → W'.heap[b]? = W.heap[b]?) : GrV W' base v gs vs :=
  ⟨h.len, own_block h.row fun b e => by obtain ⟨a, c⟩ := own_lt h.row b e; exact hk b a c, fun k g u h1 h2 => own_block (h.each k g u h1 h2) fun b e => by obtain ⟨a, c⟩ := h.each_lt h2 b e; exact hk b a c, h.apart, h.ne⟩
theorem GrV.below (h : GrV W base v gs vs) (hb : Below W.heap.size W W') : GrV W' base v gs vs := h.keep fun b _ hlt => hb.block b hlt
/-- One more group. -/
theorem GrV.snoc (h : GrV W base v gs vs) {v' u : Value} {g : Gr} (hs : W.heap.size ≤ W'.heap.size) (hk : ∀ b, base ≤ b → b < W.heap.size → v.ownBlock ≠ some b → W'.heap[b]? = W.heap[b]?)
    (hrow : W'.ownsRow base 198 3 v' (gs.length + 1) (grC gs vs ++ grF g u)) (hu : W'.ownsRow base 3 1 u g.ps.length (nums g.ps)) (hub : ∀ b, u.ownBlock = some b → W.heap.size ≤ b)
    (hv' : ∀ b, v'.ownBlock = some b → v.ownBlock = some b ∨ (W.heap.size ≤ b ∧ u.ownBlock ≠ some b)) : GrV W' base v' (gs ++ [g]) (vs ++ [u]) := by
  have hl := h.len
  refine ⟨by simp [hl], by rw [List.length_append, grC_snoc hl]; exact hrow, fun k g' u' h1 h2 => ?_, fun j k u1 u2 h1 h2 hne b e => ?_, fun k u' h1 b e e' => ?_⟩
  · by_cases hk' : k < gs.length
    · rw [List.getElem?_append_left hk'] at h1
      rw [List.getElem?_append_left (by omega)] at h2
      refine own_block (h.each k g' u' h1 h2) fun b e => ?_
      obtain ⟨a, c⟩ := h.each_lt h2 b e
      exact hk b a c (h.ne k u' h2 b e)
    · have hke : k = gs.length := by
        have := (List.getElem?_eq_some_iff.1 h1).1
        simp at this; omega
      subst hke
      rw [List.getElem?_append_right (Nat.le_refl _)] at h1
      rw [List.getElem?_append_right (by omega), hl] at h2
      simp at h1 h2
      subst h1 h2
      exact hu
  · have key : ∀ j u1, (vs ++ [u])[j]? = some u1 → (j < gs.length ∧ vs[j]? = some u1) ∨ (j = gs.length ∧ u1 = u) := fun j u1 h1 => by
      by_cases hj : j < gs.length
      · rw [List.getElem?_append_left (by omega)] at h1; exact .inl ⟨hj, h1⟩
      · rw [List.getElem?_append_right (by omega)] at h1
        have h3 := (List.getElem?_eq_some_iff.1 h1).1
        simp at h3
        have : j = gs.length := by omega
        subst this
        rw [hl] at h1
        simp at h1
        exact .inr ⟨rfl, h1.symm⟩
    rcases key j u1 h1 with ⟨a, a'⟩ | ⟨a, a'⟩ <;> rcases key k u2 h2 with ⟨c, c'⟩ | ⟨c, c'⟩
    · exact h.apart j k u1 u2 a' c' hne b e
    · subst c'
      intro e2
      have := h.each_lt a' b e
      have := hub b e2
      omega
    · subst a'
      intro e2
      have := h.each_lt c' b e2
      have := hub b e
      omega
    · omega
  · by_cases hj : k < gs.length
    · rw [List.getElem?_append_left (by omega)] at h1
      have h2 := h.each_lt h1 b e
      rcases hv' b e' with q | ⟨q, _⟩
      · exact h.ne k u' h1 b e q
      · omega
    · rw [List.getElem?_append_right (by omega)] at h1
      have h3 := (List.getElem?_eq_some_iff.1 h1).1
      simp at h3
      have : k = gs.length := by omega
      subst this
      rw [hl] at h1
      simp at h1
      subst h1
      rcases hv' b e' with q | ⟨_, q⟩
      · have := (own_lt h.row b q).2
        have := hub b e
        omega
      · exact q e
/-- The last group has one more. -/
theorem GrV.last {gs0 : List Gr} {gl g : Gr} {vs0 : List Value} {ul u : Value} (h : GrV W base v (gs0 ++ [gl]) (vs0 ++ [ul])) (hs : W.heap.size ≤ W'.heap.size) (hk : ∀ b, base ≤ b → b < W.heap.size → v.ownBlock ≠ some b → ul.ownBlock ≠ some b → W'.heap[b]? = W.heap[b]?)
    (hrow : W'.ownsRow base 198 3 v (gs0.length + 1) (grC gs0 vs0 ++ grF g u)) (hu : W'.ownsRow base 3 1 u g.ps.length (nums g.ps)) (hub : ∀ b, u.ownBlock = some b → ul.ownBlock = some b ∨ W.heap.size ≤ b) : GrV W' base v (gs0 ++ [g]) (vs0 ++ [u]) := by
  have hl : vs0.length = gs0.length := by have := h.len; simp at this; exact this
  have key : ∀ (x : Value) j u1, (vs0 ++ [x])[j]? = some u1 → (j < gs0.length ∧ vs0[j]? = some u1) ∨ (j = gs0.length ∧ u1 = x) := fun x j u1 h1 => by
    by_cases hj : j < gs0.length
    · rw [List.getElem?_append_left (by omega)] at h1; exact .inl ⟨hj, h1⟩
    · rw [List.getElem?_append_right (by omega)] at h1
      have h3 := (List.getElem?_eq_some_iff.1 h1).1
      simp at h3
      have : j = gs0.length := by omega
      subst this
      rw [hl] at h1
      simp at h1
      exact .inr ⟨rfl, h1.symm⟩
  have old : ∀ j u1, vs0[j]? = some u1 → (vs0 ++ [ul])[j]? = some u1 := fun j u1 h1 => by
    rw [List.getElem?_append_left (List.getElem?_eq_some_iff.1 h1).1]; exact h1
  have oul : (vs0 ++ [ul])[gs0.length]? = some ul := by rw [← hl]; simp
  refine ⟨by simp [hl], by rw [List.length_append, grC_snoc hl]; exact hrow, fun k g' u' h1 h2 => ?_, fun j k u1 u2 h1 h2 hne b e => ?_, fun k u' h1 b e e' => ?_⟩
  · rcases key u k u' h2 with ⟨a, a'⟩ | ⟨a, a'⟩
    · rw [List.getElem?_append_left a] at h1
      have h3 : (gs0 ++ [gl])[k]? = some g' := by rw [List.getElem?_append_left a]; exact h1
      refine own_block (h.each k g' u' h3 (old k u' a')) fun b e => ?_
      obtain ⟨p, q⟩ := h.each_lt (old k u' a') b e
      exact hk b p q (h.ne k u' (old k u' a') b e) (fun e2 => h.apart k gs0.length u' ul (old k u' a') oul (by omega) b e e2)
    · subst a'
      subst a
      rw [List.getElem?_append_right (Nat.le_refl _)] at h1
      simp at h1
      subst h1
      exact hu
  · rcases key u j u1 h1 with ⟨a, a'⟩ | ⟨a, a'⟩ <;> rcases key u k u2 h2 with ⟨c, c'⟩ | ⟨c, c'⟩
    · exact h.apart j k u1 u2 (old j u1 a') (old k u2 c') hne b e
    · subst c'
      intro e2
      rcases hub b e2 with q | q
      · exact h.apart j gs0.length u1 ul (old j u1 a') oul (by omega) b e q
      · have := h.each_lt (old j u1 a') b e; omega
    · subst a'
      intro e2
      rcases hub b e with q | q
      · exact h.apart k gs0.length u2 ul (old k u2 c') oul (by omega) b e2 q
      · have := h.each_lt (old k u2 c') b e2; omega
    · omega
  · rcases key u k u' h1 with ⟨a, a'⟩ | ⟨a, a'⟩
    · exact h.ne k u' (old k u' a') b e e'
    · subst a'
      rcases hub b e with q | q
      · exact h.ne gs0.length ul oul b q e'
      · have := (own_lt h.row b e').2; omega
end
/-- The groups, in a box. -/
def GrB (W : World) (base bo : Nat) (gs : List Gr) : Prop := ∃ v vs, W.cell? ⟨bo, 0, none⟩ = some v ∧ W.frozen? ⟨bo, 0, none⟩ = false ∧ GrV W base v gs vs ∧ bo < base ∧ bo < W.heap.size
theorem GrB.below {W W' : World} {base bo : Nat} {gs : List Gr} (h : GrB W base bo gs) (hb : Below W.heap.size W W') : GrB W' base bo gs := by
  obtain ⟨v, vs, h1, h2, h3, h4, h5⟩ := h
  exact ⟨v, vs, (hb.cell (p := ⟨bo, 0, none⟩) h5).trans h1, (hb.frozen (p := ⟨bo, 0, none⟩) h5).trans h2, h3.below hb, h4, Nat.lt_of_lt_of_le h5 hb.size⟩
/-- What was there ahead of the call's own blocks is as it was, but for the box. -/
structure KeepB (base bo : Nat) (W W' : World) : Prop where
  os : W'.os = W.os
  tape : W'.tape = W.tape
  output : W'.output = W.output
  size : W.heap.size ≤ W'.heap.size
  far : ∀ k, k < base → k ≠ bo → W'.heap[k]? = W.heap[k]?
theorem KeepB.of_below {base bo : Nat} {W W' : World} (hb : Below W.heap.size W W') (h : base ≤ W.heap.size) : KeepB base bo W W' := ⟨hb.os, hb.tape, hb.output, hb.size, fun k hk _ => hb.block k (Nat.lt_of_lt_of_le hk h)⟩
theorem KeepB.trans {base bo : Nat} {W W' W'' : World} (h : KeepB base bo W W') (k : KeepB base bo W' W'') : KeepB base bo W W'' :=
  ⟨k.os.trans h.os, k.tape.trans h.tape, k.output.trans h.output, Nat.le_trans h.size k.size, fun j a b => (k.far j a b).trans (h.far j a b)⟩
theorem KeepB.of_below' {base bo B : Nat} {W W' : World} (hb : Below B W W') (h : base ≤ B) : KeepB base bo W W' := ⟨hb.os, hb.tape, hb.output, hb.size, fun k hk _ => hb.block k (Nat.lt_of_lt_of_le hk h)⟩
theorem KeepB.grown {base bo : Nat} {W W' : World} {row : Option Nat} (hg : W.grownBy W' row) (hB : base ≤ W.heap.size) (hr : ∀ b, row = some b → base ≤ b) : KeepB base bo W W' :=
  ⟨hg.os, hg.tape, hg.output, hg.size, fun k hk _ => hg.block k (by omega) (fun e => by have := hr k e.symm; omega)⟩
theorem KeepB.set {base bo o : Nat} {W : World} {v : Value} : KeepB base bo W (W.setCell ⟨bo, o, none⟩ v) :=
  ⟨rfl, rfl, rfl, by simp [World.setCell], fun k _ hk => heap_far hk⟩
theorem KeepB.set' {base bo o b : Nat} {W : World} {v : Value} (hb : base ≤ b) : KeepB base bo W (W.setCell ⟨b, o, none⟩ v) :=
  ⟨rfl, rfl, rfl, by simp [World.setCell], fun k h1 _ => heap_far (by omega)⟩
theorem infoGroup : (Tryz.prog.info? 198).map (fun i => (i.zero, i.size, i.bytes)) = some (some (.agg #[.int .i64 0, .int .i64 0, .slice none 0 0]), 3, 40) := by kernel_rfl
/-- A block that is known whole, as a row of the call's own. -/
theorem own_of_block {w : World} {base g : Nat} {e : TypeId} {n : Nat} {xs : List Value} (hb : base ≤ g) (hg : w.heap[g]? = some (.cells xs.toArray e (0, 0))) (hn : xs.length = n) (hm : n ≤ maxLen) : w.ownsRow base e 1 (.slice (some ⟨g, 0, none⟩) n n) n xs :=
  ⟨by rw [hn, Nat.mul_one], .inr ⟨g, n, xs.toArray, rfl, hb, hg, Nat.le_refl _, hm, by simp [hn], by simp [← hn]⟩⟩
theorem grp_cells (W : World) (i lo hi : Int) (t1 t2 : TypeId) : ∀ j u, [Value.int .i64 lo, .int .i64 hi, .slice (some ⟨W.heap.size, 0, none⟩) 1 1][j]? = some u → ((W.alloc (.cells #[.int .i64 i] t1)).alloc (.cells #[.int .i64 lo, .int .i64 hi, .slice (some ⟨W.heap.size, 0, none⟩) 1 1] t2)).cell? ((⟨W.heap.size + 1, 0, none⟩ : Addr).add j) = some u := fun j u hu => by
  have h := (Blk.new (W.alloc (.cells #[.int .i64 i] t1)) [.int .i64 lo, .int .i64 hi, .slice (some ⟨W.heap.size, 0, none⟩) 1 1] t2).cells j u hu
  rw [World.size_alloc] at h
  rw [addr_add, Nat.zero_add]
  exact h
theorem two_alloc {W : World} {o1 o2 : Obj} : Below W.heap.size W ((W.alloc o1).alloc o2) := (below_new W o1).trans ((below_new (W.alloc o1) o2).mono (by simp))
theorem grown_two {W w3 : World} {o1 o2 : Obj} {row : Option Nat} {b : Nat} (hg : ((W.alloc o1).alloc o2).grownBy w3 row) (hb : b < W.heap.size) (hne : row ≠ some b) : w3.heap[b]? = W.heap[b]? :=
  (hg.block b (by simp; omega) (fun e => hne e.symm)).trans (two_alloc.block b hb)
theorem grow_new {W w3 : World} {base bo : Nat} {v v' : Value} {gs : List Gr} {vs : List Value} {lo hi : Int} {i : Nat} {o2 : Obj} (h : GrV W base v gs vs) (hB : base ≤ W.heap.size) (hbo : bo < base) (hc : w3.cell? ⟨bo, 0, none⟩ = some v) (hf : w3.frozen? ⟨bo, 0, none⟩ = false)
    (hown : w3.ownsRow base 198 3 v' (gs.length + 1) (grC gs vs ++ [.int .i64 lo, .int .i64 hi, .slice (some ⟨W.heap.size, 0, none⟩) 1 1])) (hgrow : ((W.alloc (.cells #[.int .i64 (i : Int)] 3)).alloc o2).grownBy w3 v.ownBlock)
    (hat : v'.ownBlock = v.ownBlock ∨ v'.ownBlock = some ((W.alloc (.cells #[.int .i64 (i : Int)] 3)).alloc o2).heap.size) :
    GrB (w3.setCell ⟨bo, 0, none⟩ v') base bo (gs ++ [⟨lo, hi, [i]⟩]) ∧ KeepB base bo W (w3.setCell ⟨bo, 0, none⟩ v') := by
  have hz : W.heap.size + 2 ≤ w3.heap.size := by have := hgrow.size; simpa using this
  have hov := own_lt h.row
  have hs4 : (w3.setCell ⟨bo, 0, none⟩ v').heap.size = w3.heap.size := by simp [World.setCell]
  have hW : ∀ k, k ≠ bo → (w3.setCell ⟨bo, 0, none⟩ v').heap[k]? = w3.heap[k]? := fun k hk => heap_far hk
  refine ⟨⟨v', vs ++ [.slice (some ⟨W.heap.size, 0, none⟩) 1 1], World.cell?_setCell_same _ _ _ hc, by simpa using hf, ?_, hbo, by omega⟩, ?_⟩
  · refine h.snoc (by omega) (fun b h1 h2 h3 => (hW b (by omega)).trans (grown_two hgrow h2 h3)) (own_block hown (fun b e => hW b (by have := (own_lt hown b e).1; omega))) ?_ ?_ ?_
    · refine own_of_block hB ?_ (by simp [nums, ints]) (by simp [maxLen])
      refine (hW W.heap.size (by omega)).trans ?_
      refine (hgrow.block W.heap.size (by simp; omega) (fun e => by have := (hov _ e.symm).2; omega)).trans ?_
      exact ((below_new (W.alloc (.cells #[.int .i64 (i : Int)] 3)) o2).block _ (by simp)).trans (World.alloc_heap_new W _)
    · intro b e
      have e : W.heap.size = b := Option.some.inj e
      omega
    · intro b e
      rcases hat with q | q
      · exact .inl (by rw [← q]; exact e)
      · rw [q] at e
        injection e with e
        simp at e
        refine .inr ⟨by omega, fun e2 => ?_⟩
        have e2 : W.heap.size = b := Option.some.inj e2
        omega
  · exact ((KeepB.of_below two_alloc hB).trans (KeepB.grown hgrow (by simp; omega) fun b e => (hov b e).1)).trans KeepB.set
theorem set3 {xs : List Value} {a b c a' b' c' : Value} {k : Nat} (h : xs.length = k) : (((xs ++ [a, b, c]).set k a').set (k + 1) b').set (k + 2) c' = xs ++ [a', b', c'] := by
  subst h
  simp
theorem grow_last {W y : World} {base bo vb cap n0 : Nat} {gs0 : List Gr} {gl : Gr} {vs0 : List Value} {ul v' : Value} {lo hi : Int} {i : Nat} (hn : gs0.length = n0) (h : GrV W base (.slice (some ⟨vb, 0, none⟩) (n0 + 1) cap) (gs0 ++ [gl]) (vs0 ++ [ul])) (hB : base ≤ W.heap.size)
    (hbo : bo < base) (hc : W.cell? ⟨bo, 0, none⟩ = some (.slice (some ⟨vb, 0, none⟩) (n0 + 1) cap)) (hf : W.frozen? ⟨bo, 0, none⟩ = false) (hz : W.heap.size ≤ y.heap.size) (h1 : y.os = W.os) (h2 : y.tape = W.tape) (h3 : y.output = W.output)
    (hfar : ∀ b, b < W.heap.size → ul.ownBlock ≠ some b → y.heap[b]? = W.heap[b]?) (hown : y.ownsRow base 3 1 v' (gl.ps.length + 1) (nums gl.ps ++ [.int .i64 (i : Int)])) (hat : ∀ b, v'.ownBlock = some b → ul.ownBlock = some b ∨ W.heap.size ≤ b) :
    GrB (((y.setCell ⟨vb, n0 * 3, none⟩ (.int .i64 lo)).setCell ⟨vb, n0 * 3 + 1, none⟩ (.int .i64 hi)).setCell ⟨vb, n0 * 3 + 2, none⟩ v') base bo (gs0 ++ [⟨lo, hi, gl.ps ++ [i]⟩]) ∧
    KeepB base bo W (((y.setCell ⟨vb, n0 * 3, none⟩ (.int .i64 lo)).setCell ⟨vb, n0 * 3 + 1, none⟩ (.int .i64 hi)).setCell ⟨vb, n0 * 3 + 2, none⟩ v') := by
  subst hn
  have hl : vs0.length = gs0.length := by have := h.len; simp at this; exact this
  have oul : (vs0 ++ [ul])[gs0.length]? = some ul := by rw [← hl]; simp
  have hvb := own_lt h.row vb rfl
  have hne : ul.ownBlock ≠ some vb := fun e => h.ne gs0.length ul oul vb e rfl
  have hule : ∀ b, ul.ownBlock = some b → base ≤ b := fun b e => (h.each_lt oul b e).1
  have hrow0 : y.ownsRow base 198 3 (.slice (some ⟨vb, 0, none⟩) (gs0.length + 1) cap) (gs0.length + 1) (grC gs0 vs0 ++ grF gl ul) := by
    have := own_block (w' := y) h.row (fun k hk => by injection hk with hk; subst hk; exact hfar vb hvb.2 hne)
    rw [grC_snoc hl, List.length_append] at this
    exact this
  have hgl : (grC gs0 vs0).length = gs0.length * 3 := grC_length hl
  have s1 := (((hrow0.stored (gs0.length * 3) (.int .i64 lo)).1.stored (gs0.length * 3 + 1) (.int .i64 hi)).1.stored (gs0.length * 3 + 2) v').1
  unfold grF at s1
  rw [set3 hgl] at s1
  have hW : ∀ k, k ≠ vb → (((y.setCell ⟨vb, gs0.length * 3, none⟩ (.int .i64 lo)).setCell ⟨vb, gs0.length * 3 + 1, none⟩ (.int .i64 hi)).setCell ⟨vb, gs0.length * 3 + 2, none⟩ v').heap[k]? = y.heap[k]? := fun k hk => ((heap_far hk).trans (heap_far hk)).trans (heap_far hk)
  have hs : (((y.setCell ⟨vb, gs0.length * 3, none⟩ (.int .i64 lo)).setCell ⟨vb, gs0.length * 3 + 1, none⟩ (.int .i64 hi)).setCell ⟨vb, gs0.length * 3 + 2, none⟩ v').heap.size = y.heap.size := by simp [World.setCell]
  generalize hz' : ((y.setCell ⟨vb, gs0.length * 3, none⟩ (.int .i64 lo)).setCell ⟨vb, gs0.length * 3 + 1, none⟩ (.int .i64 hi)).setCell ⟨vb, gs0.length * 3 + 2, none⟩ v' = z at *
  have hbz : z.heap[bo]? = W.heap[bo]? := (hW bo (by omega)).trans (hfar bo (by omega) (fun e => by have := hule bo e; omega))
  refine ⟨⟨_, vs0 ++ [v'], (World.cell?_of_block (a := ⟨bo, 0, none⟩) hbz).trans hc, (World.frozen?_of_block (a := ⟨bo, 0, none⟩) hbz).trans hf, ?_, hbo, by omega⟩, ?_⟩
  · refine h.last (by omega) (fun b a1 a2 a3 a4 => (hW b (fun e => a3 (by rw [e]; rfl))).trans (hfar b a2 a4)) s1 ?_ hat
    rw [show nums (gl.ps ++ [i]) = nums gl.ps ++ [.int .i64 (i : Int)] from nums_snoc _ _, List.length_append]
    refine own_block hown (fun k hk => hW k (fun e => ?_))
    subst e
    rcases hat k hk with q | q
    · exact hne q
    · omega
  · refine ⟨?_, ?_, ?_, by omega, fun k a1 a2 => (hW k (by omega)).trans (hfar k (by omega) (fun e => by have := hule k e; omega))⟩
    · rw [← hz']; exact h1
    · rw [← hz']; exact h2
    · rw [← hz']; exact h3
end Go.Proofs.YtcdjoegihmfanaaGreat
namespace Go.Proofs.YtcdjoegihmfanaaGreat
open Go.RowKit
theorem genT_steps {P : Program} {ops : Array Oper} {Q : Exit → Act → World → Prop} {n : Nat} {a0 : Act} (hh : headOkT ops n a0.tmps.size = true) (ht : tailOkW ops n = true) (hn : n ≤ ops.size)
    (G : (Nat → Bool) → (Nat → Value) → World → Prop)
    (step : ∀ i o, i < n → ops[i]? = some o → ∀ listed vals a w, listed.getD i false = false → (∀ e ∈ o.after, Region.binds .any e = true → listed.getD e.on false = true) → G (fun j => listed.getD j false) vals w → ActAt ops n a0 a listed vals →
      ∀ K : Act → World → Prop, (∀ v w', G (fun j => if j = i then true else listed.getD j false) (fun j => if j = i then v else vals j) w' → K (a.put o.dst v) w') → if Region.wanted o (yielded ops a.tmps) = true then o.wp P a w K Q else K (a.put o.dst undef) w)
    (tail : ∀ vals w, G (fun j => (maskOf ops.size n).getD j false) vals w → wpAny P .any ops Q (ops.size - n) (maskOf ops.size n) (putAll ops vals a0 n) w) :
    ∀ (m : Nat) (listed : Array Bool) (vals : Nat → Value) (a : Act) (w : World), listed.size = ops.size → (∀ i, n ≤ i → listed.getD i false = false) → (∀ k o, k < n → listed.getD k false = true → ops[k]? = some o → ∀ e ∈ o.after, Region.binds .any e = true → listed.getD e.on false = true) → cnt listed n = m → G (fun j => listed.getD j false) vals w → ActAt ops n a0 a listed vals →
      wpAny P .any ops Q (m + (ops.size - n)) listed a w
  | 0, listed, vals, a, w, hs, hr, hcl, hc, hM, hA => by
    have hl := cnt_zero listed n hc
    have e : listed = maskOf ops.size n := by
      refine Array.ext_getElem? fun i => ?_
      by_cases h1 : i < ops.size
      · have h2 : i < listed.size := by omega
        have h3 : (maskOf ops.size n)[i]? = some (decide (i < n)) := by simp [maskOf, h1]
        rw [h3, Array.getElem?_eq_getElem h2]
        by_cases h4 : i < n
        · have := hl i h4
          rw [Array.getD_eq_getD_getElem?, Array.getElem?_eq_getElem h2] at this
          simpa [h4] using this
        · have := hr i (by omega)
          rw [Array.getD_eq_getD_getElem?, Array.getElem?_eq_getElem h2] at this
          simpa [h4] using this
      · rw [Array.getElem?_eq_none (by omega), Array.getElem?_eq_none (by simp [maskOf]; omega)]
    rw [actT_eq hh hA hl, Nat.zero_add]
    subst e
    exact tail vals w hM
  | m + 1, listed, vals, a, w, hs, hr, hcl, hc, hM, hA => by
    obtain ⟨x, hx, hx1, hx2⟩ := cnt_pos listed n (by omega)
    have hxd : listed.getD x true = false := by
      rw [Array.getD_eq_getD_getElem?] at hx1 ⊢
      rw [Array.getElem?_eq_getElem (by omega)] at hx1 ⊢
      exact hx1
    rw [Nat.add_right_comm]
    refine ⟨fun h0 => ?_, fun i hi' => ?_⟩
    · obtain ⟨o, ho, he, _⟩ := headT_at hh hx
      have : x ∈ Region.ready .any ops listed := mem_ready.2 ⟨by omega, hxd, o, ho, fun e hm hb => hx2 _ (he e hm hb)⟩
      rw [h0] at this; cases this
    · obtain ⟨hi1, hi2, o, ho, he⟩ := mem_ready.1 hi'
      have hi3 : listed.getD i false = false := by
        rw [Array.getD_eq_getD_getElem?] at hi2 ⊢
        rw [Array.getElem?_eq_getElem (by omega)] at hi2 ⊢
        exact hi2
      have hin : i < n := by
        rcases Nat.lt_or_ge i n with h | h
        · exact h
        · have h1 := List.all_eq_true.1 ht i (List.mem_range.2 hi1)
          simp only [Bool.or_eq_true, decide_eq_true_eq, List.all_eq_true, List.mem_range] at h1
          rcases h1 with h1 | h1 | h1
          · omega
          · exact (waitsTail_no ho hr he h1).elim
          · have := waits_listed hcl (n + 1) i x (fun o2 ho2 => by rw [ho] at ho2; injection ho2 with ho2; subst ho2; exact he) (h1 x hx)
            rw [hx1] at this; cases this
      obtain ⟨o', ho', _, hds⟩ := headT_at hh hin
      rw [ho] at ho'; injection ho' with ho'; subst ho'
      have hdo : dstOf ops i = o.dst := by unfold dstOf; rw [ho]; rfl
      have key : ∀ v w', G (fun j => if j = i then true else listed.getD j false) (fun j => if j = i then v else vals j) w' → wpAny P .any ops Q (m + (ops.size - n)) (listed.setIfInBounds i true) (a.put o.dst v) w' := by
        intro v w' hgg
        refine genT_steps hh ht hn G step tail m _ (fun j => if j = i then v else vals j) _ _ (by simpa using hs) (fun j hj => ?_) (fun k o3 hk hl ho3 e3 he3 hb3 => ?_) ?_ ?_ ?_
        · rw [getD_set _ _ _ (by omega), if_neg (by omega)]; exact hr j hj
        · have key : listed.getD e3.on false = true := by
            rw [getD_set _ _ _ (by omega)] at hl
            by_cases e : k = i
            · subst e
              rw [ho] at ho3; injection ho3 with ho3; subst ho3
              exact he e3 he3 hb3
            · rw [if_neg e] at hl
              exact hcl k o3 hk hl ho3 e3 he3 hb3
          rw [getD_set _ _ _ (by omega)]
          by_cases e : e3.on = i
          · rw [if_pos e]
          · rw [if_neg e]; exact key
        · have := cnt_set listed i (by omega) hi3 n
          rw [if_pos hin] at this; omega
        · have e : (fun j => (listed.setIfInBounds i true).getD j false) = fun j => if j = i then true else listed.getD j false := funext fun j => by rw [getD_set _ _ _ (by omega)]
          rw [e]; exact hgg
        · cases hd : o.dst with
          | none =>
            rw [hd] at hdo
            rw [put_none]
            refine ⟨hA.defers, hA.size, fun j d' hj hl hd' => ?_, fun t htt => ?_⟩
            · rw [getD_set _ _ _ (by omega)] at hl
              have e : ¬ j = i := by rintro rfl; rw [hdo] at hd'; cases hd'
              rw [if_neg e] at hl
              simp only [if_neg e]
              exact hA.done j d' hj hl hd'
            · refine hA.rest t fun j hj hl => htt j hj ?_
              rw [getD_set _ _ _ (by omega)]
              by_cases e : j = i
              · rw [if_pos e]
              · rw [if_neg e]; exact hl
          | some d =>
            rw [hd] at hdo
            have hsd : d < a.tmps.size := by rw [hA.size]; exact (hds d hd).1
            refine ⟨hA.defers, by simpa [Act.put] using hA.size, fun j d' hj hl hd' => ?_, fun t htt => ?_⟩
            · rw [put_at _ _ _ _ hsd]
              rw [getD_set _ _ _ (by omega)] at hl
              by_cases e : j = i
              · subst e
                rw [hdo] at hd'; injection hd' with hd'
                simp [hd']
              · rw [if_neg e] at hl
                rw [if_neg (by rintro rfl; exact e (dstT_inj hh hj hin hd' hdo)), if_neg e]
                exact hA.done j d' hj hl hd'
            · have hti : t ≠ d := by
                rintro rfl
                exact htt i hin (by rw [getD_set _ _ _ (by omega), if_pos rfl]) hdo
              rw [put_at _ _ _ _ hsd, if_neg hti]
              refine hA.rest t fun j hj hl => htt j hj ?_
              rw [getD_set _ _ _ (by omega)]
              by_cases e : j = i
              · rw [if_pos e]
              · rw [if_neg e]; exact hl
      have hst := step i o hin ho listed vals a w hi3 he hM hA _ key
      unfold wpOp
      rw [ho]
      show if Region.wanted o (yielded ops a.tmps) = true then _ else _
      by_cases hw : Region.wanted o (yielded ops a.tmps) = true
      · rw [if_pos hw] at hst ⊢
        exact .inl hst
      · rw [if_neg hw] at hst ⊢
        exact hst
/-- The rule. -/
theorem wp_genT {P : Program} {id : Nat} {ops : Array Oper} {Q : Exit → Act → World → Prop} {a0 : Act} {W1 : World} (n : Nat) (hm : P.follows .mixedOrders = true) (hh : headOkT ops n a0.tmps.size = true) (ht : tailOkW ops n = true) (hn : n ≤ ops.size)
    (G : (Nat → Bool) → (Nat → Value) → World → Prop) (hG : ∀ vals, G (fun _ => false) vals W1.drew)
    (step : ∀ i o, i < n → ops[i]? = some o → ∀ listed vals a w, listed.getD i false = false → (∀ e ∈ o.after, Region.binds .any e = true → listed.getD e.on false = true) → G (fun j => listed.getD j false) vals w → ActAt ops n a0 a listed vals →
      ∀ K : Act → World → Prop, (∀ v w', G (fun j => if j = i then true else listed.getD j false) (fun j => if j = i then v else vals j) w' → K (a.put o.dst v) w') → if Region.wanted o (yielded ops a.tmps) = true then o.wp P a w K Q else K (a.put o.dst undef) w)
    (tail : ∀ vals w, G (fun j => (maskOf ops.size n).getD j false) vals w → wpAny P .any ops Q (ops.size - n) (maskOf ops.size n) (putAll ops vals a0 n) w) : (Code.region id ops true).wp P Q a0 W1 := by
  refine wp_region_any hm ?_
  have hz : ∀ i, (Array.replicate ops.size false).getD i false = false := by
    intro i
    rw [Array.getD_eq_getD_getElem?]
    by_cases h : i < ops.size
    · simp [h]
    · simp [h]
  have hc : ∀ k, cnt (Array.replicate ops.size false) k = k := by
    intro k
    induction k with
    | zero => rfl
    | succ k ih => simp only [cnt, ih, hz]; simp
  have := genT_steps (Q := Q) (a0 := a0) hh ht hn G step tail n (Array.replicate ops.size false) (fun _ => undef) a0 W1.drew (by simp) (fun i _ => hz i) (fun k _ _ h => (by rw [hz] at h; cases h)) (hc n)
    (by have e : (fun j => (Array.replicate ops.size false).getD j false) = fun _ => false := funext hz
        rw [e]; exact hG _) ⟨rfl, rfl, fun i _ _ h => (by rw [hz] at h; cases h), fun _ _ => rfl⟩
  rw [show n + (ops.size - n) = ops.size by omega] at this
  exact this
end Go.Proofs.YtcdjoegihmfanaaGreat
namespace Go.Proofs.YtcdjoegihmfanaaGreat
open Go.RowKit
set_option linter.unusedVariables false
/-- Behind the append: the new list. -/
structure YP (W : World) (base : Nat) (ul : Value) (gp : List Nat) (i : Nat) (v' : Value) (y : World) : Prop where
  hz : W.heap.size ≤ y.heap.size
  os : y.os = W.os
  tape : y.tape = W.tape
  output : y.output = W.output
  far : ∀ b, b < W.heap.size → ul.ownBlock ≠ some b → y.heap[b]? = W.heap[b]?
  own : y.ownsRow base 3 1 v' (gp.length + 1) (nums gp ++ [.int .i64 (i : Int)])
  at_ : ∀ b, v'.ownBlock = some b → ul.ownBlock = some b ∨ W.heap.size ≤ b
  sl : ∃ A c, v' = .slice A (gp.length + 1) c
def setLH (y : World) (vb o : Nat) (lo hi : Int) : World := (y.setCell ⟨vb, o, none⟩ (.int .i64 lo)).setCell ⟨vb, o + 1, none⟩ (.int .i64 hi)
structure GP (W : World) (C : Nat → Value) (base vb o : Nat) (ul : Value) (gp : List Nat) (i : Nat) (lo hi : Int) (done : Nat → Bool) (vals : Nat → Value) (x : World) : Prop where
  const : ∀ j, j < 13 → done j = true → j ≠ 8 → j ≠ 9 → vals j = C j
  d9 : done 9 = true → done 8 = true
  d12 : done 12 = true → done 9 = true
  pa : done 9 = false → Below W.heap.size W x
  p8 : done 9 = false → done 8 = true → ∃ k, vals 8 = .slice (some ⟨k, 0, none⟩) 1 1 ∧ W.heap.size ≤ k ∧ k < x.heap.size ∧ x.cell? ⟨k, 0, none⟩ = some (.int .i64 (i : Int))
  pb : done 9 = true → ∃ y, YP W base ul gp i (vals 9) y ∧ x = if done 12 = true then setLH y vb o lo hi else y
section
variable {W : World} {C : Nat → Value} {base vb o : Nat} {ul : Value} {gp : List Nat} {i : Nat} {lo hi : Int} {done : Nat → Bool} {vals : Nat → Value} {x : World}
theorem GP.start (vals : Nat → Value) : GP W C base vb o ul gp i lo hi (fun _ => false) vals W.drew :=
  ⟨fun j _ h => (by cases h), fun h => (by cases h), fun h => (by cases h), fun _ => (Below.refl _ _).drew, fun _ h => (by cases h), fun h => (by cases h)⟩
theorem GP.cell (h : GP W C base vb o ul gp i lo hi done vals x) {b q : Nat} (hb : b < W.heap.size) (hv : b ≠ vb) (hu : ul.ownBlock ≠ some b) : x.cell? ⟨b, q, none⟩ = W.cell? ⟨b, q, none⟩ := by
  cases h9 : done 9
  · exact (h.pa h9).cell (p := ⟨b, q, none⟩) hb
  · obtain ⟨y, hy, rfl⟩ := h.pb h9
    have e := World.cell?_of_block (a := ⟨b, q, none⟩) (hy.far b hb hu)
    split
    · exact ((cell_far hv).trans (cell_far hv)).trans e
    · exact e
theorem GP.cellv (h : GP W C base vb o ul gp i lo hi done vals x) {q : Nat} (hb : vb < W.heap.size) (hu : ul.ownBlock ≠ some vb) (h1 : q ≠ o) (h2 : q ≠ o + 1) : x.cell? ⟨vb, q, none⟩ = W.cell? ⟨vb, q, none⟩ := by
  cases h9 : done 9
  · exact (h.pa h9).cell (p := ⟨vb, q, none⟩) hb
  · obtain ⟨y, hy, rfl⟩ := h.pb h9
    have e := World.cell?_of_block (a := ⟨vb, q, none⟩) (hy.far vb hb hu)
    split
    · exact ((cell_far' h2).trans (cell_far' h1)).trans e
    · exact e
theorem GP.pure (h : GP W C base vb o ul gp i lo hi done vals x) (j : Nat) {v : Value} (hv : v = C j) (h8 : j ≠ 8) (h9 : j ≠ 9) (h12 : j ≠ 12) : GP W C base vb o ul gp i lo hi (fun k => if k = j then true else done k) (fun k => if k = j then v else vals k) x := by
  have e8 : (if 8 = j then true else done 8) = done 8 := if_neg (fun e => h8 e.symm)
  have e9 : (if 9 = j then true else done 9) = done 9 := if_neg (fun e => h9 e.symm)
  have e12 : (if 12 = j then true else done 12) = done 12 := if_neg (fun e => h12 e.symm)
  have v8 : (if 8 = j then v else vals 8) = vals 8 := if_neg (fun e => h8 e.symm)
  have v9 : (if 9 = j then v else vals 9) = vals 9 := if_neg (fun e => h9 e.symm)
  refine ⟨fun k hk hd a b => ?_, ?_, ?_, ?_, ?_, ?_⟩
  · by_cases e : k = j
    · subst e; simp [hv]
    · simp only [if_neg e] at hd ⊢; exact h.const k hk hd a b
  · simp only [e8, e9]; exact h.d9
  · simp only [e12, e9]; exact h.d12
  · simp only [e9]; exact h.pa
  · simp only [e9, e8, v8]; exact h.p8
  · simp only [e9, e12, v9]; exact h.pb
theorem GP.make (h : GP W C base vb o ul gp i lo hi done vals x) (h8 : done 8 = false) (t : TypeId) : GP W C base vb o ul gp i lo hi (fun k => if k = 8 then true else done k) (fun k => if k = 8 then .slice (some ⟨x.heap.size, 0, none⟩) 1 1 else vals k) (x.alloc (.cells #[.int .i64 (i : Int)] t)) := by
  have h9 : done 9 = false := by
    cases e : done 9
    · rfl
    · rw [h.d9 e] at h8; cases h8
  have h12 : done 12 = false := by
    cases e : done 12
    · rfl
    · rw [h.d12 e] at h9; cases h9
  have hb := h.pa h9
  refine ⟨fun k hk hd a b => ?_, fun e => ?_, fun e => ?_, fun _ => hb.alloc hb.size _, fun _ _ => ⟨x.heap.size, rfl, hb.size, by simp, ?_⟩, fun e => ?_⟩
  · simp only [if_neg a] at hd ⊢; exact h.const k hk hd a b
  · simp at e; rw [h9] at e; cases e
  · simp at e; rw [h12] at e; cases e
  · exact (Blk.new x [.int .i64 (i : Int)] t).cells 0 _ rfl
  · simp at e; rw [h9] at e; cases e
theorem GP.app (h : GP W C base vb o ul gp i lo hi done vals x) (h9 : done 9 = false) (h8 : done 8 = true) {v' : Value} {y : World} (hy : YP W base ul gp i v' y) : GP W C base vb o ul gp i lo hi (fun k => if k = 9 then true else done k) (fun k => if k = 9 then v' else vals k) y := by
  have h12 : done 12 = false := by
    cases e : done 12
    · rfl
    · rw [h.d12 e] at h9; cases h9
  refine ⟨fun k hk hd a b => ?_, fun _ => by simpa using h8, fun e => ?_, fun e => ?_, fun e => ?_, fun _ => ⟨y, by simpa using hy, ?_⟩⟩
  · simp only [if_neg b] at hd ⊢; exact h.const k hk hd a b
  · simp at e; rw [h12] at e; cases e
  · simp at e
  · simp at e
  · simp [h12]
theorem GP.put (h : GP W C base vb o ul gp i lo hi done vals x) (h9 : done 9 = true) (h12 : done 12 = false) {v : Value} (hv : v = C 12) : GP W C base vb o ul gp i lo hi (fun k => if k = 12 then true else done k) (fun k => if k = 12 then v else vals k) (setLH x vb o lo hi) := by
  obtain ⟨y, hy, hx⟩ := h.pb h9
  rw [if_neg (by rw [h12]; decide)] at hx
  subst hx
  refine ⟨fun k hk hd a b => ?_, fun _ => by simpa using h.d9 h9, fun _ => by simpa using h9, fun e => ?_, fun e => ?_, fun _ => ⟨x, by simpa using hy, by simp⟩⟩
  · by_cases e : k = 12
    · subst e; simp [hv]
    · simp only [if_neg e] at hd ⊢; exact h.const k hk hd a b
  · simp at e; rw [h9] at e; cases e
  · simp at e; rw [h9] at e; cases e
end
end Go.Proofs.YtcdjoegihmfanaaGreat
namespace Go.Proofs.YtcdjoegihmfanaaGreat
open Go.RowKit
set_option linter.unusedVariables false
theorem setLH_frozen {y : World} {vb o : Nat} {lo hi : Int} (a : Addr) : (setLH y vb o lo hi).frozen? a = y.frozen? a := by simp [setLH]
theorem setLH_size {y : World} {vb o : Nat} {lo hi : Int} : (setLH y vb o lo hi).heap.size = y.heap.size := by simp [setLH, World.setCell]
theorem infoInt9 : (Tryz.prog.info? 3).map (fun i => (i.zero, i.size, i.bytes)) = some (some (.int .i64 0), 1, 8) := by kernel_rfl
theorem grow_new' {W w3 : World} {base bo n0 : Nat} {v v' : Value} {gs : List Gr} {vs : List Value} {lo hi : Int} {i : Nat} {o2 : Obj} (hn : gs.length = n0) (h : GrV W base v gs vs) (hB : base ≤ W.heap.size) (hbo : bo < base) (hc : w3.cell? ⟨bo, 0, none⟩ = some v) (hf : w3.frozen? ⟨bo, 0, none⟩ = false)
    (hown : w3.ownsRow base 198 3 v' (n0 + 1) (grC gs vs ++ [.int .i64 lo, .int .i64 hi, .slice (some ⟨W.heap.size, 0, none⟩) 1 1])) (hgrow : ((W.alloc (.cells #[.int .i64 (i : Int)] 3)).alloc o2).grownBy w3 v.ownBlock)
    (hat : v'.ownBlock = v.ownBlock ∨ v'.ownBlock = some ((W.alloc (.cells #[.int .i64 (i : Int)] 3)).alloc o2).heap.size) :
    GrB (w3.setCell ⟨bo, 0, none⟩ v') base bo (gs ++ [⟨lo, hi, [i]⟩]) ∧ KeepB base bo W (w3.setCell ⟨bo, 0, none⟩ v') := by
  subst hn
  exact grow_new h hB hbo hc hf hown hgrow hat
set_option maxRecDepth 100000 in
set_option maxHeartbeats 4000000 in
theorem grow_any (g : Nat) (e0 e1 : Int) (pb off c : Nat) (ps : List Pr) (vt : Value) (i bd bo base : Nat) (gs : List Gr) (W : World) (hG : GdI W g e0 e1 pb off c ps vt) (hcd : W.cell? ⟨bd, 0, none⟩ = some (.pointer (some ⟨g, 0, none⟩))) (hbd : bd < W.heap.size) (hB : GrB W base bo gs) (hbase : base ≤ W.heap.size)
    (hi : i < ps.length) (hgl : gs.length ≤ 100) (hgp : ∀ x ∈ gs, x.ps.length ≤ 100) :
    Calls Tryz.prog 179 #[.int .i64 (i : Nat), .pointer (some ⟨bd, 0, none⟩), .pointer (some ⟨bo, 0, none⟩)] W fun e w' => e = .returned (.tuple #[]) ∧ GrB w' base bo (growG (spI e0 e1 ps) gs i) ∧ KeepB base bo W w' := by
  have HG := Lib.hid hG
  have HBD := Lib.hid hcd
  have HB := Lib.hid hB
  have i0 : (0 : Int) ≤ (i : Int) := by omega
  have i1 : (i : Int) < (ps.length : Int) := by omega
  clear hG hcd hB
  go_enter Tryz.func179, Tryz.ntmps179
  go_wp2_with fail
  refine wp_inv 11 (by kernel_rfl) (by kernel_rfl) (by kernel_rfl) (by decide) (FL [PEq (.pointer (some ⟨g, 0, none⟩)), PEq (.pointer (some ⟨g, 0, none⟩)), PEq (.pointer (some ⟨g, 0, none⟩)), PEq (.pointer (some ⟨g, 0, none⟩)), PEq (.pointer (some ⟨g, 2, none⟩)), PEq (.slice (some ⟨pb, off, none⟩) ps.length c), PEq (.int .i64 (i : Nat)), PEq (.pointer (some ⟨pb, off + i * 4, none⟩)), PEq (.agg #[.int .i64 ps[i].b, .int .i64 ps[i].m, .int .i64 ps[i].k, .int .i64 ps[i].r]), PEq (.agg #[.int .i64 (spI e0 e1 ps i).1, .int .i64 (spI e0 e1 ps i).2]), PBlk W.heap.size [.int .i64 0, .int .i64 0]])
    (fun x => Below W.heap.size W x) (fun x y => Below x.heap.size x y) (FL.keepB (by simp [stbB_blk, stbB_eq])) (below_drew W) ?_ ?_
  · intro iq o hi' ho listed vals a w5 hdep hM hAt K hK
    have HI := Lib.hid hM.inv
    match iq, hi' with
    | 0, _ =>
      injection ho with ho
      subst ho
      obtain ⟨e1, e1'⟩ := hAt.slot 1 (by kernel_rfl) (by rfl)
      have q0 := HI.out.at_ hbd HBD.out
      go_simp
      exact hK _ w5 (Below.refl _ _) HI.out rfl
    | 1, _ =>
      injection ho with ho
      subst ho
      obtain ⟨e1, e1'⟩ := hAt.slot 1 (by kernel_rfl) (by rfl)
      have q0 := HI.out.at_ hbd HBD.out
      go_simp
      exact hK _ w5 (Below.refl _ _) HI.out rfl
    | 2, _ =>
      injection ho with ho
      subst ho
      have l1 := hdep ⟨1, .data⟩ (by simp) rfl
      obtain ⟨x1, x1'⟩ := hAt.dep 1 (d := 8) (by omega) l1 (by rfl) (hM.fact 1 (by omega) l1)
      go_simp
      exact hK _ w5 (Below.refl _ _) HI.out rfl
    | 3, _ =>
      injection ho with ho
      subst ho
      have l2 := hdep ⟨2, .data⟩ (by simp) rfl
      obtain ⟨x2, x2'⟩ := hAt.dep 2 (d := 9) (by omega) l2 (by rfl) (hM.fact 2 (by omega) l2)
      go_simp
      exact hK _ w5 (Below.refl _ _) HI.out rfl
    | 4, _ =>
      injection ho with ho
      subst ho
      have l3 := hdep ⟨3, .data⟩ (by simp) rfl
      obtain ⟨x3, x3'⟩ := hAt.dep 3 (d := 10) (by omega) l3 (by rfl) (hM.fact 3 (by omega) l3)
      go_simp
      exact hK _ w5 (Below.refl _ _) HI.out rfl
    | 5, _ =>
      injection ho with ho
      subst ho
      have l4 := hdep ⟨4, .data⟩ (by simp) rfl
      obtain ⟨x4, x4'⟩ := hAt.dep 4 (d := 11) (by omega) l4 (by rfl) (hM.fact 4 (by omega) l4)
      have q0 := (HG.out.below HI.out).bk.c2
      go_simp
      exact hK _ w5 (Below.refl _ _) HI.out rfl
    | 6, _ =>
      injection ho with ho
      subst ho
      obtain ⟨e0, e0'⟩ := hAt.slot 0 (by kernel_rfl) (by rfl)
      go_simp
      exact hK _ w5 (Below.refl _ _) HI.out rfl
    | 7, _ =>
      injection ho with ho
      subst ho
      have l5 := hdep ⟨5, .data⟩ (by simp) rfl
      obtain ⟨x5, x5'⟩ := hAt.dep 5 (d := 12) (by omega) l5 (by rfl) (hM.fact 5 (by omega) l5)
      have l6 := hdep ⟨6, .data⟩ (by simp) rfl
      obtain ⟨x6, x6'⟩ := hAt.dep 6 (d := 13) (by omega) l6 (by rfl) (hM.fact 6 (by omega) l6)
      go_simp
      exact hK _ w5 (Below.refl _ _) HI.out rfl
    | 8, _ =>
      injection ho with ho
      subst ho
      have l7 := hdep ⟨7, .data⟩ (by simp) rfl
      obtain ⟨x7, x7'⟩ := hAt.dep 7 (d := 14) (by omega) l7 (by rfl) (hM.fact 7 (by omega) l7)
      obtain ⟨p0, p1, p2, p3⟩ := (HG.out.below HI.out).rp.proof' hi
      go_simp
      exact hK _ w5 (Below.refl _ _) HI.out rfl
    | 9, _ =>
      injection ho with ho
      subst ho
      have l0 := hdep ⟨0, .data⟩ (by simp) rfl
      obtain ⟨x0, x0'⟩ := hAt.dep 0 (d := 7) (by omega) l0 (by rfl) (hM.fact 0 (by omega) l0)
      have l8 := hdep ⟨8, .data⟩ (by simp) rfl
      obtain ⟨x8, x8'⟩ := hAt.dep 8 (d := 15) (by omega) l8 (by rfl) (hM.fact 8 (by omega) l8)
      go_simp
      refine (span_at (HG.out.below HI.out) hi).mono ?_
      rintro e w6 ⟨rfl, hb6⟩
      exact hK _ w6 hb6 (HI.out.trans (hb6.mono HI.out.size)) rfl
    | 10, _ =>
      injection ho with ho
      subst ho
      go_simp
      exact hK _ _ (below_new _ _) (HI.out.alloc HI.out.size _) ⟨w5.heap.size, rfl, HI.out.size, Blk.new w5 [.int .i64 0, .int .i64 0] _⟩
    | jq + 11, hq => exact absurd hq (by omega)
  · intro vals w5 hM
    have HI := Lib.hid hM.inv
    have f0 : vals 0 = .pointer (some ⟨g, 0, none⟩) := hM.all (by decide) 0 (by omega)
    have f1 : vals 1 = .pointer (some ⟨g, 0, none⟩) := hM.all (by decide) 1 (by omega)
    have f2 : vals 2 = .pointer (some ⟨g, 0, none⟩) := hM.all (by decide) 2 (by omega)
    have f3 : vals 3 = .pointer (some ⟨g, 0, none⟩) := hM.all (by decide) 3 (by omega)
    have f4 : vals 4 = .pointer (some ⟨g, 2, none⟩) := hM.all (by decide) 4 (by omega)
    have f5 : vals 5 = .slice (some ⟨pb, off, none⟩) ps.length c := hM.all (by decide) 5 (by omega)
    have f6 : vals 6 = .int .i64 (i : Nat) := hM.all (by decide) 6 (by omega)
    have f7 : vals 7 = .pointer (some ⟨pb, off + i * 4, none⟩) := hM.all (by decide) 7 (by omega)
    have f8 : vals 8 = .agg #[.int .i64 ps[i].b, .int .i64 ps[i].m, .int .i64 ps[i].k, .int .i64 ps[i].r] := hM.all (by decide) 8 (by omega)
    have f9 : vals 9 = .agg #[.int .i64 (spI e0 e1 ps i).1, .int .i64 (spI e0 e1 ps i).2] := hM.all (by decide) 9 (by omega)
    obtain ⟨k10, f10, g10, h10⟩ := hM.all (by decide) 10 (by omega)
    clear hM
    simp only [putAll, List.range, List.range.loop, List.foldl_cons, List.foldl_nil, f0, f1, f2, f3, f4, f5, f6, f7, f8, f9, f10]
    clear f0 f1 f2 f3 f4 f5 f6 f7 f8 f9 f10
    change wpAny _ _ _ _ _ _ (Act.put (Act.put (Act.put (Act.put (Act.put (Act.put (Act.put (Act.put (Act.put (Act.put (Act.put _ (some 7) _) (some 8) _) (some 9) _) (some 10) _) (some 11) _) (some 12) _) (some 13) _) (some 14) _) (some 15) _) (some 16) _) (some 4) _) _
    simp only [Act.put, List.setIfInBounds_toArray, List.set_cons_zero, List.set_cons_succ]
    refine tail_step 11 _ (by kernel_rfl) rfl rfl (fun K' hK => ?_)
    have q0 := h10.cells 0 _ rfl
    have q1 := h10.cells 1 _ rfl
    have q2 := h10.free 0
    have q3 := h10.free 1
    have q4 := h10.lt
    go_simp
    refine hK _ _ ?_
    clear hK K'
    refine wpAny_done (by kernel_rfl) ?_ _
    have B4 := (h10.set (j := 0) (by decide) (.int .i64 (spI e0 e1 ps i).1)).set (j := 1) (by simp) (.int .i64 (spI e0 e1 ps i).2)
    have bl : Below W.heap.size W _ := (HI.out.setCell (p := ⟨k10, 0, none⟩) g10 (.int .i64 (spI e0 e1 ps i).1)).setCell (p := ⟨k10, 1, none⟩) g10 (.int .i64 (spI e0 e1 ps i).2)
    clear q0 q1 q2 q3 q4 h10 HI
    generalize (w5.setCell _ _).setCell _ _ = W9 at B4 bl ⊢
    have r0 := B4.cells 0 _ rfl
    have r1 := B4.cells 1 _ rfl
    have rl := B4.lt
    clear B4
    obtain ⟨v, vs, cv, fv, hv, hvb, hvl⟩ := HB.out.below bl
    have hb9 : base ≤ W9.heap.size := Nat.le_trans hbase bl.size
    have hkl : k10 < W9.heap.size := rl
    rcases List.eq_nil_or_concat gs with hgs0 | ⟨gs0, gl, hgs0⟩
    · have hz0 : ¬ (0 < gs.length) := by rw [hgs0]; simp
      have HEQ : Hid (growG (spI e0 e1 ps) gs i = gs ++ [newG (spI e0 e1 ps) i]) := Lib.hid (by rw [hgs0]; rfl)
      clear hgs0
      obtain ⟨A1, c1, rfl, hc1, _⟩ := own_slice hv.row
      obtain ⟨i0, hi0, hz0, hz1, hz2⟩ := info_parts infoGroup
      have hrow := hv.row
      have hov := own_lt hv.row
      have HV := Lib.hid hv
      have HBL := Lib.hid bl
      have HOV := Lib.hid hov
      clear hv hov bl HB HG HBD hgp
      go_wp2_with (at_builtin; refine Go.wpList_append_own_at _ rfl _ _ 177 rfl base 198 i0 (.agg #[.int .i64 0, .int .i64 0, .slice none 0 0]) 3 40 Tryz.underlying177 hi0 hz0 hz1 hz2 rfl (by decide) _ _ _ rfl ((hrow.alloc _).alloc _) ⟨W9.heap.size + 1, 0, none⟩ 1 1 [.int .i64 (spI e0 e1 ps i).1, .int .i64 (spI e0 e1 ps i).2, .slice (some ⟨W9.heap.size, 0, none⟩) 1 1] rfl rfl (grp_cells W9 _ _ _ _ _) (by simp [Value.oneCell']) (by unfold maxLen; omega) (by omega) (by simp; omega) ?_; intro v' w3 hown' hgrow hnil hat; obtain ⟨A2, c2, rfl, hc2, _⟩ := own_slice hown'; have hg3 := grown_two hgrow hvl (fun e => by have := (HOV.out _ e).1; omega); have hb3 := (World.cell?_of_block (a := ⟨bo, 0, none⟩) hg3).trans cv; have hf3 := (World.frozen?_of_block (a := ⟨bo, 0, none⟩) hg3).trans fv)
      obtain ⟨f1, f2⟩ := grow_new HV.out hb9 hvb hb3 hf3 hown' hgrow hat
      go_end0
      exact ⟨rfl, by rw [HEQ.out]; exact f1, (KeepB.of_below HBL.out hbase).trans f2⟩
    · rw [List.concat_eq_append] at hgs0
      have hn := hv.len
      obtain ⟨vs0, ul, rfl⟩ : ∃ vs0 ul, vs = vs0 ++ [ul] := by
        rcases List.eq_nil_or_concat vs with h | ⟨a, b, h⟩
        · rw [h, hgs0] at hn; simp at hn
        · exact ⟨a, b, h.trans (List.concat_eq_append ..)⟩
      have hl0 : vs0.length = gs0.length := by rw [hgs0] at hn; simpa using hn
      subst hgs0
      obtain ⟨vb, cap, rfl, hvb1, hvb2⟩ := hv.row.form (by simp)
      rw [List.length_append, List.length_singleton] at cv
      obtain ⟨C0, C1, C2⟩ : W9.cell? ⟨vb, gs0.length * 3, none⟩ = some (.int .i64 gl.lo) ∧ W9.cell? ⟨vb, gs0.length * 3 + 1, none⟩ = some (.int .i64 gl.hi) ∧ W9.cell? ⟨vb, gs0.length * 3 + 2, none⟩ = some ul := by
        have hrc := own_cells hv.row
        have hge := grC_get (gs := gs0 ++ [gl]) (vs := vs0 ++ [ul]) hn gs0.length (by simp)
        simp only [List.getElem_append_right (Nat.le_refl _), Nat.sub_self, List.getElem_singleton] at hge
        exact ⟨hrc _ _ hge.1, hrc _ _ hge.2.1, hrc _ _ (by have := hge.2.2; rw [List.getElem_append_right (by omega)] at this; simpa using this)⟩
      have hfz := hv.row.frozenAt
      have HV9 := Lib.hid hv
      have HFZ := Lib.hid hfz
      have hz0 : (0 : Int) < (gs0.length : Int) + 1 := by omega
      have hzl : gs0.length ≤ 100 := by simp at hgl; omega
      have hgl5 : gl.ps.length ≤ 100 := hgp gl (by simp)
      have hz1 : (0 : Int) ≤ (gs0.length : Int) := by omega
      have hz2 : (gs0.length : Int) < (gs0.length : Int) + 1 := by omega
      have hz3 : wrap64 (gs0.length : Int) = (gs0.length : Int) := IntWalk.wrap64_in _ (by omega)
      clear hv hfz hn
      have hvl2 : vb < W9.heap.size := hvb2
      go_upto_region 3 with fail
      refine wp_inv 7 (by kernel_rfl) (by kernel_rfl) (by kernel_rfl) (by decide) (FL [PEq (.pointer (some ⟨vb, gs0.length * 3, none⟩)), PEq (.pointer (some ⟨vb, gs0.length * 3, none⟩)), PEq (.pointer (some ⟨vb, gs0.length * 3, none⟩)), PEq (.agg #[.int .i64 gl.lo, .int .i64 gl.hi]), PEq (.agg #[.int .i64 (spI e0 e1 ps i).1, .int .i64 (spI e0 e1 ps i).2]), PEq (.agg #[.int .i64 (max gl.lo (spI e0 e1 ps i).1), .int .i64 (min gl.hi (spI e0 e1 ps i).2)]), PBlk W9.heap.size [.int .i64 0, .int .i64 0]])
        (fun x => Below W9.heap.size W9 x) (fun x y => Below x.heap.size x y) (FL.keepB (by simp [stbB_blk, stbB_eq])) (below_drew W9) ?_ ?_
      · intro iq o hi' ho listed vals a w5 hdep hM hAt K hK
        have HI := Lib.hid hM.inv
        match iq, hi' with
        | 0, _ =>
          injection ho with ho
          subst ho
          obtain ⟨e5, e5'⟩ := hAt.slot 5 (by kernel_rfl) (by rfl)
          go_simp
          exact hK _ w5 (Below.refl _ _) HI.out rfl
        | 1, _ =>
          injection ho with ho
          subst ho
          have l0 := hdep ⟨0, .data⟩ (by simp) rfl
          obtain ⟨x0, x0'⟩ := hAt.dep 0 (d := 25) (by omega) l0 (by rfl) (hM.fact 0 (by omega) l0)
          go_simp
          exact hK _ w5 (Below.refl _ _) HI.out rfl
        | 2, _ =>
          injection ho with ho
          subst ho
          have l1 := hdep ⟨1, .data⟩ (by simp) rfl
          obtain ⟨x1, x1'⟩ := hAt.dep 1 (d := 26) (by omega) l1 (by rfl) (hM.fact 1 (by omega) l1)
          go_simp
          exact hK _ w5 (Below.refl _ _) HI.out rfl
        | 3, _ =>
          injection ho with ho
          subst ho
          have l2 := hdep ⟨2, .data⟩ (by simp) rfl
          obtain ⟨x2, x2'⟩ := hAt.dep 2 (d := 27) (by omega) l2 (by rfl) (hM.fact 2 (by omega) l2)
          have q0 := HI.out.at_ hvl2 C0
          have q1 := HI.out.at_ hvl2 C1
          go_simp
          exact hK _ w5 (Below.refl _ _) HI.out rfl
        | 4, _ =>
          injection ho with ho
          subst ho
          obtain ⟨e4, e4'⟩ := hAt.slot 4 (by kernel_rfl) (by rfl)
          have q0 := HI.out.at_ rl r0
          have q1 := HI.out.at_ rl r1
          go_simp
          exact hK _ w5 (Below.refl _ _) HI.out rfl
        | 5, _ =>
          injection ho with ho
          subst ho
          have l3 := hdep ⟨3, .data⟩ (by simp) rfl
          obtain ⟨x3, x3'⟩ := hAt.dep 3 (d := 28) (by omega) l3 (by rfl) (hM.fact 3 (by omega) l3)
          have l4 := hdep ⟨4, .data⟩ (by simp) rfl
          obtain ⟨x4, x4'⟩ := hAt.dep 4 (d := 29) (by omega) l4 (by rfl) (hM.fact 4 (by omega) l4)
          go_simp
          refine (meet_any (gl.lo, gl.hi) (spI e0 e1 ps i) w5).mono ?_
          rintro e w6 ⟨rfl, hb6⟩
          exact hK _ w6 hb6 (HI.out.trans (hb6.mono HI.out.size)) rfl
        | 6, _ =>
          injection ho with ho
          subst ho
          go_simp
          exact hK _ _ (below_new _ _) (HI.out.alloc HI.out.size _) ⟨w5.heap.size, rfl, HI.out.size, Blk.new w5 [.int .i64 0, .int .i64 0] _⟩
        | jq + 7, hq => exact absurd hq (by omega)
      · intro vals w5 hM
        have HI := Lib.hid hM.inv
        have f0 : vals 0 = .pointer (some ⟨vb, gs0.length * 3, none⟩) := hM.all (by decide) 0 (by omega)
        have f1 : vals 1 = .pointer (some ⟨vb, gs0.length * 3, none⟩) := hM.all (by decide) 1 (by omega)
        have f2 : vals 2 = .pointer (some ⟨vb, gs0.length * 3, none⟩) := hM.all (by decide) 2 (by omega)
        have f3 : vals 3 = .agg #[.int .i64 gl.lo, .int .i64 gl.hi] := hM.all (by decide) 3 (by omega)
        have f4 : vals 4 = .agg #[.int .i64 (spI e0 e1 ps i).1, .int .i64 (spI e0 e1 ps i).2] := hM.all (by decide) 4 (by omega)
        have f5 : vals 5 = .agg #[.int .i64 (max gl.lo (spI e0 e1 ps i).1), .int .i64 (min gl.hi (spI e0 e1 ps i).2)] := hM.all (by decide) 5 (by omega)
        obtain ⟨k6, f6, g6, h6⟩ := hM.all (by decide) 6 (by omega)
        clear hM
        simp only [putAll, List.range, List.range.loop, List.foldl_cons, List.foldl_nil, f0, f1, f2, f3, f4, f5, f6]
        clear f0 f1 f2 f3 f4 f5 f6
        change wpAny _ _ _ _ _ _ (Act.put (Act.put (Act.put (Act.put (Act.put (Act.put (Act.put _ (some 25) _) (some 26) _) (some 27) _) (some 28) _) (some 29) _) (some 30) _) (some 6) _) _
        simp only [Act.put, List.setIfInBounds_toArray, List.set_cons_zero, List.set_cons_succ]
        refine tail_step 7 _ (by kernel_rfl) rfl rfl (fun K' hK => ?_)
        have q0 := h6.cells 0 _ rfl
        have q1 := h6.cells 1 _ rfl
        have q2 := h6.free 0
        have q3 := h6.free 1
        have q4 := h6.lt
        go_simp
        refine hK _ _ ?_
        clear hK K'
        refine wpAny_done (by kernel_rfl) ?_ _
        have B6 := (h6.set (j := 0) (by decide) (.int .i64 (max gl.lo (spI e0 e1 ps i).1))).set (j := 1) (by simp) (.int .i64 (min gl.hi (spI e0 e1 ps i).2))
        have bl10 : Below W9.heap.size W9 _ := (HI.out.setCell (p := ⟨k6, 0, none⟩) g6 (.int .i64 (max gl.lo (spI e0 e1 ps i).1))).setCell (p := ⟨k6, 1, none⟩) g6 (.int .i64 (min gl.hi (spI e0 e1 ps i).2))
        clear q0 q1 q2 q3 q4 h6 HI
        generalize (w5.setCell _ _).setCell _ _ = W10 at B6 bl10 ⊢
        have m0 := B6.cells 0 _ rfl
        have m1 := B6.cells 1 _ rfl
        have hk6 := B6.lt
        clear B6
        have HB10 := Lib.hid bl10
        have HBL := Lib.hid bl
        clear bl bl10
        have hvt := HV9.out.below HB10.out
        have hvt2 : GrV W10 base (.slice (some ⟨vb, 0, none⟩) (gs0.length + 1) cap) (gs0 ++ [gl]) (vs0 ++ [ul]) := by
          have h := hvt
          rw [List.length_append, List.length_singleton] at h
          exact h
        have cv10 := HB10.out.at_ hvl cv
        have fv10 := (HB10.out.frozen (p := ⟨bo, 0, none⟩) hvl).trans fv
        have hb10 : base ≤ W10.heap.size := Nat.le_trans hb9 HB10.out.size
        have hvl10 : bo < W10.heap.size := Nat.lt_of_lt_of_le hvl HB10.out.size
        have hul9 : (vs0 ++ [ul])[gs0.length]? = some ul := by rw [← hl0]; simp
        have hul := hvt.each gs0.length gl ul (by simp) hul9
        have hulb := hvt.each_lt hul9
        have hvbu : ul.ownBlock ≠ some vb := fun e => hvt.ne gs0.length ul hul9 vb e rfl
        have hk6u : ul.ownBlock ≠ some k6 := fun e => by have := (HV9.out.each_lt hul9 k6 e).2; omega
        have hk6v : k6 ≠ vb := by omega
        have hrow := hvt2.row
        rw [List.length_append, List.length_singleton] at hrow
        have HUL := Lib.hid hul
        have HULB := Lib.hid hulb
        have HVT := Lib.hid hvt2
        have s0 := HB10.out.at_ rl r0
        have s1 := HB10.out.at_ rl r1
        have D0 := HB10.out.at_ hvl2 C0
        have D1 := HB10.out.at_ hvl2 C1
        have D2 := HB10.out.at_ hvl2 C2
        have hvbl : vb < W10.heap.size := Nat.lt_of_lt_of_le hvl2 HB10.out.size
        have HFD : Hid (∀ o, W10.frozen? ⟨vb, o, none⟩ = false) := Lib.hid (fun o => (HB10.out.frozen (p := ⟨vb, o, none⟩) hvl2).trans (HFZ.out o))
        clear C0 C1 C2 HFZ hvt hul9 hvt2 HV9 cv fv hz1 hz2 hz3 r0 r1 HB HG HBD hgp hl0 hgl hul hulb
        obtain ⟨M0, HM0⟩ : ∃ x, Hid (max gl.lo (spI e0 e1 ps i).1 = x) := ⟨_, Lib.hid rfl⟩
        obtain ⟨M1, HM1⟩ : ∃ x, Hid (min gl.hi (spI e0 e1 ps i).2 = x) := ⟨_, Lib.hid rfl⟩
        rw [HM0.out] at m0 ⊢
        rw [HM1.out] at m1 ⊢
        by_cases hmt : M0 ≤ M1
        · have HEQ : Hid (growG (spI e0 e1 ps) (gs0 ++ [gl]) i = gs0 ++ [⟨M0, M1, gl.ps ++ [i]⟩]) := Lib.hid (by simp only [growG, List.getLast?_concat, meetsG, HM0.out, HM1.out, decide_eq_true hmt, if_true, List.dropLast_concat, addG])
          go_upto_region 5 with fail
          obtain ⟨i0', hi0, hz0', hz1', hz2'⟩ := info_parts infoInt9
          obtain ⟨A5, c5, rfl, hc5, _⟩ := own_slice HUL.out
          clear s0 s1
          refine wp_genT 13 (by kernel_rfl) (by kernel_rfl) (by kernel_rfl) (by decide) (GP W10 (fun j => match j with | 0 => .pointer (some ⟨vb, gs0.length * 3, none⟩) | 1 => .pointer (some ⟨vb, gs0.length * 3, none⟩) | 2 => .agg #[.int .i64 M0, .int .i64 M1] | 3 => .pointer (some ⟨vb, gs0.length * 3, none⟩) | 4 => .pointer (some ⟨vb, gs0.length * 3, none⟩) | 5 => .pointer (some ⟨vb, gs0.length * 3 + 2, none⟩) | 6 => .slice A5 gl.ps.length c5 | 7 => .int .i64 (i : Nat) | 10 => .pointer (some ⟨vb, gs0.length * 3, none⟩) | 11 => .pointer (some ⟨vb, gs0.length * 3, none⟩) | _ => undef) base vb (gs0.length * 3) (.slice A5 gl.ps.length c5) gl.ps i M0 M1) (fun vals => GP.start vals) ?_ ?_
          · intro iq o hi' ho listed vals a w5 hnl hdep hM hAt K hK
            match iq, hi' with
            | 0, _ =>
              injection ho with ho
              subst ho
              rw [if_pos (wantedN rfl)]
              obtain ⟨e5, e5'⟩ := hAt.slot 5 (by kernel_rfl) (by rfl)
              go_simp
              exact hK _ w5 (hM.pure 0 rfl (by decide) (by decide) (by decide))
            | 1, _ =>
              injection ho with ho
              subst ho
              rw [if_pos (wantedN rfl)]
              obtain ⟨e5, e5'⟩ := hAt.slot 5 (by kernel_rfl) (by rfl)
              go_simp
              exact hK _ w5 (hM.pure 1 rfl (by decide) (by decide) (by decide))
            | 2, _ =>
              injection ho with ho
              subst ho
              rw [if_pos (wantedN rfl)]
              obtain ⟨e6, e6'⟩ := hAt.slot 6 (by kernel_rfl) (by rfl)
              have q0 := (hM.cell (b := k6) (q := 0) hk6 hk6v hk6u).trans m0
              have q1 := (hM.cell (b := k6) (q := 1) hk6 hk6v hk6u).trans m1
              go_simp
              exact hK _ w5 (hM.pure 2 rfl (by decide) (by decide) (by decide))
            | 3, _ =>
              injection ho with ho
              subst ho
              rw [if_pos (wantedN rfl)]
              obtain ⟨e5, e5'⟩ := hAt.slot 5 (by kernel_rfl) (by rfl)
              go_simp
              exact hK _ w5 (hM.pure 3 rfl (by decide) (by decide) (by decide))
            | 4, _ =>
              injection ho with ho
              subst ho
              rw [if_pos (wantedN rfl)]
              have l3 := hdep ⟨3, .data⟩ (by simp) rfl
              obtain ⟨x3, x3'⟩ := hAt.dep 3 (d := 39) (by omega) l3 (by rfl) (hM.const 3 (by decide) l3 (by decide) (by decide))
              go_simp
              exact hK _ w5 (hM.pure 4 rfl (by decide) (by decide) (by decide))
            | 5, _ =>
              injection ho with ho
              subst ho
              rw [if_pos (wantedN rfl)]
              have l4 := hdep ⟨4, .data⟩ (by simp) rfl
              obtain ⟨x4, x4'⟩ := hAt.dep 4 (d := 40) (by omega) l4 (by rfl) (hM.const 4 (by decide) l4 (by decide) (by decide))
              go_simp
              exact hK _ w5 (hM.pure 5 rfl (by decide) (by decide) (by decide))
            | 6, _ =>
              injection ho with ho
              subst ho
              rw [if_pos (wantedN rfl)]
              have l5 := hdep ⟨5, .data⟩ (by simp) rfl
              obtain ⟨x5, x5'⟩ := hAt.dep 5 (d := 41) (by omega) l5 (by rfl) (hM.const 5 (by decide) l5 (by decide) (by decide))
              have q0 := (hM.cellv (q := gs0.length * 3 + 2) hvbl hvbu (by omega) (by omega)).trans D2
              go_simp
              exact hK _ w5 (hM.pure 6 rfl (by decide) (by decide) (by decide))
            | 7, _ =>
              injection ho with ho
              subst ho
              rw [if_pos (wantedN rfl)]
              obtain ⟨e0, e0'⟩ := hAt.slot 0 (by kernel_rfl) (by rfl)
              go_simp
              exact hK _ w5 (hM.pure 7 rfl (by decide) (by decide) (by decide))
            | 8, _ =>
              injection ho with ho
              subst ho
              rw [if_pos (wantedN rfl)]
              have l7 := hdep ⟨7, .data⟩ (by simp) rfl
              obtain ⟨x7, x7'⟩ := hAt.dep 7 (d := 43) (by omega) l7 (by rfl) (hM.const 7 (by decide) l7 (by decide) (by decide))
              go_simp
              exact hK _ _ (hM.make hnl _)
            | 9, _ =>
              injection ho with ho
              subst ho
              rw [if_pos (wantedN rfl)]
              have l6 := hdep ⟨6, .data⟩ (by simp) rfl
              obtain ⟨x6, x6'⟩ := hAt.dep 6 (d := 42) (by omega) l6 (by rfl) (hM.const 6 (by decide) l6 (by decide) (by decide))
              have l8 := hdep ⟨8, .data⟩ (by simp) rfl
              obtain ⟨k8, f8, g8, z8, h8⟩ := hM.p8 hnl l8
              obtain ⟨x8, x8'⟩ := hAt.dep 8 (d := 44) (by omega) l8 (by rfl) f8
              have hpa := hM.pa hnl
              have hbs := hpa.size
              refine wp_append_lies w5 _ _ 41 rfl base 3 i0' (.int .i64 0) 1 8 Tryz.underlying41 hi0 hz0' hz1' hz2' rfl (by decide) (.slice A5 gl.ps.length c5) gl.ps.length (nums gl.ps) (by simp [Act.eval, x6']) (own_block HUL.out (fun b e => hpa.block b (HULB.out b e).2)) ⟨k8, 0, none⟩ 1 1 [.int .i64 (i : Int)] (by simp [Act.eval, x8']) rfl (fun j u hu => ?_) (by simp [Value.oneCell']) (by decide) (by unfold maxLen; omega) (by omega) (by omega) w5.heap.size rfl ?_
              · match j with
                | 0 => injection hu with hu; subst hu; rw [addr_add]; exact h8
              · intro gq cq y hoy hgy haty hlty
                refine hK _ _ (hM.app hnl l8 ⟨Nat.le_trans hbs hgy.size, hgy.os.trans hpa.os, hgy.tape.trans hpa.tape, hgy.output.trans hpa.output, fun b hb hne => (hgy.block b (by omega) (fun e => hne e.symm)).trans (hpa.block b hb), hoy, fun b e => ?_, ⟨_, _, rfl⟩⟩)
                have e : gq = b := Option.some.inj e
                subst e
                rcases haty with q | q
                · exact .inl q
                · exact .inr (by omega)
            | 10, _ =>
              injection ho with ho
              subst ho
              rw [if_pos (wantedN rfl)]
              have l0 := hdep ⟨0, .data⟩ (by simp) rfl
              obtain ⟨x0, x0'⟩ := hAt.dep 0 (d := 36) (by omega) l0 (by rfl) (hM.const 0 (by decide) l0 (by decide) (by decide))
              go_simp
              exact hK _ w5 (hM.pure 10 rfl (by decide) (by decide) (by decide))
            | 11, _ =>
              injection ho with ho
              subst ho
              rw [if_pos (wantedN rfl)]
              have l10 := hdep ⟨10, .data⟩ (by simp) rfl
              obtain ⟨x10, x10'⟩ := hAt.dep 10 (d := 46) (by omega) l10 (by rfl) (hM.const 10 (by decide) l10 (by decide) (by decide))
              go_simp
              exact hK _ w5 (hM.pure 11 rfl (by decide) (by decide) (by decide))
            | 12, _ =>
              injection ho with ho
              subst ho
              rw [if_pos (wantedN rfl)]
              have l11 := hdep ⟨11, .data⟩ (by simp) rfl
              obtain ⟨x11, x11'⟩ := hAt.dep 11 (d := 47) (by omega) l11 (by rfl) (hM.const 11 (by decide) l11 (by decide) (by decide))
              have l2 := hdep ⟨2, .data⟩ (by simp) rfl
              obtain ⟨x2, x2'⟩ := hAt.dep 2 (d := 38) (by omega) l2 (by rfl) (hM.const 2 (by decide) l2 (by decide) (by decide))
              have l9 := hdep ⟨9, .chain⟩ (by simp) rfl
              have hne1 : hM.pb l9 = hM.pb l9 := rfl
              obtain ⟨y, hy, hx⟩ := hM.pb l9
              rw [if_neg (by rw [hnl]; decide)] at hx
              subst hx
              have q0 := (World.cell?_of_block (a := ⟨vb, gs0.length * 3, none⟩) (hy.far vb hvbl hvbu)).trans D0
              have q1 := (World.cell?_of_block (a := ⟨vb, gs0.length * 3 + 1, none⟩) (hy.far vb hvbl hvbu)).trans D1
              have q2 := (World.frozen?_of_block (a := ⟨vb, gs0.length * 3, none⟩) (hy.far vb hvbl hvbu)).trans (HFD.out _)
              have q3 := (World.frozen?_of_block (a := ⟨vb, gs0.length * 3 + 1, none⟩) (hy.far vb hvbl hvbu)).trans (HFD.out _)
              have q4 : vb < w5.heap.size := Nat.lt_of_lt_of_le hvbl hy.hz
              go_simp
              exact hK undef _ (hM.put l9 hnl rfl)
            | jq + 13, hq => exact absurd hq (by omega)
          · intro vals w5 hM
            have f0 : vals 0 = .pointer (some ⟨vb, gs0.length * 3, none⟩) := hM.const 0 (by decide) (by rfl) (by decide) (by decide)
            have f1 : vals 1 = .pointer (some ⟨vb, gs0.length * 3, none⟩) := hM.const 1 (by decide) (by rfl) (by decide) (by decide)
            have f2 : vals 2 = .agg #[.int .i64 M0, .int .i64 M1] := hM.const 2 (by decide) (by rfl) (by decide) (by decide)
            have f3 : vals 3 = .pointer (some ⟨vb, gs0.length * 3, none⟩) := hM.const 3 (by decide) (by rfl) (by decide) (by decide)
            have f4 : vals 4 = .pointer (some ⟨vb, gs0.length * 3, none⟩) := hM.const 4 (by decide) (by rfl) (by decide) (by decide)
            have f5 : vals 5 = .pointer (some ⟨vb, gs0.length * 3 + 2, none⟩) := hM.const 5 (by decide) (by rfl) (by decide) (by decide)
            have f6 : vals 6 = .slice A5 gl.ps.length c5 := hM.const 6 (by decide) (by rfl) (by decide) (by decide)
            have f7 : vals 7 = .int .i64 (i : Nat) := hM.const 7 (by decide) (by rfl) (by decide) (by decide)
            have f10 : vals 10 = .pointer (some ⟨vb, gs0.length * 3, none⟩) := hM.const 10 (by decide) (by rfl) (by decide) (by decide)
            have f11 : vals 11 = .pointer (some ⟨vb, gs0.length * 3, none⟩) := hM.const 11 (by decide) (by rfl) (by decide) (by decide)
            have f12 : vals 12 = undef := hM.const 12 (by decide) (by rfl) (by decide) (by decide)
            obtain ⟨y, hy, hx⟩ := hM.pb (by rfl)
            rw [if_pos (by rfl)] at hx
            subst hx
            obtain ⟨A7, c7, f9⟩ := hy.sl
            have hy9 := hy
            rw [f9] at hy9
            have HY := Lib.hid hy9
            generalize vals 8 = v8 at *
            clear hM hy hy9
            simp only [putAll, List.range, List.range.loop, List.foldl_cons, List.foldl_nil, f0, f1, f2, f3, f4, f5, f6, f7, f9, f10, f11, f12]
            clear f0 f1 f2 f3 f4 f5 f6 f7 f9 f10 f11 f12
            change wpAny _ _ _ _ _ _ (Act.put (Act.put (Act.put (Act.put (Act.put (Act.put (Act.put (Act.put (Act.put (Act.put (Act.put (Act.put (Act.put _ (some 36) _) (some 37) _) (some 38) _) (some 39) _) (some 40) _) (some 41) _) (some 42) _) (some 43) _) (some 44) _) (some 45) _) (some 46) _) (some 47) _) none _) _
            simp only [Act.put, List.setIfInBounds_toArray, List.set_cons_zero, List.set_cons_succ]
            have q2 : (setLH y vb (gs0.length * 3) M0 M1).frozen? ⟨vb, gs0.length * 3 + 2, none⟩ = false := (setLH_frozen _).trans ((World.frozen?_of_block (a := ⟨vb, gs0.length * 3 + 2, none⟩) (HY.out.far vb hvbl hvbu)).trans (HFD.out _))
            have q4 : vb < (setLH y vb (gs0.length * 3) M0 M1).heap.size := by rw [setLH_size]; exact Nat.lt_of_lt_of_le hvbl HY.out.hz
            have q5 : (setLH y vb (gs0.length * 3) M0 M1).cell? ⟨vb, gs0.length * 3 + 2, none⟩ = some (.slice A5 gl.ps.length c5) := (((cell_far' (by omega)).trans (cell_far' (by omega))).trans (World.cell?_of_block (a := ⟨vb, gs0.length * 3 + 2, none⟩) (HY.out.far vb hvbl hvbu))).trans D2
            obtain ⟨Z, HZ⟩ : ∃ Z, Hid (setLH y vb (gs0.length * 3) M0 M1 = Z) := ⟨_, Lib.hid rfl⟩
            rw [HZ.out] at q2 q4 q5 ⊢
            refine tail_step 13 _ (by kernel_rfl) rfl rfl (fun K' hK => ?_)
            go_simp
            refine hK _ _ ?_
            clear hK K'
            refine tail_step 14 _ (by kernel_rfl) rfl rfl (fun K' hK => ?_)
            go_simp
            refine hK _ _ ?_
            clear hK K'
            refine tail_step 15 _ (by kernel_rfl) rfl rfl (fun K' hK => ?_)
            go_simp
            refine hK _ _ ?_
            clear hK K'
            refine wpAny_done (by kernel_rfl) ?_ _
            go_wp2_with fail
            (try simp only [Exit.inBlock, Exit.then]); refine bodyPost_ret (results_none rfl _ _ _) rfl ?_
            have f := grow_last (i := i) (lo := M0) (hi := M1) rfl HVT.out hb10 hvb cv10 fv10 HY.out.hz HY.out.os HY.out.tape HY.out.output HY.out.far HY.out.own HY.out.at_
            rw [← HZ.out]
            exact ⟨rfl, by rw [HEQ.out]; exact f.1, (KeepB.of_below (HBL.out.trans (HB10.out.mono HBL.out.size)) hbase).trans f.2⟩
        · have HEQ : Hid (growG (spI e0 e1 ps) (gs0 ++ [gl]) i = (gs0 ++ [gl]) ++ [newG (spI e0 e1 ps) i]) := Lib.hid (by simp only [growG, List.getLast?_concat, meetsG, HM0.out, HM1.out, decide_eq_false hmt]; rfl)
          have hn9 : (gs0 ++ [gl]).length = gs0.length + 1 := by simp
          clear D0 D1 D2 HUL HULB HFD
          obtain ⟨i0', hi0, hz0', hz1', hz2'⟩ := info_parts infoGroup
          have hov := own_lt hrow
          have HOV := Lib.hid hov
          clear hov
          go_wp2_with (at_builtin; refine Go.wpList_append_own_at _ rfl _ _ 177 rfl base 198 i0' (.agg #[.int .i64 0, .int .i64 0, .slice none 0 0]) 3 40 Tryz.underlying177 hi0 hz0' hz1' hz2' rfl (by decide) _ _ _ rfl ((hrow.alloc _).alloc _) ⟨W10.heap.size + 1, 0, none⟩ 1 1 [.int .i64 (spI e0 e1 ps i).1, .int .i64 (spI e0 e1 ps i).2, .slice (some ⟨W10.heap.size, 0, none⟩) 1 1] rfl rfl (grp_cells W10 _ _ _ _ _) (by simp [Value.oneCell']) (by unfold maxLen; omega) (by omega) (by simp; omega) ?_; intro v' w3 hown' hgrow hnil hat; obtain ⟨A2, c2, rfl, hc2, _⟩ := own_slice hown'; have hg3 := grown_two hgrow hvl10 (fun e => by have := (HOV.out _ e).1; omega); have hb3 := (World.cell?_of_block (a := ⟨bo, 0, none⟩) hg3).trans cv10; have hf3 := (World.frozen?_of_block (a := ⟨bo, 0, none⟩) hg3).trans fv10)
          obtain ⟨f1, f2⟩ := grow_new' hn9 HVT.out hb10 hvb hb3 hf3 hown' hgrow hat
          go_end0
          exact ⟨rfl, by rw [HEQ.out]; exact f1, (KeepB.of_below (HBL.out.trans (HB10.out.mono HBL.out.size)) hbase).trans f2⟩
end Go.Proofs.YtcdjoegihmfanaaGreat
