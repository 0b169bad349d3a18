/- MadeAccount: an account out of numbers. Accounts that are right, called about: what Paid, Late, Due, Rests, Owing and CheckAccount answer. -/
import Derived.Test.YtfojjecnmfkcfaaP15
import Derived.Test.YtfojjecnmfkcfaaP19
import Derived.Test.YtfojjecnmfkcfaaP8
import Derived.Test.YtfojjecnmfkcfaaP3
namespace Go.Proofs.Ytfojjecnmfkcfaa
open Go.RowKit
set_option linter.unusedVariables false
theorem rises_app (b : Int) : ∀ (l : List Int) (y : Int), risesB b l = true → (∀ x ∈ l, x + b ≤ y) → risesB b (l ++ [y]) = true
  | [], _, _, _ => rfl
  | [x], y, _, h => by simp [risesB]; exact h x (by simp)
  | x :: z :: l, y, h, h2 => by
    simp only [risesB, Bool.and_eq_true, List.cons_append] at h ⊢
    exact ⟨h.1, rises_app b (z :: l) y h.2 fun a ha => h2 a (List.mem_cons_of_mem _ ha)⟩
/-- What is true of the entries made so far: rising days up to u. -/
structure EM (step q : Int) (t : List (Int × Int)) (u : Int) : Prop where
  all : ∀ x ∈ t, 0 ≤ x.1 ∧ x.1 ≤ u ∧ 1 ≤ x.2 ∧ x.2 ≤ q
  rise : risesB 0 (t.map (·.1)) = true
  u0 : 0 ≤ u
  u1 : u ≤ step * t.length
theorem EM.snoc {step q : Int} {t : List (Int × Int)} {u d x : Int} (h : EM step q t u) (d0 : 0 ≤ d) (d1 : d ≤ step) (x0 : 1 ≤ x) (x1 : x ≤ q) : EM step q (t ++ [(u + d, x)]) (u + d) := by
  have h0 := h.u0
  have h1 := h.u1
  refine ⟨fun y hy => ?_, ?_, by omega, ?_⟩
  · rcases List.mem_append.1 hy with h2 | h2
    · have := h.all y h2; omega
    · simp at h2; subst h2; exact ⟨by show 0 ≤ u + d; omega, Int.le_refl _, x0, x1⟩
  · rw [List.map_append]
    refine rises_app 0 _ _ h.rise fun y hy => ?_
    obtain ⟨z, hz, rfl⟩ := List.mem_map.1 hy
    have := h.all z hz
    show z.1 + 0 ≤ u + d
    omega
  · rw [List.length_append]
    have e : step * ((t.length + [(u + d, x)].length : Nat) : Int) = step * t.length + step := by
      show step * ((t.length + 1 : Nat) : Int) = _
      push_cast; rw [Int.mul_add, Int.mul_one]
    rw [e]; omega
theorem pairs_app1 (t : List (Int × Int)) (x : Int × Int) : pairs (t ++ [x]) = pairs t ++ [.int .i64 x.1, .int .i64 x.2] := by
  unfold pairs; rw [List.flatMap_append]; simp
/-- Where 'MadeAccount' stands: the account lies in block B7, its charges and payments so far are rows of the call's own. -/
structure AS (W wr : World) (g : Nat) (L : Option Addr) (c : Nat) (zs : List Int) (B7 : Nat) (gr la : Int) (cs ps : List (Int × Int)) (v u : Value) : Prop where
  ov : wr.ownsRow (B7 + 1) 80 2 v cs.length (pairs cs)
  ou : wr.ownsRow (B7 + 1) 80 2 u ps.length (pairs ps)
  ap : v.ownBlock = none ∨ v.ownBlock ≠ u.ownBlock
  ch : ChE wr g L c zs
  gr_ : W.grownBy wr (some g)
  gW : g < W.heap.size
  bW : W.heap.size < B7
  lz : B7 < wr.heap.size
  b0 : wr.cell? ⟨B7, 0, none⟩ = some v
  b1 : wr.cell? ⟨B7, 1, none⟩ = some u
  b2 : wr.cell? ⟨B7, 2, none⟩ = some (.int .i64 gr)
  b3 : wr.cell? ⟨B7, 3, none⟩ = some (.int .i64 la)
  bf : ∀ o, wr.frozen? ⟨B7, o, none⟩ = false
  r : ∀ o, o < 4 → ∃ x, wr.cell? ⟨W.heap.size, o, none⟩ = some x
  rf : ∀ o, wr.frozen? ⟨W.heap.size, o, none⟩ = false
section
variable {W wr w1 : World} {g : Nat} {L : Option Addr} {c : Nat} {zs : List Int} {B7 : Nat} {gr la : Int} {cs ps : List (Int × Int)} {v u : Value}
theorem AS.row (h : AS W wr g L c zs B7 gr la cs ps v u) {row : Option Nat} (hg : wr.grownBy w1 row) (hC : ChE w1 g L c zs) (h1 : row ≠ some B7) (h2 : row ≠ some W.heap.size) (h3 : ∀ x, row = some x → x = g ∨ W.heap.size ≤ x) (h4 : v.ownBlock = none ∨ v.ownBlock ≠ row) (h5 : u.ownBlock = none ∨ u.ownBlock ≠ row) : AS W w1 g L c zs B7 gr la cs ps v u := by
  have hz := hg.size
  have k1 := h.lz
  have k2 := h.bW
  have c1 : ∀ o x, wr.cell? ⟨B7, o, none⟩ = some x → w1.cell? ⟨B7, o, none⟩ = some x := fun o x hu => (World.grownBy.cell_far hg ⟨B7, o, none⟩ k1 (Ne.symm h1)).trans hu
  refine ⟨h.ov.kept hg h4, h.ou.kept hg h5, h.ap, hC, ?_, h.gW, h.bW, by omega, c1 _ _ h.b0, c1 _ _ h.b1, c1 _ _ h.b2, c1 _ _ h.b3, fun o => (World.grownBy.frozen_far hg ⟨B7, o, none⟩ k1 (Ne.symm h1)).trans (h.bf o), fun o ho => ?_,
    fun o => (World.grownBy.frozen_far hg ⟨W.heap.size, o, none⟩ (by show W.heap.size < _; omega) (Ne.symm h2)).trans (h.rf o)⟩
  · have hr := h.gr_
    refine ⟨hg.os.trans hr.os, hg.tape.trans hr.tape, hg.output.trans hr.output, Nat.le_trans hr.size hz, fun k hk hn => (hg.block k (Nat.lt_of_lt_of_le hk hr.size) ?_).trans (hr.block k hk hn)⟩
    intro e
    rcases h3 k e.symm with h5 | h5
    · exact hn (by rw [h5])
    · omega
  · obtain ⟨x, hx⟩ := h.r o ho
    exact ⟨x, (World.grownBy.cell_far hg ⟨W.heap.size, o, none⟩ (by show W.heap.size < _; omega) (Ne.symm h2)).trans hx⟩
theorem AS.pull (h : AS W wr g L c zs B7 gr la cs ps v u) (hg : wr.grownBy w1 (some g)) (hC : ChE w1 g L c zs) : AS W w1 g L c zs B7 gr la cs ps v u := by
  have k1 := h.gW
  have k2 := h.bW
  refine h.row hg hC (by intro e; injection e; omega) (by intro e; injection e; omega) (fun x e => .inl (by injection e with e; exact e.symm)) (.inr fun e => ?_) (.inr fun e => ?_)
  · have := (h.ov.lt g e).1; omega
  · have := (h.ou.lt g e).1; omega
theorem own_none (v : Value) : v.ownBlock = none ∨ v.ownBlock ≠ none := by
  cases hv : v.ownBlock with
  | none => exact .inl rfl
  | some x => exact .inr (by intro e; cases e)
theorem AS.alloc (h : AS W wr g L c zs B7 gr la cs ps v u) (o : Obj) : AS W (wr.alloc o) g L c zs B7 gr la cs ps v u :=
  h.row (row := none) (grown_below (grownBy_self wr none) (below_new wr o)) (h.ch.below (below_new wr o)) (by intro e; cases e) (by intro e; cases e) (fun x e => by cases e) (own_none v) (own_none u)
theorem AS.drew (h : AS W wr g L c zs B7 gr la cs ps v u) : AS W wr.drew g L c zs B7 gr la cs ps v u :=
  h.row (row := none) (grown_below (grownBy_self wr none) ((Below.refl _ _).drew)) (h.ch.below ((Below.refl _ _).drew)) (by intro e; cases e) (by intro e; cases e) (fun x e => by cases e) (own_none v) (own_none u)
/-- An append to the charges, and its store. -/
theorem AS.appV (h : AS W wr g L c zs B7 gr la cs ps v u) {b n cp : Nat} {x : Int × Int} (ho : w1.ownsRow (B7 + 1) 80 2 (.slice (some ⟨b, 0, none⟩) n cp) (cs.length + 1) (pairs cs ++ [.int .i64 x.1, .int .i64 x.2])) (hg : wr.grownBy w1 v.ownBlock)
    (hat : v.ownBlock = some b ∨ b = wr.heap.size) : (∃ y, w1.cell? ⟨B7, 0, none⟩ = some y) ∧ w1.frozen? ⟨B7, 0, none⟩ = false ∧ AS W (w1.setCell ⟨B7, 0, none⟩ (.slice (some ⟨b, 0, none⟩) n cp)) g L c zs B7 gr la (cs ++ [x]) ps (.slice (some ⟨b, 0, none⟩) n cp) u := by
  have k1 := h.gW
  have k2 := h.bW
  have k3 := h.lz
  have hz := hg.size
  have hne : ∀ b, b < B7 + 1 → some b ≠ v.ownBlock := fun b hb e => by have := (h.ov.lt b e.symm).1; omega
  have cc : ∀ b o y, b < B7 + 1 → wr.cell? ⟨b, o, none⟩ = some y → w1.cell? ⟨b, o, none⟩ = some y := fun b o y hb hu => (World.grownBy.cell_far hg ⟨b, o, none⟩ (by show b < _; omega) (hne b hb)).trans hu
  have ff : ∀ b o, b < B7 + 1 → wr.frozen? ⟨b, o, none⟩ = false → w1.frozen? ⟨b, o, none⟩ = false := fun b o hb hu => (World.grownBy.frozen_far hg ⟨b, o, none⟩ (by show b < _; omega) (hne b hb)).trans hu
  have hC : ChE w1 g L c zs := h.ch.keep hz fun k hk => hg.block k (by omega) (hne k (by omega))
  have hgr : W.grownBy w1 (some g) := grown_row h.gr_ hg fun x e => by have := (h.ov.lt x e).1; omega
  have hu : w1.ownsRow (B7 + 1) 80 2 u ps.length (pairs ps) := h.ou.kept hg (by
    rcases h.ap with e | e
    · rw [e]; exact own_none u
    · exact .inr (Ne.symm e))
  refine ⟨⟨_, cc _ _ _ (by omega) h.b0⟩, ff _ _ (by omega) (h.bf 0), ?_⟩
  refine ⟨?_, own_far hu (by omega), ?_, hC.keep (by simp [World.setCell]) fun k hk => heap_far (by omega), grown_new hgr (grownBy_setCell w1 B7 0 _) (by omega), h.gW, h.bW, by simp [World.setCell]; omega, World.cell?_setCell_same _ _ _ (cc _ _ _ (by omega) h.b0), ?_, ?_, ?_, ?_, fun o ho => ?_, ?_⟩
  · rw [pairs_app1, List.length_append]; exact own_far ho (by omega)
  · refine .inr fun e => ?_
    have e' : some b = u.ownBlock := e
    rcases hat with e2 | e2
    · rcases h.ap with e3 | e3
      · rw [e3] at e2; cases e2
      · exact e3 (e2.trans e')
    · have := (h.ou.lt b e'.symm).2; omega
  · rw [cell_far' (by omega)]; exact cc _ _ _ (by omega) h.b1
  · rw [cell_far' (by omega)]; exact cc _ _ _ (by omega) h.b2
  · rw [cell_far' (by omega)]; exact cc _ _ _ (by omega) h.b3
  · intro o; simpa using ff _ _ (by omega) (h.bf o)
  · obtain ⟨y, hy⟩ := h.r o ho
    exact ⟨y, by rw [cell_far (by omega)]; exact cc _ _ _ (by omega) hy⟩
  · intro o; simpa using ff _ _ (by omega) (h.rf o)
theorem AS.appU (h : AS W wr g L c zs B7 gr la cs ps v u) {b n cp : Nat} {x : Int × Int} (ho : w1.ownsRow (B7 + 1) 80 2 (.slice (some ⟨b, 0, none⟩) n cp) (ps.length + 1) (pairs ps ++ [.int .i64 x.1, .int .i64 x.2])) (hg : wr.grownBy w1 u.ownBlock)
    (hat : u.ownBlock = some b ∨ b = wr.heap.size) : (∃ y, w1.cell? ⟨B7, 1, none⟩ = some y) ∧ w1.frozen? ⟨B7, 1, none⟩ = false ∧ AS W (w1.setCell ⟨B7, 1, none⟩ (.slice (some ⟨b, 0, none⟩) n cp)) g L c zs B7 gr la cs (ps ++ [x]) v (.slice (some ⟨b, 0, none⟩) n cp) := by
  have k1 := h.gW
  have k2 := h.bW
  have k3 := h.lz
  have hz := hg.size
  have hne : ∀ b, b < B7 + 1 → some b ≠ u.ownBlock := fun b hb e => by have := (h.ou.lt b e.symm).1; omega
  have cc : ∀ b o y, b < B7 + 1 → wr.cell? ⟨b, o, none⟩ = some y → w1.cell? ⟨b, o, none⟩ = some y := fun b o y hb hu => (World.grownBy.cell_far hg ⟨b, o, none⟩ (by show b < _; omega) (hne b hb)).trans hu
  have ff : ∀ b o, b < B7 + 1 → wr.frozen? ⟨b, o, none⟩ = false → w1.frozen? ⟨b, o, none⟩ = false := fun b o hb hu => (World.grownBy.frozen_far hg ⟨b, o, none⟩ (by show b < _; omega) (hne b hb)).trans hu
  have hC : ChE w1 g L c zs := h.ch.keep hz fun k hk => hg.block k (by omega) (hne k (by omega))
  have hgr : W.grownBy w1 (some g) := grown_row h.gr_ hg fun x e => by have := (h.ou.lt x e).1; omega
  have hu : w1.ownsRow (B7 + 1) 80 2 v cs.length (pairs cs) := h.ov.kept hg h.ap
  refine ⟨⟨_, cc _ _ _ (by omega) h.b1⟩, ff _ _ (by omega) (h.bf 1), ?_⟩
  refine ⟨own_far hu (by omega), ?_, ?_, hC.keep (by simp [World.setCell]) fun k hk => heap_far (by omega), grown_new hgr (grownBy_setCell w1 B7 1 _) (by omega), h.gW, h.bW, by simp [World.setCell]; omega, ?_, World.cell?_setCell_same _ _ _ (cc _ _ _ (by omega) h.b1), ?_, ?_, ?_, fun o ho => ?_, ?_⟩
  · rw [pairs_app1, List.length_append]; exact own_far ho (by omega)
  · cases hv : v.ownBlock with
    | none => exact .inl rfl
    | some y =>
      refine .inr fun e => ?_
      have e' : y = b := by injection e
      subst e'
      rcases hat with e2 | e2
      · rcases h.ap with e3 | e3
        · rw [e3] at hv; cases hv
        · exact e3 (hv.trans e2.symm)
      · have := (h.ov.lt y hv).2; omega
  · rw [cell_far' (by omega)]; exact cc _ _ _ (by omega) h.b0
  · rw [cell_far' (by omega)]; exact cc _ _ _ (by omega) h.b2
  · rw [cell_far' (by omega)]; exact cc _ _ _ (by omega) h.b3
  · intro o; simpa using ff _ _ (by omega) (h.bf o)
  · obtain ⟨y, hy⟩ := h.r o ho
    exact ⟨y, by rw [cell_far (by omega)]; exact cc _ _ _ (by omega) hy⟩
  · intro o; simpa using ff _ _ (by omega) (h.rf o)
end
theorem as_start {w w1 : World} {g : Nat} {L : Option Addr} {c : Nat} {zs : List Int} {gr la : Int} {t1 t2 : TypeId} (gl : g < w.heap.size) (hg : (w.alloc (.cells #[.slice none 0 0, .slice none 0 0, .int .i64 0, .int .i64 0] t1)).grownBy w1 (some g)) (hC : ChE w1 g L c zs) :
    AS w (w1.alloc (.cells #[.slice none 0 0, .slice none 0 0, .int .i64 gr, .int .i64 la] t2)) g L c zs w1.heap.size gr la [] [] (.slice none 0 0) (.slice none 0 0) := by
  have hz := hg.size
  simp at hz
  have hb := below_new w1 (.cells #[.slice none 0 0, .slice none 0 0, .int .i64 gr, .int .i64 la] t2)
  have hne : some w.heap.size ≠ some g := by intro e; injection e; omega
  have r0 : ∀ o, o < 4 → ∃ x, w1.cell? ⟨w.heap.size, o, none⟩ = some x := fun o ho => by
    have h1 : ∀ x, [Value.slice none 0 0, .slice none 0 0, .int .i64 0, .int .i64 0][o]? = some x → w1.cell? ⟨w.heap.size, o, none⟩ = some x := fun x hx => by
      have := news_new w [.slice none 0 0, .slice none 0 0, .int .i64 0, .int .i64 0] t1 rfl o x hx
      rw [addr_add, Nat.zero_add] at this
      exact (World.grownBy.cell_far hg ⟨w.heap.size, o, none⟩ (by simp) hne).trans this
    exact ⟨_, h1 _ (List.getElem?_eq_getElem (by simpa using ho))⟩
  have ff : ∀ o, w1.frozen? ⟨w.heap.size, o, none⟩ = false := fun o => (World.grownBy.frozen_far hg ⟨w.heap.size, o, none⟩ (by simp) hne).trans (by simp)
  have hg0 : w.grownBy w1 (some g) := grownBy_trans (only_allocg (grownBy_self _ _) _) hg
  have nw := news_new w1 [.slice none 0 0, .slice none 0 0, .int .i64 gr, .int .i64 la] t2 rfl
  refine ⟨World.ownsRow_nil _ _ _ _, World.ownsRow_nil _ _ _ _, .inl rfl, hC.below hb, only_allocg hg0 _, gl, by omega, by simp, nw 0 _ rfl, nw 1 _ rfl, nw 2 _ rfl, nw 3 _ rfl, fun o => by simp, fun o ho => ?_, fun o => ?_⟩
  · obtain ⟨x, hx⟩ := r0 o ho
    exact ⟨x, hb.at_ (by omega) hx⟩
  · exact (hb.frozen (p := ⟨w.heap.size, o, none⟩) (by show w.heap.size < _; omega)).trans (ff o)
/-- What the operations of 'x.f = append(x.f, Entry{day, c.Between(1, q)})' leave, ahead of the append. -/
def FApp (B7 k : Nat) (v : Value) (d q : Int) (g : Nat) : Nat → Value → World → Prop
  | 0, x, _ => x = .pointer (some ⟨B7, k, none⟩)
  | 1, x, _ => x = v
  | 2, x, _ => x = .int .i64 d
  | 3, x, _ => x = .pointer (some ⟨g, 0, none⟩)
  | 4, x, _ => ∃ y : Int, x = .int .i64 y ∧ 1 ≤ y ∧ y ≤ q
  | 5, x, _ => ∃ y : Int, x = .agg #[.int .i64 d, .int .i64 y] ∧ 1 ≤ y ∧ y ≤ q
  | 6, x, w => ∃ (y : Int) (b : Nat), x = .slice (some ⟨b, 0, none⟩) 1 1 ∧ 1 ≤ y ∧ y ≤ q ∧ g < b ∧ b < w.heap.size ∧ w.cell? ⟨b, 0, none⟩ = some (.int .i64 d) ∧ w.cell? ⟨b, 1, none⟩ = some (.int .i64 y)
  | _, _, _ => True
theorem FApp.keep {B7 k : Nat} {v : Value} {d q : Int} {g : Nat} (i : Nat) (x : Value) (w w' : World) (h : FApp B7 k v d q g i x w) (hg : w.grownBy w' (some g)) : FApp B7 k v d q g i x w' := by
  match i, h with
  | 0, h => exact h
  | 1, h => exact h
  | 2, h => exact h
  | 3, h => exact h
  | 4, h => exact h
  | 5, h => exact h
  | 6, ⟨y, b, e, y0, y1, b0, b1, c0, c1⟩ =>
    exact ⟨y, b, e, y0, y1, b0, Nat.lt_of_lt_of_le b1 hg.size, (World.grownBy.cell_far hg ⟨b, 0, none⟩ b1 (by intro e; injection e with e; have : b = g := e; omega)).trans c0, (World.grownBy.cell_far hg ⟨b, 1, none⟩ b1 (by intro e; injection e with e; have : b = g := e; omega)).trans c1⟩
  | _ + 7, _ => trivial
theorem news2 {w : World} {b : Nat} {x y : Value} (c0 : w.cell? ⟨b, 0, none⟩ = some x) (c1 : w.cell? ⟨b, 1, none⟩ = some y) : ∀ j u, [x, y][j]? = some u → w.cell? ((⟨b, 0, none⟩ : Addr).add j) = some u := by
  intro j u hu
  rw [addr_add, Nat.zero_add]
  match j, hu with
  | 0, hu => injection hu with hu; subst hu; exact c0
  | 1, hu => injection hu with hu; subst hu; exact c1
theorem ChE.set {w : World} {g : Nat} {L : Option Addr} {c : Nat} {zs : List Int} {b o : Nat} {u : Value} (h : ChE w g L c zs) (hb : g < b) : ChE (w.setCell ⟨b, o, none⟩ u) g L c zs :=
  h.keep (by simp [World.setCell]) fun k hk => heap_far (by omega)
def MadeAPost (g : Nat) (L : Option Addr) (c : Nat) (zs : List Int) (nc np : Int) (W : World) (e : Ending) (w' : World) : Prop :=
  ∃ (gr la : Int) (cs ps : List (Int × Int)) (v u : Value) (x y : Int), e = .returned (.agg #[v, u, .int .i64 gr, .int .i64 la]) ∧ (0 ≤ gr ∧ gr ≤ 11) ∧ (0 ≤ la ∧ la ≤ 29) ∧ (cs.length : Int) ≤ nc ∧ (ps.length : Int) ≤ np ∧ EM 14 90 cs x ∧ EM 17 120 ps y ∧
    w'.ownsRow W.heap.size 80 2 v cs.length (pairs cs) ∧ w'.ownsRow W.heap.size 80 2 u ps.length (pairs ps) ∧ ChE w' g L c zs ∧ W.grownBy w' (some g)
set_option maxRecDepth 100000 in
set_option maxHeartbeats 4000000 in
theorem madeAccount_any (g : Nat) (L : Option Addr) (c : Nat) (zs : List Int) (nc np : Int) (w : World) (hC : ChE w g L c zs) (hc : 1 ≤ nc ∧ nc ≤ 6) (hp : 1 ≤ np ∧ np ≤ 6) :
    Calls Try.prog 43 #[.pointer (some ⟨g, 0, none⟩), .int .i64 nc, .int .i64 np] w (MadeAPost g L c zs nc np w) := by
  obtain ⟨nc1, nc2⟩ := hc
  obtain ⟨np1, np2⟩ := hp
  obtain ⟨i0, hi, hz0, hz1, hz2⟩ := info_parts infoEntry
  have gl := hC.lt
  go_enter Try.func43, Try.ntmps43
  go_wp2_with fail
  refine (pullE_any g L c zs _ _ (hC.below (below_new _ _)) (by omega)).mono ?_
  rintro e w1 ⟨gr, rfl, _, hgr, hC1, hg1⟩
  obtain ⟨gr0, gr1⟩ := hgr (by omega)
  clear hgr hC
  go_wp2_with fail
  refine (pullE_any g L c zs _ _ hC1 (by omega)).mono ?_
  rintro e w2 ⟨la, rfl, _, hla, hC2, hg2⟩
  obtain ⟨la0, la1⟩ := hla (by omega)
  have M0 := Lib.hid (as_start (gr := gr) (la := la) (t2 := 76) gl (grownBy_trans hg1 hg2) hC2)
  clear hla hC1 hC2 hg1 hg2
  go_wp2_with fail
  have hB7 : w.heap.size < w2.heap.size := M0.out.bW
  refine (pullE_any g L c zs _ _ M0.out.ch (by omega)).mono ?_
  rintro e w3 ⟨nn, rfl, _, hnn, hC3, hg3⟩
  obtain ⟨nn0, nn1⟩ := hnn (by omega)
  have M1 := Lib.hid (M0.out.pull hg3 hC3)
  clear hnn hC3 hg3 M0
  generalize w2.heap.size = B7 at M1 hB7 ⊢
  go_wp2_with fail
  have E0 : Hid (EM 14 90 [] 0) := ⟨fun x hx => (by cases hx), rfl, by omega, by simp⟩
  go_loopw [8, 18] (fun dv iv wr => ∃ (t : List (Int × Int)) (v : Value) (d : Int), iv = .int .i64 t.length ∧ (t.length : Int) ≤ nn ∧ dv = .int .i64 d ∧ Hid (AS w wr g L c zs B7 gr la t [] v (.slice none 0 0)) ∧ Hid (EM 14 90 t d)) (fun _ i _ => nn.toNat - (intOf i).toNat)
  case atStart => exact ⟨[], _, 0, rfl, by simp; omega, rfl, M1, E0⟩
  case round =>
    clear M1 E0
    obtain ⟨t, v, d, rfl, ht, rfl, HM, HE⟩ := hrel
    have d0 := HE.out.u0
    have d1 := HE.out.u1
    by_cases hlt : (t.length : Int) < nn
    · go_wp2_with fail
      refine (pullE_any g L c zs _ _ HM.out.ch (by omega)).mono ?_
      rintro e w4 ⟨q, rfl, _, hq, hC4, hg4⟩
      obtain ⟨q0, q1⟩ := hq (by omega)
      have HM4 := Lib.hid (HM.out.pull hg4 hC4)
      clear hq hC4 hg4 HM
      go_wp2_with fail
      refine wp_inv 7 (by kernel_rfl) (by kernel_rfl) (by kernel_rfl) (by decide) (FApp B7 0 v (d + q) 90 g) (fun x => AS w x g L c zs B7 gr la t [] v (.slice none 0 0)) (fun x y => x.grownBy y (some g)) FApp.keep HM4.out.drew ?_ ?_
      · intro i o hi' ho listed vals a w2 hdep hM hAt K hK
        have HI := Lib.hid hM.inv
        have gr0 := Lib.hid (grownBy_self w2 (some g))
        obtain ⟨e7, e7'⟩ := hAt.slot 7 (by kernel_rfl) (by rfl)
        obtain ⟨e8, e8'⟩ := hAt.slot 8 (by kernel_rfl) (by rfl)
        obtain ⟨e0, e0'⟩ := hAt.slot 0 (by kernel_rfl) (by rfl)
        match i, hi' with
        | 0, _ =>
          injection ho with ho
          subst ho
          go_simp
          exact hK _ w2 gr0.out HI.out rfl
        | 1, _ =>
          injection ho with ho
          subst ho
          have l0 := hdep ⟨0, .data⟩ (by simp) rfl
          obtain ⟨e5, e5'⟩ := hAt.dep 0 (d := 24) (by omega) l0 (by rfl) (hM.fact 0 (by omega) l0)
          have c0 := HI.out.b0
          have c1 := HI.out.lz
          go_simp
          exact hK _ w2 gr0.out HI.out rfl
        | 2, _ =>
          injection ho with ho
          subst ho
          go_simp
          exact hK _ w2 gr0.out HI.out rfl
        | 3, _ =>
          injection ho with ho
          subst ho
          go_simp
          exact hK _ w2 gr0.out HI.out rfl
        | 4, _ =>
          injection ho with ho
          subst ho
          have l0 := hdep ⟨3, .data⟩ (by simp) rfl
          obtain ⟨e5, e5'⟩ := hAt.dep 3 (d := 27) (by omega) l0 (by rfl) (hM.fact 3 (by omega) l0)
          go_simp
          refine (betweenE_any g L c zs _ _ _ HI.out.ch (by omega) (by omega) (by omega)).mono ?_
          rintro e w6 ⟨x, rfl, x0, x1, hC6, hg6⟩
          exact hK _ w6 hg6 (HI.out.pull hg6 hC6) ⟨x, rfl, x0, x1⟩
        | 5, _ =>
          injection ho with ho
          subst ho
          have l0 := hdep ⟨2, .data⟩ (by simp) rfl
          have l1 := hdep ⟨4, .data⟩ (by simp) rfl
          obtain ⟨y, f4, y0, y1⟩ := hM.fact 4 (by omega) l1
          obtain ⟨e5, e5'⟩ := hAt.dep 2 (d := 26) (by omega) l0 (by rfl) (hM.fact 2 (by omega) l0)
          obtain ⟨e6, e6'⟩ := hAt.dep 4 (d := 28) (by omega) l1 (by rfl) f4
          go_simp
          exact hK _ w2 gr0.out HI.out ⟨y, rfl, y0, y1⟩
        | 6, _ =>
          injection ho with ho
          subst ho
          have l0 := hdep ⟨5, .data⟩ (by simp) rfl
          obtain ⟨y, f5, y0, y1⟩ := hM.fact 5 (by omega) l0
          obtain ⟨e5, e5'⟩ := hAt.dep 5 (d := 29) (by omega) l0 (by rfl) f5
          go_simp
          exact hK _ _ (only_allocg gr0.out _) (HI.out.alloc _) ⟨y, w2.heap.size, rfl, y0, y1, by have := HI.out.bW; have := HI.out.gW; have := HI.out.lz; omega, by simp, news_new w2 [.int .i64 (d + q), .int .i64 y] _ rfl 0 _ rfl, news_new w2 [.int .i64 (d + q), .int .i64 y] _ rfl 1 _ rfl⟩
      · intro vals w2 hM
        have HI := Lib.hid hM.inv
        have f0 := hM.all (by decide) 0 (by omega)
        have f1 := hM.all (by decide) 1 (by omega)
        have f2 := hM.all (by decide) 2 (by omega)
        have f3 := hM.all (by decide) 3 (by omega)
        obtain ⟨y4, f4, _, _⟩ := hM.all (by decide) 4 (by omega)
        obtain ⟨y5, f5, _, _⟩ := hM.all (by decide) 5 (by omega)
        obtain ⟨x, b, f6, x0, x1, hgb, hbl, c0, c1⟩ := hM.all (by decide) 6 (by omega)
        have f0 : vals 0 = .pointer (some ⟨B7, 0, none⟩) := f0
        have f1 : vals 1 = v := f1
        have f2 : vals 2 = .int .i64 (d + q) := f2
        have f3 : vals 3 = .pointer (some ⟨g, 0, none⟩) := f3
        have HN := Lib.hid (news2 c0 c1)
        have HE2 := Lib.hid (HE.out.snoc (d := q) (x := x) (by omega) (by omega) (by omega) (by omega))
        clear hM c0 c1
        simp only [putAll, List.range, List.range.loop, List.foldl_cons, List.foldl_nil, f0, f1, f2, f3, f4, f5, f6]
        clear f0 f1 f2 f3 f4 f5 f6
        generalize hact : Act.put _ _ _ = act
        simp (maxSteps := 20000) [dstOf, Act.put] at hact
        subst hact
        refine tail_step 7 _ (by kernel_rfl) rfl rfl (fun K' hK => ?_)
        refine wp_append_lies w2 _ _ _ rfl (B7 + 1) 80 i0 _ 2 16 Try.underlying74 hi hz0 hz1 hz2 rfl (by decide) _ t.length (pairs t) rfl HI.out.ov ⟨b, 0, none⟩ 1 1 [.int .i64 (d + q), .int .i64 x] rfl rfl HN.out (by simp [Value.oneCell']) (by omega) (by simp only [maxLen]; omega) (by omega) (by have := HI.out.lz; omega) _ rfl ?_
        intro gg cap w8 hown1 hgrow1 hat hlt8
        refine hK _ _ ?_
        clear hK K'
        obtain ⟨⟨my, m1⟩, m2, m3⟩ := HI.out.appV (x := (d + q, x)) hown1 hgrow1 hat
        have HM8 := Lib.hid m3
        clear m3 hown1 hgrow1 hat hlt8 hbl hgb
        refine tail_step 8 _ (by kernel_rfl) rfl rfl (fun K' hK => ?_)
        go_simp
        refine hK _ _ ?_
        clear hK K'
        refine tail_step 9 _ (by kernel_rfl) rfl rfl (fun K' hK => ?_)
        go_simp
        refine hK _ _ ?_
        clear hK K'
        refine wpAny_done (by kernel_rfl) ?_ _
        go_wp2_with fail
        go_roundw
        case rel =>
          refine ⟨t ++ [(d + q, x)], _, d + q, ?_, ?_, rfl, HM8, HE2⟩
          · rw [List.length_append]; go_num
          · rw [List.length_append]; simp; omega
        case measure => simp [intOf]; omega
    · have hlen : (t.length : Int) = nn := by omega
      have HLN : Hid ((t.length : Int) ≤ nc) := by show (t.length : Int) ≤ nc; omega
      clear hlen
      go_wp2_with fail
      refine (pullE_any g L c zs _ _ HM.out.ch (by omega)).mono ?_
      rintro e w4 ⟨mm, rfl, _, hmm, hC4, hg4⟩
      obtain ⟨mm0, mm1⟩ := hmm (by omega)
      have M1 := Lib.hid (HM.out.pull hg4 hC4)
      clear hmm hC4 hg4 HM hlt
      obtain ⟨cs, HCS⟩ : ∃ cs, Hid (cs = t) := ⟨_, rfl⟩
      rw [← HCS.out] at M1 HE HLN
      clear HCS d0 d1 ht
      obtain ⟨dc, HDC⟩ : ∃ x, Hid (x = d) := ⟨_, rfl⟩
      rw [← HDC.out] at HE
      have HEC := HE
      clear HE HDC
      go_wp2_with fail
      have E0 : Hid (EM 17 120 [] 0) := ⟨fun x hx => (by cases hx), rfl, by omega, by simp⟩
      go_loopw [8, 38] (fun dv iv wr => ∃ (t : List (Int × Int)) (u : Value) (d : Int), iv = .int .i64 t.length ∧ (t.length : Int) ≤ mm ∧ dv = .int .i64 d ∧ Hid (AS w wr g L c zs B7 gr la cs t v u) ∧ Hid (EM 17 120 t d)) (fun _ i _ => mm.toNat - (intOf i).toNat)
      case atStart => exact ⟨[], _, 0, rfl, by simp; omega, rfl, M1, E0⟩
      case round =>
        clear M1 E0
        obtain ⟨t, u, d, rfl, ht, rfl, HM, HE⟩ := hrel
        have d0 := HE.out.u0
        have d1 := HE.out.u1
        by_cases hlt : (t.length : Int) < mm
        · go_wp2_with fail
          refine (pullE_any g L c zs _ _ HM.out.ch (by omega)).mono ?_
          rintro e w4 ⟨q, rfl, _, hq, hC4, hg4⟩
          obtain ⟨q0, q1⟩ := hq (by omega)
          have HM4 := Lib.hid (HM.out.pull hg4 hC4)
          clear hq hC4 hg4 HM
          go_wp2_with fail
          refine wp_inv 7 (by kernel_rfl) (by kernel_rfl) (by kernel_rfl) (by decide) (FApp B7 1 u (d + q) 120 g) (fun x => AS w x g L c zs B7 gr la cs t v u) (fun x y => x.grownBy y (some g)) FApp.keep HM4.out.drew ?_ ?_
          · intro i o hi' ho listed vals a w2 hdep hM hAt K hK
            have HI := Lib.hid hM.inv
            have gr0 := Lib.hid (grownBy_self w2 (some g))
            obtain ⟨e7, e7'⟩ := hAt.slot 7 (by kernel_rfl) (by rfl)
            obtain ⟨e8, e8'⟩ := hAt.slot 8 (by kernel_rfl) (by rfl)
            obtain ⟨e0, e0'⟩ := hAt.slot 0 (by kernel_rfl) (by rfl)
            match i, hi' with
            | 0, _ =>
              injection ho with ho
              subst ho
              go_simp
              exact hK _ w2 gr0.out HI.out rfl
            | 1, _ =>
              injection ho with ho
              subst ho
              have l0 := hdep ⟨0, .data⟩ (by simp) rfl
              obtain ⟨e5, e5'⟩ := hAt.dep 0 (d := 44) (by omega) l0 (by rfl) (hM.fact 0 (by omega) l0)
              have c0 := HI.out.b1
              have c1 := HI.out.lz
              go_simp
              exact hK _ w2 gr0.out HI.out rfl
            | 2, _ =>
              injection ho with ho
              subst ho
              go_simp
              exact hK _ w2 gr0.out HI.out rfl
            | 3, _ =>
              injection ho with ho
              subst ho
              go_simp
              exact hK _ w2 gr0.out HI.out rfl
            | 4, _ =>
              injection ho with ho
              subst ho
              have l0 := hdep ⟨3, .data⟩ (by simp) rfl
              obtain ⟨e5, e5'⟩ := hAt.dep 3 (d := 47) (by omega) l0 (by rfl) (hM.fact 3 (by omega) l0)
              go_simp
              refine (betweenE_any g L c zs _ _ _ HI.out.ch (by omega) (by omega) (by omega)).mono ?_
              rintro e w6 ⟨x, rfl, x0, x1, hC6, hg6⟩
              exact hK _ w6 hg6 (HI.out.pull hg6 hC6) ⟨x, rfl, x0, x1⟩
            | 5, _ =>
              injection ho with ho
              subst ho
              have l0 := hdep ⟨2, .data⟩ (by simp) rfl
              have l1 := hdep ⟨4, .data⟩ (by simp) rfl
              obtain ⟨y, f4, y0, y1⟩ := hM.fact 4 (by omega) l1
              obtain ⟨e5, e5'⟩ := hAt.dep 2 (d := 46) (by omega) l0 (by rfl) (hM.fact 2 (by omega) l0)
              obtain ⟨e6, e6'⟩ := hAt.dep 4 (d := 48) (by omega) l1 (by rfl) f4
              go_simp
              exact hK _ w2 gr0.out HI.out ⟨y, rfl, y0, y1⟩
            | 6, _ =>
              injection ho with ho
              subst ho
              have l0 := hdep ⟨5, .data⟩ (by simp) rfl
              obtain ⟨y, f5, y0, y1⟩ := hM.fact 5 (by omega) l0
              obtain ⟨e5, e5'⟩ := hAt.dep 5 (d := 49) (by omega) l0 (by rfl) f5
              go_simp
              exact hK _ _ (only_allocg gr0.out _) (HI.out.alloc _) ⟨y, w2.heap.size, rfl, y0, y1, by have := HI.out.bW; have := HI.out.gW; have := HI.out.lz; omega, by simp, news_new w2 [.int .i64 (d + q), .int .i64 y] _ rfl 0 _ rfl, news_new w2 [.int .i64 (d + q), .int .i64 y] _ rfl 1 _ rfl⟩
          · intro vals w2 hM
            have HI := Lib.hid hM.inv
            have f0 := hM.all (by decide) 0 (by omega)
            have f1 := hM.all (by decide) 1 (by omega)
            have f2 := hM.all (by decide) 2 (by omega)
            have f3 := hM.all (by decide) 3 (by omega)
            obtain ⟨y4, f4, _, _⟩ := hM.all (by decide) 4 (by omega)
            obtain ⟨y5, f5, _, _⟩ := hM.all (by decide) 5 (by omega)
            obtain ⟨x, b, f6, x0, x1, hgb, hbl, c0, c1⟩ := hM.all (by decide) 6 (by omega)
            have f0 : vals 0 = .pointer (some ⟨B7, 1, none⟩) := f0
            have f1 : vals 1 = u := f1
            have f2 : vals 2 = .int .i64 (d + q) := f2
            have f3 : vals 3 = .pointer (some ⟨g, 0, none⟩) := f3
            have HN := Lib.hid (news2 c0 c1)
            have HE2 := Lib.hid (HE.out.snoc (d := q) (x := x) (by omega) (by omega) (by omega) (by omega))
            clear hM c0 c1
            simp only [putAll, List.range, List.range.loop, List.foldl_cons, List.foldl_nil, f0, f1, f2, f3, f4, f5, f6]
            clear f0 f1 f2 f3 f4 f5 f6
            generalize hact : Act.put _ _ _ = act
            simp (maxSteps := 20000) [dstOf, Act.put] at hact
            subst hact
            refine tail_step 7 _ (by kernel_rfl) rfl rfl (fun K' hK => ?_)
            refine wp_append_lies w2 _ _ _ rfl (B7 + 1) 80 i0 _ 2 16 Try.underlying74 hi hz0 hz1 hz2 rfl (by decide) _ t.length (pairs t) rfl HI.out.ou ⟨b, 0, none⟩ 1 1 [.int .i64 (d + q), .int .i64 x] rfl rfl HN.out (by simp [Value.oneCell']) (by omega) (by simp only [maxLen]; omega) (by omega) (by have := HI.out.lz; omega) _ rfl ?_
            intro gg cap w8 hown1 hgrow1 hat hlt8
            refine hK _ _ ?_
            clear hK K'
            obtain ⟨⟨my, m1⟩, m2, m3⟩ := HI.out.appU (x := (d + q, x)) hown1 hgrow1 hat
            have HM8 := Lib.hid m3
            clear m3 hown1 hgrow1 hat hlt8 hbl hgb
            refine tail_step 8 _ (by kernel_rfl) rfl rfl (fun K' hK => ?_)
            go_simp
            refine hK _ _ ?_
            clear hK K'
            refine tail_step 9 _ (by kernel_rfl) rfl rfl (fun K' hK => ?_)
            go_simp
            refine hK _ _ ?_
            clear hK K'
            refine wpAny_done (by kernel_rfl) ?_ _
            go_wp2_with fail
            go_roundw
            case rel =>
              refine ⟨t ++ [(d + q, x)], _, d + q, ?_, ?_, rfl, HM8, HE2⟩
              · rw [List.length_append]; go_num
              · rw [List.length_append]; simp; omega
            case measure => simp [intOf]; omega
        · have hlen : (t.length : Int) ≤ np := by omega
          have HLN2 := Lib.hid hlen
          clear hlen
          obtain ⟨A1, cA1, rfl, _, _⟩ := own_slice HM.out.ov
          obtain ⟨A2, cA2, rfl, _, _⟩ := own_slice HM.out.ou
          have b0 := HM.out.b0
          have b1 := HM.out.b1
          have b2 := HM.out.b2
          have b3 := HM.out.b3
          have lz := HM.out.lz
          have lw := HM.out.bW
          obtain ⟨r0, hr0⟩ := HM.out.r 0 (by omega)
          obtain ⟨r1, hr1⟩ := HM.out.r 1 (by omega)
          obtain ⟨r2, hr2⟩ := HM.out.r 2 (by omega)
          obtain ⟨r3, hr3⟩ := HM.out.r 3 (by omega)
          have f0 := HM.out.rf 0
          have f1 := HM.out.rf 1
          have f2 := HM.out.rf 2
          have f3 := HM.out.rf 3
          have lw' : w.heap.size < wr.heap.size := by omega
          have nBw : ¬ B7 = w.heap.size := by omega
          have nwB : ¬ w.heap.size = B7 := by omega
          go_wp2_with fail
          have hgr := HM.out.gr_
          have hgW := HM.out.gW
          refine bodyPost_ret (v := .agg #[.slice A1 cs.length cA1, .slice A2 t.length cA2, .int .i64 gr, .int .i64 la]) (by simp [results, Try.results43, go_sem, hr0, hr1, hr2, hr3]) rfl ?_
          refine ⟨gr, la, cs, t, _, _, dc, d, rfl, ⟨gr0, by omega⟩, ⟨la0, by omega⟩, HLN.out, HLN2.out, HEC.out, HE.out, ?_, ?_, ?_, ?_⟩
          · exact (own_far (own_far (own_far (own_far HM.out.ov (by omega)) (by omega)) (by omega)) (by omega)).base_ (by omega)
          · exact (own_far (own_far (own_far (own_far HM.out.ou (by omega)) (by omega)) (by omega)) (by omega)).base_ (by omega)
          · exact (((HM.out.ch.set hgW).set hgW).set hgW).set hgW
          · exact grown_new (grown_new (grown_new (grown_new hgr (grownBy_setCell _ _ _ _) (Nat.le_refl _)) (grownBy_setCell _ _ _ _) (Nat.le_refl _)) (grownBy_setCell _ _ _ _) (Nat.le_refl _)) (grownBy_setCell _ _ _ _) (Nat.le_refl _)
end Go.Proofs.Ytfojjecnmfkcfaa
namespace Go.Proofs.Ytfojjecnmfkcfaa
open Go.RowKit
set_option linter.unusedVariables false
/-- An account that is right, and lies somewhere. -/
structure Acc (w : World) (A B : Option Addr) (c d : Nat) (cs ps : List (Int × Int)) (g l : Int) : Prop where
  ea : Ent w A c cs
  eb : Ent w B d ps
  ok : AccOk cs ps g l
theorem Acc.next {w w' : World} {A B : Option Addr} {c d : Nat} {cs ps : List (Int × Int)} {g l : Int} (h : Acc w A B c d cs ps g l) (hb : Below w.heap.size w w') : Acc w' A B c d cs ps g l := ⟨h.ea.next hb, h.eb.next hb, h.ok⟩
theorem all_entries {t : List (Int × Int)} (h : ∀ s ∈ t, 0 ≤ s.1 ∧ s.1 ≤ 400 ∧ 1 ≤ s.2 ∧ s.2 ≤ 10000) : t.any entryOkP = false := List.any_eq_false.2 fun s hs => by
  have := h s hs
  simp [entryOkP, entryOk, inB]; omega
theorem ckAcc_of {cs ps : List (Int × Int)} {g l : Int} (h : AccOk cs ps g l) : ckAcc cs ps g l = 0 := by
  obtain ⟨h1, h2, h3, h4, h5, h6, h7, h8⟩ := h
  have e : accBad cs ps g l = false := by
    unfold accBad
    rw [all_entries h5, all_entries h6, inB_iff.2 h3, inB_iff.2 h4]; rfl
  unfold ckAcc
  rw [if_neg (by omega), e, h7, h8]; rfl
theorem dated_of {cs ps : List (Int × Int)} {g l day : Int} (h : AccOk cs ps g l) (h1 : 0 ≤ day) (h2 : day ≤ 400) : datedCode cs ps g l day = 0 := by
  unfold datedCode; rw [if_pos (ckAcc_of h), if_pos (inB_iff.2 ⟨h1, h2⟩)]
theorem ent_of_own {w : World} {base : Nat} {v : Value} {t : List (Int × Int)} (h : w.ownsRow base 80 2 v t.length (pairs t)) : ∃ A c, v = .slice A t.length c ∧ Ent w A c t := by
  obtain ⟨A, c, rfl, hc, hr⟩ := own_slice h
  refine ⟨A, c, rfl, hr, hc, ?_⟩
  rcases h.2 with ⟨e, _⟩ | ⟨g, cap, cur, e, _⟩
  · injection e with e1 e2 e3; exact .inl ⟨e1, e3⟩
  · injection e with e1 e2 e3; exact .inr ⟨g, 0, e1⟩
section
variable {w : World} {A B : Option Addr} {c d : Nat} {cs ps : List (Int × Int)} {g l : Int}
theorem checkAccG_any (h : Acc w A B c d cs ps g l) : Calls Try.prog 61 #[.agg #[.slice A cs.length c, .slice B ps.length d, .int .i64 g, .int .i64 l]] w fun e w' => e = .returned (.int .i64 0) ∧ Below w.heap.size w w' := by
  have := CheckAccount_any A B c d cs ps g l w h.ea h.eb (by have := h.ok.clen; omega) (by have := h.ok.plen; omega)
  rw [ckAcc_of h.ok] at this
  exact this
theorem paidG_any (h : Acc w A B c d cs ps g l) : Calls Try.prog 49 #[.agg #[.slice A cs.length c, .slice B ps.length d, .int .i64 g, .int .i64 l]] w (RetOwnE 3 1 cs.length (ints (paidL cs ps)) 0 w) := by
  have := Paid_any A B c d cs ps g l w h.ea h.eb (by have := h.ok.clen; omega) (by have := h.ok.plen; omega)
  have e : paidR cs ps g l = paidL cs ps := by unfold paidR; rw [if_pos (ckAcc_of h.ok)]
  have e2 : (paidL cs ps).length = cs.length := paidK_length _ _ _
  rw [ckAcc_of h.ok, e, e2] at this
  exact this
theorem restsG_any (h : Acc w A B c d cs ps g l) {day : Int} (h1 : 0 ≤ day) (h2 : day ≤ 400) : Calls Try.prog 64 #[.agg #[.slice A cs.length c, .slice B ps.length d, .int .i64 g, .int .i64 l], .int .i64 day] w (RetOwnE 3 1 cs.length (ints (restK cs ps day cs.length)) 0 w) := by
  have := Rests_any A B c d cs ps g l day w h.ea h.eb (by have := h.ok.clen; omega) (by have := h.ok.plen; omega)
  have e : restR cs ps g l day = restK cs ps day cs.length := by unfold restR; rw [if_pos (dated_of h.ok h1 h2)]
  rw [dated_of h.ok h1 h2, e, restK_length] at this
  exact this
theorem AccOk.c0 (h : AccOk cs ps g l) : ∀ e ∈ cs, 0 ≤ e.2 := fun e he => by have := h.call e he; omega
theorem AccOk.p0 (h : AccOk cs ps g l) : ∀ e ∈ ps, 0 ≤ e.2 := fun e he => by have := h.pall e he; omega
theorem owingG_any (h : Acc w A B c d cs ps g l) {day : Int} (h1 : 0 ≤ day) (h2 : day ≤ 400) : Calls Try.prog 66 #[.agg #[.slice A cs.length c, .slice B ps.length d, .int .i64 g, .int .i64 l], .int .i64 day] w fun e w' =>
    e = .returned (.tuple #[.int .i64 (max 0 (uptoF cs day - uptoF ps day)), .int .i64 (max 0 (uptoF ps day - uptoF cs day)), .int .i64 0]) ∧ Below w.heap.size w w' := by
  have := Owing_any A B c d cs ps g l day w h.ea h.eb (by have := h.ok.clen; omega) (by have := h.ok.plen; omega)
  have hu := uptoF_nonneg h.ok.p0 day
  have e : owingR cs ps g l day = max 0 (uptoF cs day - uptoF ps day) := by
    unfold owingR; rw [if_pos (dated_of h.ok h1 h2), restSum_eq h.ok.c0 day _ hu _ (Nat.le_refl _), List.take_length]
  have e2 : creditR cs ps g l day = max 0 (uptoF ps day - uptoF cs day) := by
    unfold creditR; rw [if_pos (dated_of h.ok h1 h2), leftK_eq h.ok.c0 day _ hu _ (Nat.le_refl _), List.take_length]
  rw [dated_of h.ok h1 h2, e, e2] at this
  exact this
theorem lateG_any (h : Acc w A B c d cs ps g l) {day : Int} (h1 : 0 ≤ day) (h2 : day ≤ 400) : Calls Try.prog 50 #[.agg #[.slice A cs.length c, .slice B ps.length d, .int .i64 g, .int .i64 l], .int .i64 day] w (RetApp 3 (lateK cs ps g day cs.length) (lateC cs ps g l day cs.length) 0 w) := by
  have := Late_any A B c d cs ps g l day w h.ea h.eb (by have := h.ok.clen; omega) (by have := h.ok.plen; omega)
  have e : lateL cs ps g l day = lateK cs ps g day cs.length := by unfold lateL; rw [if_pos (dated_of h.ok h1 h2)]
  have e2 : lateCost cs ps g l day = lateC cs ps g l day cs.length := by unfold lateCost; rw [if_pos (dated_of h.ok h1 h2)]
  rw [dated_of h.ok h1 h2, e, e2] at this
  exact this
theorem dueG_any (h : Acc w A B c d cs ps g l) {day : Int} (h1 : 0 ≤ day) (h2 : day ≤ 400) : Calls Try.prog 69 #[.agg #[.slice A cs.length c, .slice B ps.length d, .int .i64 g, .int .i64 l], .int .i64 day] w fun e w' =>
    e = .returned (.tuple #[.int .i64 (dueK cs g day (uptoF ps day) cs.length), .int .i64 0]) ∧ Below w.heap.size w w' := by
  have := Due_any A B c d cs ps g l day w h.ea h.eb (by have := h.ok.clen; omega) (by have := h.ok.plen; omega)
  have e : dueR cs ps g l day = dueK cs g day (uptoF ps day) cs.length := by unfold dueR; rw [if_pos (dated_of h.ok h1 h2)]
  rw [dated_of h.ok h1 h2, e] at this
  exact this
end
/-- An account that was made is right. -/
theorem made_acc {cs ps : List (Int × Int)} {g l x y : Int} (hg : 0 ≤ g ∧ g ≤ 11) (hl : 0 ≤ l ∧ l ≤ 29) (h1 : (cs.length : Int) ≤ 6) (h2 : (ps.length : Int) ≤ 6) (hc : EM 14 90 cs x) (hp : EM 17 120 ps y) : AccOk cs ps g l := by
  have a := hc.u1
  have b := hp.u1
  exact ⟨by omega, by omega, by omega, by omega, fun s hs => by have := hc.all s hs; omega, fun s hs => by have := hp.all s hs; omega, hc.rise, hp.rise⟩
end Go.Proofs.Ytfojjecnmfkcfaa
