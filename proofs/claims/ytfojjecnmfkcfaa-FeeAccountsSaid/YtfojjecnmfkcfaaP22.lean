/- Account variables, each in blocks of its own: what one of them becomes leaves the others as they are. What becomes of account variables: an append, a sort, a store in place. The other accounts of FeeEarlier, held against the one that was made. -/
import Derived.Test.YtfojjecnmfkcfaaP21
import Derived.Test.YtfojjecnmfkcfaaP19
namespace Go.Proofs.Ytfojjecnmfkcfaa
open Go.RowKit
set_option linter.unusedVariables false
/-- P hangs on the blocks of T alone. -/
structure Keeps (T : Nat → Prop) (w : World) (P : World → Prop) : Prop where
  lt : ∀ k, T k → k < w.heap.size
  out : ∀ w', w.heap.size ≤ w'.heap.size → (∀ k, T k → w'.heap[k]? = w.heap[k]?) → P w'
section
variable {T : Nat → Prop} {w w' : World} {P : World → Prop}
theorem Keeps.now (h : Keeps T w P) : P w := h.out w (Nat.le_refl _) fun _ _ => rfl
theorem Keeps.step (h : Keeps T w P) (hz : w.heap.size ≤ w'.heap.size) (hk : ∀ k, T k → w'.heap[k]? = w.heap[k]?) : Keeps T w' P :=
  ⟨fun k t => Nat.lt_of_lt_of_le (h.lt k t) hz, fun w2 hz2 hk2 => h.out w2 (Nat.le_trans hz hz2) fun k t => (hk2 k t).trans (hk k t)⟩
theorem Keeps.below (h : Keeps T w P) (hb : Below w.heap.size w w') : Keeps T w' P := h.step hb.size fun k t => hb.block k (h.lt k t)
theorem Keeps.imp (h : Keeps T w P) {Q : World → Prop} (hq : ∀ w, P w → Q w) : Keeps T w Q := ⟨h.lt, fun w2 h1 h2 => hq _ (h.out w2 h1 h2)⟩
end
/-- An account variable in block b, its rows of its own. -/
structure AV (b : Nat) (g l : Int) (cs ps : List (Int × Int)) (v u : Value) (w : World) : Prop where
  lt : b < w.heap.size
  b0 : w.cell? ⟨b, 0, none⟩ = some v
  b1 : w.cell? ⟨b, 1, none⟩ = some u
  b2 : w.cell? ⟨b, 2, none⟩ = some (.int .i64 g)
  b3 : w.cell? ⟨b, 3, none⟩ = some (.int .i64 l)
  bf : ∀ o, w.frozen? ⟨b, o, none⟩ = false
  ov : w.ownsRow 0 80 2 v cs.length (pairs cs)
  ou : w.ownsRow 0 80 2 u ps.length (pairs ps)
  ap : v.ownBlock = none ∨ v.ownBlock ≠ u.ownBlock
  nv : v.ownBlock ≠ some b
  nu : u.ownBlock ≠ some b
def AT (b : Nat) (v u : Value) (k : Nat) : Prop := k = b ∨ v.ownBlock = some k ∨ u.ownBlock = some k
section
variable {b : Nat} {g l : Int} {cs ps : List (Int × Int)} {v u : Value} {w w1 : World}
theorem AV.keeps (h : AV b g l cs ps v u w) : Keeps (AT b v u) w (AV b g l cs ps v u) := by
  refine ⟨fun k t => ?_, fun w' hz hk => ?_⟩
  · rcases t with rfl | t | t
    · exact h.lt
    · exact (h.ov.lt k t).2
    · exact (h.ou.lt k t).2
  · have hb := hk b (.inl rfl)
    have cc : ∀ o x, w.cell? ⟨b, o, none⟩ = some x → w'.cell? ⟨b, o, none⟩ = some x := fun o x hx => (World.cell?_of_block (a := ⟨b, o, none⟩) hb).trans hx
    exact ⟨Nat.lt_of_lt_of_le h.lt hz, cc _ _ h.b0, cc _ _ h.b1, cc _ _ h.b2, cc _ _ h.b3, fun o => (World.frozen?_of_block (a := ⟨b, o, none⟩) hb).trans (h.bf o), own_block h.ov fun k e => hk k (.inr (.inl e)), own_block h.ou fun k e => hk k (.inr (.inr e)), h.ap, h.nv, h.nu⟩
theorem AV.appU (h : AV b g l cs ps v u w) {r n cp : Nat} {x : Int × Int} (ho : w1.ownsRow 0 80 2 (.slice (some ⟨r, 0, none⟩) n cp) (ps.length + 1) (pairs ps ++ [.int .i64 x.1, .int .i64 x.2])) (hg : w.grownBy w1 u.ownBlock) (hat : u.ownBlock = some r ∨ r = w.heap.size) :
    (∃ y, w1.cell? ⟨b, 1, none⟩ = some y) ∧ w1.frozen? ⟨b, 1, none⟩ = false ∧ AV b g l cs (ps ++ [x]) v (.slice (some ⟨r, 0, none⟩) n cp) (w1.setCell ⟨b, 1, none⟩ (.slice (some ⟨r, 0, none⟩) n cp)) := by
  have hz := hg.size
  have hlt := h.lt
  have hne : some b ≠ u.ownBlock := Ne.symm h.nu
  have cc : ∀ o y, w.cell? ⟨b, o, none⟩ = some y → w1.cell? ⟨b, o, none⟩ = some y := fun o y hu => (World.grownBy.cell_far hg ⟨b, o, none⟩ hlt hne).trans hu
  have ff : ∀ o, w1.frozen? ⟨b, o, none⟩ = false := fun o => (World.grownBy.frozen_far hg ⟨b, o, none⟩ hlt hne).trans (h.bf o)
  have hrb : r ≠ b := by
    rcases hat with e | e
    · intro e2; subst e2; exact h.nu e
    · omega
  refine ⟨⟨_, cc _ _ h.b1⟩, ff 1, ?_⟩
  refine ⟨by simpa [World.setCell] using Nat.lt_of_lt_of_le hlt hz, ?_, World.cell?_setCell_same _ _ _ (cc _ _ h.b1), ?_, ?_, fun o => by simpa using ff o, ?_, ?_, ?_, h.nv, fun e => by injection e with e; exact hrb e⟩
  · rw [cell_far' (by omega)]; exact cc _ _ h.b0
  · rw [cell_far' (by omega)]; exact cc _ _ h.b2
  · rw [cell_far' (by omega)]; exact cc _ _ h.b3
  · exact (h.ov.kept hg h.ap).kept (grownBy_setCell _ _ _ _) (.inr fun e => h.nv e)
  · rw [pairs_app1, List.length_append]
    exact ho.kept (grownBy_setCell _ _ _ _) (.inr fun e => by injection e with e; exact hrb e)
  · cases hv : v.ownBlock with
    | none => exact .inl rfl
    | some y =>
      refine .inr fun e => ?_
      have e' : y = r := by injection e
      subst e'
      rcases hat with e2 | e2
      · rcases h.ap with e3 | e3
        · rw [e3] at hv; cases hv
        · exact e3 (hv.trans e2.symm)
      · have := (h.ov.lt y hv).2; omega
theorem AV.appV (h : AV b g l cs ps v u w) {r n cp : Nat} {x : Int × Int} (ho : w1.ownsRow 0 80 2 (.slice (some ⟨r, 0, none⟩) n cp) (cs.length + 1) (pairs cs ++ [.int .i64 x.1, .int .i64 x.2])) (hg : w.grownBy w1 v.ownBlock) (hat : v.ownBlock = some r ∨ r = w.heap.size) :
    (∃ y, w1.cell? ⟨b, 0, none⟩ = some y) ∧ w1.frozen? ⟨b, 0, none⟩ = false ∧ AV b g l (cs ++ [x]) ps (.slice (some ⟨r, 0, none⟩) n cp) u (w1.setCell ⟨b, 0, none⟩ (.slice (some ⟨r, 0, none⟩) n cp)) := by
  have hz := hg.size
  have hlt := h.lt
  have hne : some b ≠ v.ownBlock := Ne.symm h.nv
  have cc : ∀ o y, w.cell? ⟨b, o, none⟩ = some y → w1.cell? ⟨b, o, none⟩ = some y := fun o y hu => (World.grownBy.cell_far hg ⟨b, o, none⟩ hlt hne).trans hu
  have ff : ∀ o, w1.frozen? ⟨b, o, none⟩ = false := fun o => (World.grownBy.frozen_far hg ⟨b, o, none⟩ hlt hne).trans (h.bf o)
  have hrb : r ≠ b := by
    rcases hat with e | e
    · intro e2; subst e2; exact h.nv e
    · omega
  have hap : u.ownBlock = none ∨ u.ownBlock ≠ v.ownBlock := by
    rcases h.ap with e | e
    · rw [e]; exact own_none u
    · exact .inr (Ne.symm e)
  refine ⟨⟨_, cc _ _ h.b0⟩, ff 0, ?_⟩
  refine ⟨by simpa [World.setCell] using Nat.lt_of_lt_of_le hlt hz, World.cell?_setCell_same _ _ _ (cc _ _ h.b0), ?_, ?_, ?_, fun o => by simpa using ff o, ?_, ?_, ?_, fun e => by injection e with e; exact hrb e, h.nu⟩
  · rw [cell_far' (by omega)]; exact cc _ _ h.b1
  · rw [cell_far' (by omega)]; exact cc _ _ h.b2
  · rw [cell_far' (by omega)]; exact cc _ _ h.b3
  · rw [pairs_app1, List.length_append]
    exact ho.kept (grownBy_setCell _ _ _ _) (.inr fun e => by injection e with e; exact hrb e)
  · exact (h.ou.kept hg hap).kept (grownBy_setCell _ _ _ _) (.inr fun e => h.nu e)
  · refine .inr fun e => ?_
    have e' : some r = u.ownBlock := e
    rcases hat with e2 | e2
    · rcases h.ap with e3 | e3
      · rw [e3] at e2; cases e2
      · exact e3 (e2.trans e')
    · have := (h.ou.lt r e'.symm).2; omega
end
/-- Four things in blocks apart, a chute, and a world below that stays. -/
structure Q4 (W0 : World) (T1 T2 T3 T4 : Nat → Prop) (P1 P2 P3 P4 : World → Prop) (g : Nat) (L : Option Addr) (c : Nat) (zs : List Int) (w : World) : Prop where
  k1 : Keeps T1 w P1
  k2 : Keeps T2 w P2
  k3 : Keeps T3 w P3
  k4 : Keeps T4 w P4
  d12 : ∀ k, T1 k → ¬ T2 k
  d13 : ∀ k, T1 k → ¬ T3 k
  d14 : ∀ k, T1 k → ¬ T4 k
  d23 : ∀ k, T2 k → ¬ T3 k
  d24 : ∀ k, T2 k → ¬ T4 k
  d34 : ∀ k, T3 k → ¬ T4 k
  a1 : ∀ k, T1 k → g < k
  a2 : ∀ k, T2 k → g < k
  a3 : ∀ k, T3 k → g < k
  a4 : ∀ k, T4 k → g < k
  ch : ChE w g L c zs
  gW : W0.heap.size ≤ g
  bel : Below W0.heap.size W0 w
section
variable {W0 : World} {T1 T2 T3 T4 : Nat → Prop} {P1 P2 P3 P4 : World → Prop} {g : Nat} {L : Option Addr} {c : Nat} {zs : List Int} {w w' : World}
theorem Q4.rot (h : Q4 W0 T1 T2 T3 T4 P1 P2 P3 P4 g L c zs w) : Q4 W0 T2 T3 T4 T1 P2 P3 P4 P1 g L c zs w :=
  ⟨h.k2, h.k3, h.k4, h.k1, h.d23, h.d24, fun k t2 t1 => h.d12 k t1 t2, h.d34, fun k t3 t1 => h.d13 k t1 t3, fun k t4 t1 => h.d14 k t1 t4, h.a2, h.a3, h.a4, h.a1, h.ch, h.gW, h.bel⟩
theorem Q4.below (h : Q4 W0 T1 T2 T3 T4 P1 P2 P3 P4 g L c zs w) (hb : Below w.heap.size w w') : Q4 W0 T1 T2 T3 T4 P1 P2 P3 P4 g L c zs w' :=
  ⟨h.k1.below hb, h.k2.below hb, h.k3.below hb, h.k4.below hb, h.d12, h.d13, h.d14, h.d23, h.d24, h.d34, h.a1, h.a2, h.a3, h.a4, h.ch.below hb, h.gW, h.bel.trans (hb.mono h.bel.size)⟩
theorem Q4.drew (h : Q4 W0 T1 T2 T3 T4 P1 P2 P3 P4 g L c zs w) : Q4 W0 T1 T2 T3 T4 P1 P2 P3 P4 g L c zs w.drew := h.below ((Below.refl _ _).drew)
theorem Q4.alloc (h : Q4 W0 T1 T2 T3 T4 P1 P2 P3 P4 g L c zs w) (o : Obj) : Q4 W0 T1 T2 T3 T4 P1 P2 P3 P4 g L c zs (w.alloc o) := h.below (below_new w o)
theorem Q4.pull (h : Q4 W0 T1 T2 T3 T4 P1 P2 P3 P4 g L c zs w) (hg : w.grownBy w' (some g)) (hC : ChE w' g L c zs) : Q4 W0 T1 T2 T3 T4 P1 P2 P3 P4 g L c zs w' := by
  have key : ∀ {T : Nat → Prop} {P : World → Prop}, Keeps T w P → (∀ k, T k → g < k) → Keeps T w' P := fun hk ha => hk.step hg.size fun k t => hg.block k (hk.lt k t) (by intro e; injection e with e; have := ha k t; omega)
  exact ⟨key h.k1 h.a1, key h.k2 h.a2, key h.k3 h.a3, key h.k4 h.a4, h.d12, h.d13, h.d14, h.d23, h.d24, h.d34, h.a1, h.a2, h.a3, h.a4, hC, h.gW, h.bel.grown hg h.bel.size (fun k e => by injection e with e; have := h.gW; omega)⟩
/-- The first thing becomes another one. -/
theorem Q4.mod {T1' : Nat → Prop} {P1' : World → Prop} (h : Q4 W0 T1 T2 T3 T4 P1 P2 P3 P4 g L c zs w) (hz : w.heap.size ≤ w'.heap.size) (hk : ∀ k, k < w.heap.size → ¬ T1 k → w'.heap[k]? = w.heap[k]?) (hb : Below W0.heap.size W0 w') (K : Keeps T1' w' P1') (hT : ∀ k, T1' k → T1 k ∨ w.heap.size ≤ k) :
    Q4 W0 T1' T2 T3 T4 P1' P2 P3 P4 g L c zs w' := by
  have hgl := h.ch.lt
  have key : ∀ {T : Nat → Prop} {P : World → Prop}, Keeps T w P → (∀ k, T1 k → ¬ T k) → Keeps T w' P := fun hkp hd => hkp.step hz fun k t => hk k (hkp.lt k t) fun t1 => hd k t1 t
  have dd : ∀ {T : Nat → Prop} {P : World → Prop}, Keeps T w P → (∀ k, T1 k → ¬ T k) → ∀ k, T1' k → ¬ T k := fun hkp hd k t' t => by
    rcases hT k t' with h1 | h1
    · exact hd k h1 t
    · have := hkp.lt k t; omega
  exact ⟨K, key h.k2 h.d12, key h.k3 h.d13, key h.k4 h.d14, dd h.k2 h.d12, dd h.k3 h.d13, dd h.k4 h.d14, h.d23, h.d24, h.d34, fun k t => by rcases hT k t with h1 | h1; exact h.a1 k h1; omega, h.a2, h.a3, h.a4,
    h.ch.keep hz fun k hkg => hk k (by omega) fun t => by have := h.a1 k t; omega, h.gW, hb⟩
end
/-- A block for an account, and rows for it. -/
structure AP (b : Nat) (cs ps : List (Int × Int)) (v u : Value) (w : World) : Prop where
  lt : b < w.heap.size
  ex : ∀ o, o < 4 → ∃ x, w.cell? ⟨b, o, none⟩ = some x
  bf : ∀ o, w.frozen? ⟨b, o, none⟩ = false
  ov : w.ownsRow 0 80 2 v cs.length (pairs cs)
  ou : w.ownsRow 0 80 2 u ps.length (pairs ps)
  ap : v.ownBlock = none ∨ v.ownBlock ≠ u.ownBlock
  nv : v.ownBlock ≠ some b
  nu : u.ownBlock ≠ some b
section
variable {b : Nat} {g l : Int} {cs ps : List (Int × Int)} {v u : Value} {w w1 : World}
theorem AP.keeps (h : AP b cs ps v u w) : Keeps (AT b v u) w (AP b cs ps v u) := by
  refine ⟨fun k t => ?_, fun w' hz hk => ?_⟩
  · rcases t with rfl | t | t
    · exact h.lt
    · exact (h.ov.lt k t).2
    · exact (h.ou.lt k t).2
  · have hb := hk b (.inl rfl)
    exact ⟨Nat.lt_of_lt_of_le h.lt hz, fun o ho => by obtain ⟨x, hx⟩ := h.ex o ho; exact ⟨x, (World.cell?_of_block (a := ⟨b, o, none⟩) hb).trans hx⟩, fun o => (World.frozen?_of_block (a := ⟨b, o, none⟩) hb).trans (h.bf o), own_block h.ov fun k e => hk k (.inr (.inl e)), own_block h.ou fun k e => hk k (.inr (.inr e)), h.ap, h.nv, h.nu⟩
/-- The account is stored. -/
def put4 (w : World) (b : Nat) (v u : Value) (g l : Int) : World := (((w.setCell ⟨b, 0, none⟩ v).setCell ⟨b, 1, none⟩ u).setCell ⟨b, 2, none⟩ (.int .i64 g)).setCell ⟨b, 3, none⟩ (.int .i64 l)
theorem put4_heap (w : World) (b : Nat) (v u : Value) (g l : Int) : (put4 w b v u g l).heap.size = w.heap.size ∧ ∀ k, k ≠ b → (put4 w b v u g l).heap[k]? = w.heap[k]? := by
  unfold put4
  refine ⟨by simp [World.setCell], fun k hk => ?_⟩
  rw [heap_far hk, heap_far hk, heap_far hk, heap_far hk]
theorem AP.store (h : AP b cs ps v u w) : AV b g l cs ps v u (put4 w b v u g l) := by
  obtain ⟨x0, h0⟩ := h.ex 0 (by omega)
  obtain ⟨x1, h1⟩ := h.ex 1 (by omega)
  obtain ⟨x2, h2⟩ := h.ex 2 (by omega)
  obtain ⟨x3, h3⟩ := h.ex 3 (by omega)
  obtain ⟨hz, hk⟩ := put4_heap w b v u g l
  have hlt := h.lt
  have k0 : (put4 w b v u g l).cell? ⟨b, 0, none⟩ = some v := by
    unfold put4
    rw [cell_far' (by omega), cell_far' (by omega), cell_far' (by omega)]; exact World.cell?_setCell_same _ _ _ h0
  have k1 : (put4 w b v u g l).cell? ⟨b, 1, none⟩ = some u := by
    unfold put4
    rw [cell_far' (by omega), cell_far' (by omega)]; exact World.cell?_setCell_same _ _ _ ((cell_far' (by omega)).trans h1)
  have k2 : (put4 w b v u g l).cell? ⟨b, 2, none⟩ = some (.int .i64 g) := by
    unfold put4
    rw [cell_far' (by omega)]; exact World.cell?_setCell_same _ _ _ ((cell_far' (by omega)).trans ((cell_far' (by omega)).trans h2))
  have k3 : (put4 w b v u g l).cell? ⟨b, 3, none⟩ = some (.int .i64 l) := by
    unfold put4
    exact World.cell?_setCell_same _ _ _ ((cell_far' (by omega)).trans ((cell_far' (by omega)).trans ((cell_far' (by omega)).trans h3)))
  refine ⟨by omega, k0, k1, k2, k3, fun o => by unfold put4; simpa using h.bf o, ?_, ?_, h.ap, h.nv, h.nu⟩
  · exact own_block h.ov fun k e => hk k fun e2 => by subst e2; exact h.nv e
  · exact own_block h.ou fun k e => hk k fun e2 => by subst e2; exact h.nu e
end
theorem Q4.store {W0 : World} {T2 T3 T4 : Nat → Prop} {P2 P3 P4 : World → Prop} {gc : Nat} {L : Option Addr} {c : Nat} {zs : List Int} {w : World} {b : Nat} {g l : Int} {cs ps : List (Int × Int)} {v u : Value} (h : Q4 W0 (AT b v u) T2 T3 T4 (AP b cs ps v u) P2 P3 P4 gc L c zs w) :
    Q4 W0 (AT b v u) T2 T3 T4 (AV b g l cs ps v u) P2 P3 P4 gc L c zs (put4 w b v u g l) := by
  obtain ⟨hz, hk⟩ := put4_heap w b v u g l
  have hbW : W0.heap.size ≤ b := by have := h.a1 b (.inl rfl); have := h.gW; omega
  refine h.mod (by omega) (fun k _ t => hk k fun e => t (.inl e)) ?_ (AP.store h.k1.now).keeps fun k t => .inl t
  unfold put4
  exact (((h.bel.setCell hbW _).setCell hbW _).setCell hbW _).setCell hbW _
/-- An account of its own in the blocks from lo to hi. -/
def FOwn (g l : Int) (cs ps : List (Int × Int)) (x : Value) (lo hi : Nat) (w : World) : Prop := ∃ v u, x = .agg #[v, u, .int .i64 g, .int .i64 l] ∧ FRow cs v lo hi w ∧ FRow ps u lo hi w ∧ (v.ownBlock = none ∨ v.ownBlock ≠ u.ownBlock)
theorem FOwn.keep {g l : Int} {cs ps : List (Int × Int)} {x : Value} {lo hi : Nat} {w w' : World} (H : FOwn g l cs ps x lo hi w) (hk : ∀ b, lo ≤ b → b < hi → w'.heap[b]? = w.heap[b]?) : FOwn g l cs ps x lo hi w' := by
  obtain ⟨v, u, e, h1, h2, h3⟩ := H
  exact ⟨v, u, e, h1.keep hk, h2.keep hk, h3⟩
def accZ : Array Value := #[.slice none 0 0, .slice none 0 0, .int .i64 0, .int .i64 0]
def FFour (X : Value) (g l : Int) (cs ps : List (Int × Int)) (i : Nat) (v : Value) (lo hi : Nat) (w : World) : Prop :=
  if i < 8 then (if i % 2 = 0 then v = X else FOwn g l cs ps v lo hi w) else FNew accZ 76 v lo hi w
theorem FFour.keep {X : Value} {g l : Int} {cs ps : List (Int × Int)} (i : Nat) (v : Value) (lo hi : Nat) (w w' : World) (H : FFour X g l cs ps i v lo hi w) (hk : ∀ b, lo ≤ b → b < hi → w'.heap[b]? = w.heap[b]?) : FFour X g l cs ps i v lo hi w' := by
  unfold FFour at H ⊢
  split at H
  · rename_i h1
    rw [if_pos h1]
    split at H
    · rename_i h2; rw [if_pos h2]; exact H
    · rename_i h2; rw [if_neg h2]; exact H.keep hk
  · rename_i h1; rw [if_neg h1]; exact FNew.keep H hk
theorem dis_of {T1 T2 : Nat → Prop} {a b c d a' b' c' d' : Nat} (t1 : ∀ k, T1 k → (a ≤ k ∧ k < b) ∨ (c ≤ k ∧ k < d)) (t2 : ∀ k, T2 k → (a' ≤ k ∧ k < b') ∨ (c' ≤ k ∧ k < d')) (h1 : b ≤ a' ∨ b' ≤ a) (h2 : b ≤ c' ∨ d' ≤ a) (h3 : d ≤ a' ∨ b' ≤ c) (h4 : d ≤ c' ∨ d' ≤ c) : ∀ k, T1 k → ¬ T2 k := by
  intro k x1 x2
  have y1 := t1 k x1
  have y2 := t2 k x2
  omega
/-- One of four: the account that a call made, and the block for it. -/
theorem ap_of {g l : Int} {cs ps : List (Int × Int)} {x y : Value} {lo hi lo' hi' : Nat} {w : World} (h1 : FOwn g l cs ps x lo hi w) (h2 : FNew accZ 76 y lo' hi' w) (hd : hi ≤ lo' ∨ hi' ≤ lo) (hz : hi' ≤ w.heap.size) :
    ∃ v u, x = .agg #[v, u, .int .i64 g, .int .i64 l] ∧ y = .pointer (some ⟨lo', 0, none⟩) ∧ AP lo' cs ps v u w ∧ ∀ k, AT lo' v u k → (lo ≤ k ∧ k < hi) ∨ (lo' ≤ k ∧ k < hi') := by
  obtain ⟨v, u, e, ⟨o1, r1⟩, ⟨o2, r2⟩, hap⟩ := h1
  obtain ⟨cc, ff⟩ := h2.cells
  obtain ⟨e2, e3, _⟩ := h2
  refine ⟨v, u, e, e2, ⟨by omega, fun o ho => ?_, ff, o1.base_ (Nat.zero_le _), o2.base_ (Nat.zero_le _), hap, fun e4 => by have := r1 _ e4; omega, fun e4 => by have := r2 _ e4; omega⟩, fun k t => ?_⟩
  · have : o < accZ.size := ho
    exact ⟨_, cc o _ (Array.getElem?_eq_getElem this)⟩
  · rcases t with rfl | t | t
    · exact .inr ⟨Nat.le_refl _, by omega⟩
    · exact .inl (r1 k t)
    · exact .inl (r2 k t)
end Go.Proofs.Ytfojjecnmfkcfaa
namespace Go.Proofs.Ytfojjecnmfkcfaa
open Go.RowKit
set_option linter.unusedVariables false
/-- A slice whose entries lie in a row that may be written. -/
structure RowE (w : World) (v : Value) (t : List (Int × Int)) : Prop where
  form : ∃ c, t.length ≤ c ∧ ((v = .slice none 0 0 ∧ t = [] ∧ c = 0) ∨ ∃ r, v = .slice (some ⟨r, 0, none⟩) t.length c ∧ Erow w r t)
theorem rowE_of_own {w : World} {base : Nat} {v : Value} {t : List (Int × Int)} (h : w.ownsRow base 80 2 v t.length (pairs t)) : RowE w v t := by
  have h0 := h
  rcases h.2 with ⟨rfl, h1⟩ | ⟨r, cap, cur, rfl, hb, hg, hn, _⟩
  · have : t = [] := List.eq_nil_of_length_eq_zero h1
    subst this
    exact ⟨0, Nat.le_refl _, .inl ⟨rfl, rfl, rfl⟩⟩
  · exact ⟨cap, hn, .inr ⟨r, rfl, erow_of_own h0⟩⟩
theorem RowE.ent {w : World} {v : Value} {t : List (Int × Int)} (h : RowE w v t) : ∃ A c, v = .slice A t.length c ∧ Ent w A c t := by
  obtain ⟨c, hc, ⟨rfl, rfl, rfl⟩ | ⟨r, rfl, he⟩⟩ := h.form
  · exact ⟨none, 0, rfl, Rd.nil, Nat.le_refl _, .inl ⟨rfl, rfl⟩⟩
  · exact ⟨some ⟨r, 0, none⟩, c, rfl, he.rd, hc, .inr ⟨r, 0, rfl⟩⟩
theorem Erow.keep {w w' : World} {r : Nat} {t : List (Int × Int)} (h : Erow w r t) (hz : w.heap.size ≤ w'.heap.size) (hk : w'.heap[r]? = w.heap[r]?) : Erow w' r t :=
  ⟨Nat.lt_of_lt_of_le h.lt hz, fun j hj => ⟨(World.cell?_of_block (a := ⟨r, j * 2, none⟩) hk).trans (h.cells j hj).1, (World.cell?_of_block (a := ⟨r, j * 2 + 1, none⟩) hk).trans (h.cells j hj).2⟩, fun o => (World.frozen?_of_block (a := ⟨r, o, none⟩) hk).trans (h.free o)⟩
theorem RowE.keep {w w' : World} {v : Value} {t : List (Int × Int)} (h : RowE w v t) (hz : w.heap.size ≤ w'.heap.size) (hk : ∀ k, v.ownBlock = some k → w'.heap[k]? = w.heap[k]?) : RowE w' v t := by
  obtain ⟨c, hc, h1 | ⟨r, rfl, he⟩⟩ := h.form
  · exact ⟨c, hc, .inl h1⟩
  · exact ⟨c, hc, .inr ⟨r, rfl, he.keep hz (hk r rfl)⟩⟩
theorem RowE.lt {w : World} {v : Value} {t : List (Int × Int)} (h : RowE w v t) {k : Nat} (hk : v.ownBlock = some k) : k < w.heap.size := by
  obtain ⟨c, hc, ⟨rfl, _⟩ | ⟨r, rfl, he⟩⟩ := h.form
  · cases hk
  · have : r = k := by injection hk
    subst this; exact he.lt
/-- An account variable, its rows to be written in place. -/
structure AX (b : Nat) (g l : Int) (cs ps : List (Int × Int)) (v u : Value) (w : World) : Prop where
  lt : b < w.heap.size
  b0 : w.cell? ⟨b, 0, none⟩ = some v
  b1 : w.cell? ⟨b, 1, none⟩ = some u
  b2 : w.cell? ⟨b, 2, none⟩ = some (.int .i64 g)
  b3 : w.cell? ⟨b, 3, none⟩ = some (.int .i64 l)
  rv : RowE w v cs
  ru : RowE w u ps
  ap : v.ownBlock = none ∨ v.ownBlock ≠ u.ownBlock
  nv : v.ownBlock ≠ some b
  nu : u.ownBlock ≠ some b
section
variable {b : Nat} {g l : Int} {cs ps : List (Int × Int)} {v u : Value} {w w1 : World}
theorem AV.ax (h : AV b g l cs ps v u w) : AX b g l cs ps v u w := ⟨h.lt, h.b0, h.b1, h.b2, h.b3, rowE_of_own h.ov, rowE_of_own h.ou, h.ap, h.nv, h.nu⟩
theorem AX.keeps (h : AX b g l cs ps v u w) : Keeps (AT b v u) w (AX b g l cs ps v u) := by
  refine ⟨fun k t => ?_, fun w' hz hk => ?_⟩
  · rcases t with rfl | t | t
    · exact h.lt
    · exact h.rv.lt t
    · exact h.ru.lt t
  · have hb := hk b (.inl rfl)
    have cc : ∀ o x, w.cell? ⟨b, o, none⟩ = some x → w'.cell? ⟨b, o, none⟩ = some x := fun o x hx => (World.cell?_of_block (a := ⟨b, o, none⟩) hb).trans hx
    exact ⟨Nat.lt_of_lt_of_le h.lt hz, cc _ _ h.b0, cc _ _ h.b1, cc _ _ h.b2, cc _ _ h.b3, h.rv.keep hz fun k e => hk k (.inr (.inl e)), h.ru.keep hz fun k e => hk k (.inr (.inr e)), h.ap, h.nv, h.nu⟩
/-- The payments are written in place. -/
theorem AX.setU (h : AX b g l cs ps v u w) {r : Nat} {ps' : List (Int × Int)} (hu : u.ownBlock = some r) (hl : ps'.length = ps.length) (hz : w.heap.size ≤ w1.heap.size) (hk : ∀ k, k < w.heap.size → k ≠ r → w1.heap[k]? = w.heap[k]?) (he : Erow w1 r ps') : AX b g l cs ps' v u w1 := by
  have hbr : b ≠ r := fun e => by subst e; exact h.nu hu
  have hb := hk b h.lt hbr
  have cc : ∀ o x, w.cell? ⟨b, o, none⟩ = some x → w1.cell? ⟨b, o, none⟩ = some x := fun o x hx => (World.cell?_of_block (a := ⟨b, o, none⟩) hb).trans hx
  refine ⟨Nat.lt_of_lt_of_le h.lt hz, cc _ _ h.b0, cc _ _ h.b1, cc _ _ h.b2, cc _ _ h.b3, h.rv.keep hz fun k e => hk k (h.rv.lt e) fun e2 => ?_, ?_, h.ap, h.nv, h.nu⟩
  · subst e2
    rcases h.ap with e3 | e3
    · rw [e3] at e; cases e
    · exact e3 (e.trans hu.symm)
  · obtain ⟨c, hc, ⟨rfl, _⟩ | ⟨r', rfl, _⟩⟩ := h.ru.form
    · cases hu
    · have : r' = r := by injection hu
      subst this
      exact ⟨c, by omega, .inr ⟨r', by rw [hl], he⟩⟩
theorem AX.setV (h : AX b g l cs ps v u w) {r : Nat} {cs' : List (Int × Int)} (hv : v.ownBlock = some r) (hl : cs'.length = cs.length) (hz : w.heap.size ≤ w1.heap.size) (hk : ∀ k, k < w.heap.size → k ≠ r → w1.heap[k]? = w.heap[k]?) (he : Erow w1 r cs') : AX b g l cs' ps v u w1 := by
  have hbr : b ≠ r := fun e => by subst e; exact h.nv hv
  have hb := hk b h.lt hbr
  have cc : ∀ o x, w.cell? ⟨b, o, none⟩ = some x → w1.cell? ⟨b, o, none⟩ = some x := fun o x hx => (World.cell?_of_block (a := ⟨b, o, none⟩) hb).trans hx
  refine ⟨Nat.lt_of_lt_of_le h.lt hz, cc _ _ h.b0, cc _ _ h.b1, cc _ _ h.b2, cc _ _ h.b3, ?_, h.ru.keep hz fun k e => hk k (h.ru.lt e) fun e2 => ?_, h.ap, h.nv, h.nu⟩
  · obtain ⟨c, hc, ⟨rfl, _⟩ | ⟨r', rfl, _⟩⟩ := h.rv.form
    · cases hv
    · have : r' = r := by injection hv
      subst this
      exact ⟨c, by omega, .inr ⟨r', by rw [hl], he⟩⟩
  · subst e2
    rcases h.ap with e3 | e3
    · rw [e3] at hv; cases hv
    · exact e3 (hv.trans e.symm)
end
/-- One day of a row is stored. -/
theorem Erow.day {w : World} {r : Nat} {t : List (Int × Int)} (h : Erow w r t) {j : Nat} (hj : j < t.length) (y : Int) : Erow (w.setCell ⟨r, j * 2, none⟩ (.int .i64 y)) r (t.set j (y, t[j].2)) := by
  obtain ⟨a1, a2⟩ := h.cells j hj
  refine ⟨by simpa [World.setCell] using h.lt, fun i hi => ?_, fun o => by rw [World.frozen?_setCell]; exact h.free o⟩
  rw [List.length_set] at hi
  by_cases e : j = i
  · subst e
    rw [List.getElem_set_self]
    exact ⟨World.cell?_setCell_same' _ _ _ (by rw [a1]; rfl), by rw [World.cell?_setCell_other _ _ _ _ (by intro e; injection e; omega)]; exact a2⟩
  · rw [List.getElem_set_ne e]
    obtain ⟨b1, b2⟩ := h.cells i hi
    exact ⟨by rw [World.cell?_setCell_other _ _ _ _ (by intro e'; injection e'; omega)]; exact b1, by rw [World.cell?_setCell_other _ _ _ _ (by intro e'; injection e'; omega)]; exact b2⟩
section
variable {W0 : World} {T2 T3 T4 : Nat → Prop} {P2 P3 P4 : World → Prop} {gc : Nat} {L : Option Addr} {c : Nat} {zs : List Int} {w w1 : World} {b : Nat} {g l : Int} {cs ps : List (Int × Int)} {v u : Value}
theorem Q4.appU (h : Q4 W0 (AT b v u) T2 T3 T4 (AV b g l cs ps v u) P2 P3 P4 gc L c zs w) {r n cp : Nat} {x : Int × Int} (ho : w1.ownsRow 0 80 2 (.slice (some ⟨r, 0, none⟩) n cp) (ps.length + 1) (pairs ps ++ [.int .i64 x.1, .int .i64 x.2])) (hg : w.grownBy w1 u.ownBlock) (hat : u.ownBlock = some r ∨ r = w.heap.size) :
    (∃ y, w1.cell? ⟨b, 1, none⟩ = some y) ∧ w1.frozen? ⟨b, 1, none⟩ = false ∧ Q4 W0 (AT b v (.slice (some ⟨r, 0, none⟩) n cp)) T2 T3 T4 (AV b g l cs (ps ++ [x]) v (.slice (some ⟨r, 0, none⟩) n cp)) P2 P3 P4 gc L c zs (w1.setCell ⟨b, 1, none⟩ (.slice (some ⟨r, 0, none⟩) n cp)) := by
  obtain ⟨h1, h2, h3⟩ := h.k1.now.appU ho hg hat
  have hbW : W0.heap.size ≤ b := by have := h.a1 b (.inl rfl); have := h.gW; omega
  refine ⟨h1, h2, h.mod (by simpa [World.setCell] using hg.size) (fun k hk t => ?_) ((h.bel.grown hg h.bel.size fun k e => ?_).setCell hbW _) h3.keeps fun k t => ?_⟩
  · rw [heap_far fun e => t (.inl e)]
    exact hg.block k hk fun e => t (.inr (.inr e.symm))
  · have := h.a1 k (.inr (.inr e)); have := h.gW; omega
  · rcases t with t | t | t
    · exact .inl (.inl t)
    · exact .inl (.inr (.inl t))
    · have e : r = k := by injection t
      subst e
      rcases hat with e2 | e2
      · exact .inl (.inr (.inr e2))
      · exact .inr (by omega)
theorem Q4.appV (h : Q4 W0 (AT b v u) T2 T3 T4 (AV b g l cs ps v u) P2 P3 P4 gc L c zs w) {r n cp : Nat} {x : Int × Int} (ho : w1.ownsRow 0 80 2 (.slice (some ⟨r, 0, none⟩) n cp) (cs.length + 1) (pairs cs ++ [.int .i64 x.1, .int .i64 x.2])) (hg : w.grownBy w1 v.ownBlock) (hat : v.ownBlock = some r ∨ r = w.heap.size) :
    (∃ y, w1.cell? ⟨b, 0, none⟩ = some y) ∧ w1.frozen? ⟨b, 0, none⟩ = false ∧ Q4 W0 (AT b (.slice (some ⟨r, 0, none⟩) n cp) u) T2 T3 T4 (AV b g l (cs ++ [x]) ps (.slice (some ⟨r, 0, none⟩) n cp) u) P2 P3 P4 gc L c zs (w1.setCell ⟨b, 0, none⟩ (.slice (some ⟨r, 0, none⟩) n cp)) := by
  obtain ⟨h1, h2, h3⟩ := h.k1.now.appV ho hg hat
  have hbW : W0.heap.size ≤ b := by have := h.a1 b (.inl rfl); have := h.gW; omega
  refine ⟨h1, h2, h.mod (by simpa [World.setCell] using hg.size) (fun k hk t => ?_) ((h.bel.grown hg h.bel.size fun k e => ?_).setCell hbW _) h3.keeps fun k t => ?_⟩
  · rw [heap_far fun e => t (.inl e)]
    exact hg.block k hk fun e => t (.inr (.inl e.symm))
  · have := h.a1 k (.inr (.inl e)); have := h.gW; omega
  · rcases t with t | t | t
    · exact .inl (.inl t)
    · have e : r = k := by injection t
      subst e
      rcases hat with e2 | e2
      · exact .inl (.inr (.inl e2))
      · exact .inr (by omega)
    · exact .inl (.inr (.inr t))
theorem Q4.ax (h : Q4 W0 (AT b v u) T2 T3 T4 (AV b g l cs ps v u) P2 P3 P4 gc L c zs w) : Q4 W0 (AT b v u) T2 T3 T4 (AX b g l cs ps v u) P2 P3 P4 gc L c zs w :=
  ⟨h.k1.imp fun _ h => h.ax, h.k2, h.k3, h.k4, h.d12, h.d13, h.d14, h.d23, h.d24, h.d34, h.a1, h.a2, h.a3, h.a4, h.ch, h.gW, h.bel⟩
theorem Q4.setU (h : Q4 W0 (AT b v u) T2 T3 T4 (AX b g l cs ps v u) P2 P3 P4 gc L c zs w) {r : Nat} {ps' : List (Int × Int)} (hu : u.ownBlock = some r) (hl : ps'.length = ps.length) (hg : w.grownBy w1 (some r)) (he : Erow w1 r ps') :
    Q4 W0 (AT b v u) T2 T3 T4 (AX b g l cs ps' v u) P2 P3 P4 gc L c zs w1 := by
  have hr : gc < r := h.a1 r (.inr (.inr hu))
  refine h.mod hg.size (fun k hk t => hg.block k hk fun e => ?_) (h.bel.grown hg h.bel.size fun k e => by injection e with e; have := h.gW; omega) (h.k1.now.setU hu hl hg.size (fun k hk hne => hg.block k hk fun e => hne (by injection e)) he).keeps fun k t => .inl t
  injection e with e
  subst e
  exact t (.inr (.inr hu))
theorem Q4.setV (h : Q4 W0 (AT b v u) T2 T3 T4 (AX b g l cs ps v u) P2 P3 P4 gc L c zs w) {r : Nat} {cs' : List (Int × Int)} (hv : v.ownBlock = some r) (hl : cs'.length = cs.length) (hg : w.grownBy w1 (some r)) (he : Erow w1 r cs') :
    Q4 W0 (AT b v u) T2 T3 T4 (AX b g l cs' ps v u) P2 P3 P4 gc L c zs w1 := by
  have hr : gc < r := h.a1 r (.inr (.inl hv))
  refine h.mod hg.size (fun k hk t => hg.block k hk fun e => ?_) (h.bel.grown hg h.bel.size fun k e => by injection e with e; have := h.gW; omega) (h.k1.now.setV hv hl hg.size (fun k hk hne => hg.block k hk fun e => hne (by injection e)) he).keeps fun k t => .inl t
  injection e with e
  subst e
  exact t (.inr (.inl hv))
end
theorem RowE.erow {w : World} {r n c : Nat} {t : List (Int × Int)} (h : RowE w (.slice (some ⟨r, 0, none⟩) n c) t) : Erow w r t := by
  obtain ⟨c', _, ⟨e, _⟩ | ⟨r', e, he⟩⟩ := h.form
  · cases e
  · injection e with e1 e2 e3
    injection e1 with e1
    injection e1 with e1
    subst e1; exact he
theorem RowE.some {w : World} {v : Value} {t : List (Int × Int)} (h : RowE w v t) (hl : 0 < t.length) : ∃ r c, v = .slice (some ⟨r, 0, none⟩) t.length c ∧ t.length ≤ c := by
  obtain ⟨c, hc, ⟨_, rfl, _⟩ | ⟨r, e, _⟩⟩ := h.form
  · simp at hl
  · exact ⟨r, c, e, hc⟩
theorem pull_lt {n q : Int} (hn : 0 < n) (h1 : n < 2 → q = 0) (h2 : 2 ≤ n → 0 ≤ q ∧ q < n) : 0 ≤ q ∧ q < n := by
  by_cases h : 2 ≤ n
  · exact h2 h
  · have := h1 (by omega); omega
/-- Payments that are no later than ps, and right. -/
structure SoonG (ps qs : List (Int × Int)) : Prop where
  soon : Sooner ps qs
  up : Up qs
  len : qs.length ≤ ps.length + 1
  all : ∀ e ∈ qs, 0 ≤ e.1 ∧ e.1 ≤ 400 ∧ 1 ≤ e.2 ∧ e.2 ≤ 10000
theorem soon_refl {ps : List (Int × Int)} (h1 : Up ps) (h2 : ∀ e ∈ ps, 0 ≤ e.1 ∧ e.1 ≤ 400 ∧ 1 ≤ e.2 ∧ e.2 ≤ 10000) : SoonG ps ps := ⟨fun _ => Int.le_refl _, h1, by omega, h2⟩
theorem soon_more {ps qs : List (Int × Int)} {x : Int × Int} (hp : qs.Perm (ps ++ [x])) (hu : Up qs) (h2 : ∀ e ∈ ps, 0 ≤ e.1 ∧ e.1 ≤ 400 ∧ 1 ≤ e.2 ∧ e.2 ≤ 10000) (hx : 0 ≤ x.1 ∧ x.1 ≤ 400 ∧ 1 ≤ x.2 ∧ x.2 ≤ 10000) : SoonG ps qs := by
  refine ⟨sooner_more (by omega) hp, hu, by rw [hp.length_eq]; simp, fun e he => ?_⟩
  have := hp.mem_iff.1 he
  rcases List.mem_append.1 this with h | h
  · exact h2 e h
  · simp at h; subst h; exact hx
theorem soon_set {ps qs : List (Int × Int)} {j : Nat} (hj : j < ps.length) {q : Int} (hq : 0 ≤ q) (hq2 : q ≤ ps[j].1) (hp : qs.Perm (ps.set j (ps[j].1 - q, ps[j].2))) (hu : Up qs) (h2 : ∀ e ∈ ps, 0 ≤ e.1 ∧ e.1 ≤ 400 ∧ 1 ≤ e.2 ∧ e.2 ≤ 10000) : SoonG ps qs := by
  have hx := h2 ps[j] (List.getElem_mem _)
  refine ⟨sooner_set hj hq (by omega) hp, hu, by rw [hp.length_eq, List.length_set]; omega, fun e he => ?_⟩
  have := hp.mem_iff.1 he
  rcases List.mem_or_eq_of_mem_set this with h | h
  · exact h2 e h
  · subst h; show 0 ≤ ps[j].1 - q ∧ ps[j].1 - q ≤ 400 ∧ 1 ≤ ps[j].2 ∧ ps[j].2 ≤ 10000; omega
/-- Facts for the operations of a drawn region, listed; each outlasts what a chute's numbers change. -/
def FL (l : List (Value → World → Prop)) (i : Nat) (v : Value) (w : World) : Prop := match l[i]? with | some p => p v w | none => True
def Stb (g : Nat) (p : Value → World → Prop) : Prop := ∀ v w w', p v w → w.grownBy w' (some g) → p v w'
theorem FL.keep {g : Nat} {l : List (Value → World → Prop)} (h : ∀ p ∈ l, Stb g p) (i : Nat) (v : Value) (w w' : World) (H : FL l i v w) (hg : w.grownBy w' (some g)) : FL l i v w' := by
  unfold FL at H ⊢
  cases hl : l[i]? with
  | none => trivial
  | some p =>
    rw [hl] at H
    exact h p (List.mem_of_getElem? hl) v w w' H hg
def PEq (x : Value) (v : Value) (_ : World) : Prop := v = x
def PNum (a b : Int) (v : Value) (_ : World) : Prop := ∃ d : Int, v = .int .i64 d ∧ a ≤ d ∧ d ≤ b
def PEnt (a b c d : Int) (v : Value) (_ : World) : Prop := ∃ x y : Int, v = .agg #[.int .i64 x, .int .i64 y] ∧ a ≤ x ∧ x ≤ b ∧ c ≤ y ∧ y ≤ d
def PSl (g : Nat) (a b c d : Int) (v : Value) (w : World) : Prop := ∃ (x y : Int) (k : Nat), v = .slice (some ⟨k, 0, none⟩) 1 1 ∧ a ≤ x ∧ x ≤ b ∧ c ≤ y ∧ y ≤ d ∧ g < k ∧ k < w.heap.size ∧ w.cell? ⟨k, 0, none⟩ = some (.int .i64 x) ∧ w.cell? ⟨k, 1, none⟩ = some (.int .i64 y)
theorem stb_eq (g : Nat) (x : Value) : Stb g (PEq x) := fun _ _ _ h _ => h
theorem stb_num (g : Nat) (a b : Int) : Stb g (PNum a b) := fun _ _ _ h _ => h
theorem stb_ent (g : Nat) (a b c d : Int) : Stb g (PEnt a b c d) := fun _ _ _ h _ => h
theorem stb_sl (g : Nat) (a b c d : Int) : Stb g (PSl g a b c d) := by
  rintro v w w' ⟨x, y, k, e, h1, h2, h3, h4, h5, h6, c0, c1⟩ hg
  exact ⟨x, y, k, e, h1, h2, h3, h4, h5, Nat.lt_of_lt_of_le h6 hg.size, (World.grownBy.cell_far hg ⟨k, 0, none⟩ h6 (by intro e; injection e with e; have : k = g := e; omega)).trans c0, (World.grownBy.cell_far hg ⟨k, 1, none⟩ h6 (by intro e; injection e with e; have : k = g := e; omega)).trans c1⟩
end Go.Proofs.Ytfojjecnmfkcfaa
namespace Go.Proofs.Ytfojjecnmfkcfaa
open Go.RowKit
set_option linter.unusedVariables false
section
variable {cs ps qs : List (Int × Int)} {g l day : Int}
theorem AccOk.cpos (h : AccOk cs ps g l) : ∀ e ∈ cs, 0 ≤ e.1 ∧ 1 ≤ e.2 := fun e he => by have := h.call e he; omega
theorem ok_soon (h : AccOk cs ps g l) (hs : SoonG ps qs) (hl : ps.length ≤ 7) : AccOk cs qs g l := ⟨h.clen, by have := hs.len; omega, h.grace, h.late, h.call, hs.all, h.crise, rises_up hs.up⟩
theorem ok_longer (h : AccOk cs ps g l) {x : Int × Int} (hx : ∀ e ∈ cs, e.1 ≤ x.1) (hb : 0 ≤ x.1 ∧ x.1 ≤ 400 ∧ 1 ≤ x.2 ∧ x.2 ≤ 10000) (hl : cs.length ≤ 7) : AccOk (cs ++ [x]) ps g l := by
  refine ⟨by simp; omega, h.plen, h.grace, h.late, fun e he => ?_, h.pall, ?_, h.prise⟩
  · rcases List.mem_append.1 he with h1 | h1
    · exact h.call e h1
    · simp at h1; subst h1; exact hb
  · rw [List.map_append]
    refine rises_app 0 _ _ h.crise fun y hy => ?_
    obtain ⟨z, hz, rfl⟩ := List.mem_map.1 hy
    have := hx z hz
    show z.1 + 0 ≤ x.1
    omega
theorem ok_shift (h : AccOk cs ps g l) {b : Int} (b0 : 0 ≤ b) (b1 : b ≤ 100) (hc : ∀ e ∈ cs, e.1 ≤ 300) (hp : ∀ e ∈ ps, e.1 ≤ 300) : AccOk (shiftD cs b) (shiftD ps b) g l := by
  refine ⟨by rw [shiftD_length]; exact h.clen, by rw [shiftD_length]; exact h.plen, h.grace, h.late, fun e he => ?_, fun e he => ?_, rises_up (up_shift (up_of h.crise) b), rises_up (up_shift (up_of h.prise) b)⟩
  · obtain ⟨z, hz, rfl⟩ := List.mem_map.1 he
    have := h.call z hz
    have := hc z hz
    show 0 ≤ z.1 + b ∧ z.1 + b ≤ 400 ∧ 1 ≤ z.2 ∧ z.2 ≤ 10000
    omega
  · obtain ⟨z, hz, rfl⟩ := List.mem_map.1 he
    have := h.pall z hz
    have := hp z hz
    show 0 ≤ z.1 + b ∧ z.1 + b ≤ 400 ∧ 1 ≤ z.2 ∧ z.2 ≤ 10000
    omega
end
structure Oth (cs ps : List (Int × Int)) (g l day : Int) (k : Nat) (co po : List (Int × Int)) : Prop where
  ok : AccOk co po g l
  len : cs.length ≤ co.length
  paid : ∀ i, i < cs.length → paidAt cs ps i ≠ -1 → paidAt co po i ≠ -1 ∧ paidAt co po i ≤ paidAt cs ps i
  same : k = 2 → ∀ i, i < cs.length → paidAt co po i = paidAt cs ps i
  cost : k < 2 → lateC co po g l day co.length ≤ lateC cs ps g l day cs.length
  late : ∀ i, i < cs.length → lateB co po g day i = true → lateB cs ps g day i = true
theorem oth_soon {cs ps qs : List (Int × Int)} {g l day : Int} {k : Nat} (hk : k < 2) (h : AccOk cs ps g l) (hs : SoonG ps qs) (hl : ps.length ≤ 7) : Oth cs ps g l day k cs qs :=
  have hq : ∀ e ∈ qs, 0 ≤ e.2 := fun e he => by have := hs.all e he; omega
  ⟨ok_soon h hs hl, Nat.le_refl _, fun i hi h1 => paid_sooner h.cpos (up_of h.prise) hs.up h.p0 hq hs.soon hi h1, fun e => by omega,
    fun _ => lateC_le h.late.1 h.c0 (fun i hi h1 => late_sooner h.cpos (up_of h.prise) hs.up h.p0 hq hs.soon hi h1) _ (Nat.le_refl _), fun i hi h1 => late_sooner h.cpos (up_of h.prise) hs.up h.p0 hq hs.soon hi h1⟩
theorem oth_longer {cs ps : List (Int × Int)} {g l day : Int} {x : Int × Int} (h : AccOk cs ps g l) (hx : ∀ e ∈ cs, e.1 ≤ x.1) (hb : 0 ≤ x.1 ∧ x.1 ≤ 400 ∧ 1 ≤ x.2 ∧ x.2 ≤ 10000) (hl : cs.length ≤ 7) : Oth cs ps g l day 2 (cs ++ [x]) ps :=
  ⟨ok_longer h hx hb hl, by simp, fun i hi h1 => by rw [paid_longer x hi]; exact ⟨h1, Int.le_refl _⟩, fun _ i hi => paid_longer x hi, fun h => by omega, fun i hi h1 => by rwa [late_longer x hi] at h1⟩
/-- Four cells of an account variable. -/
structure C4 (w : World) (b : Nat) (v u : Value) (g l : Int) : Prop where
  lt : b < w.heap.size
  b0 : w.cell? ⟨b, 0, none⟩ = some v
  b1 : w.cell? ⟨b, 1, none⟩ = some u
  b2 : w.cell? ⟨b, 2, none⟩ = some (.int .i64 g)
  b3 : w.cell? ⟨b, 3, none⟩ = some (.int .i64 l)
theorem C4.next {w w' : World} {b : Nat} {v u : Value} {g l : Int} (h : C4 w b v u g l) (hb : Below w.heap.size w w') : C4 w' b v u g l :=
  ⟨Nat.lt_of_lt_of_le h.lt hb.size, hb.at_ h.lt h.b0, hb.at_ h.lt h.b1, hb.at_ h.lt h.b2, hb.at_ h.lt h.b3⟩
theorem AX.c4 {b : Nat} {g l : Int} {cs ps : List (Int × Int)} {v u : Value} {w : World} (h : AX b g l cs ps v u w) : C4 w b v u g l := ⟨h.lt, h.b0, h.b1, h.b2, h.b3⟩
/-- One of three. -/
def pick3 {α : Type} (a b c : α) (k : Nat) : α := if k = 0 then a else if k = 1 then b else c
theorem pick3_0 {α : Type} (a b c : α) : pick3 a b c 0 = a := rfl
theorem pick3_1 {α : Type} (a b c : α) : pick3 a b c 1 = b := rfl
theorem pick3_2 {α : Type} (a b c : α) : pick3 a b c 2 = c := rfl
/-- An account that is read from its four cells in a row of accounts. -/
structure OthAt (w : World) (bL : Nat) (cs ps : List (Int × Int)) (g l day : Int) (k : Nat) (A : Option Addr) (c : Nat) (co : List (Int × Int)) (B : Option Addr) (d : Nat) (po : List (Int × Int)) : Prop where
  c0 : w.cell? ⟨bL, k * 4, none⟩ = some (.slice A co.length c)
  c1 : w.cell? ⟨bL, k * 4 + 1, none⟩ = some (.slice B po.length d)
  c2 : w.cell? ⟨bL, k * 4 + 2, none⟩ = some (.int .i64 g)
  c3 : w.cell? ⟨bL, k * 4 + 3, none⟩ = some (.int .i64 l)
  acc : Acc w A B c d co po g l
  oth : Oth cs ps g l day k co po
theorem OthAt.next {w w' : World} {bL : Nat} {cs ps : List (Int × Int)} {g l day : Int} {k : Nat} {A : Option Addr} {c : Nat} {co : List (Int × Int)} {B : Option Addr} {d : Nat} {po : List (Int × Int)} (h : OthAt w bL cs ps g l day k A c co B d po) (hl : bL < w.heap.size) (hb : Below w.heap.size w w') : OthAt w' bL cs ps g l day k A c co B d po :=
  ⟨hb.at_ hl h.c0, hb.at_ hl h.c1, hb.at_ hl h.c2, hb.at_ hl h.c3, h.acc.next hb, h.oth⟩
theorem othAt_new {w W : World} {cs ps : List (Int × Int)} {g l day : Int} {A0 A1 A2 B0 B1 B2 : Option Addr} {c0 c1 c2 d0 d1 d2 : Nat} {co0 co1 co2 po0 po1 po2 : List (Int × Int)} {t : TypeId} (hW : w.alloc (.cells #[.slice A0 co0.length c0, .slice B0 po0.length d0, .int .i64 g, .int .i64 l, .slice A1 co1.length c1, .slice B1 po1.length d1, .int .i64 g, .int .i64 l, .slice A2 co2.length c2, .slice B2 po2.length d2, .int .i64 g, .int .i64 l] t) = W)
    (h0 : Acc w A0 B0 c0 d0 co0 po0 g l) (h1 : Acc w A1 B1 c1 d1 co1 po1 g l) (h2 : Acc w A2 B2 c2 d2 co2 po2 g l) (o0 : Oth cs ps g l day 0 co0 po0) (o1 : Oth cs ps g l day 1 co1 po1) (o2 : Oth cs ps g l day 2 co2 po2) :
    w.heap.size < W.heap.size ∧ Below w.heap.size w W ∧ ∀ k, k < 3 → ∃ A c co B d po, OthAt W w.heap.size cs ps g l day k A c co B d po := by
  subst hW
  have hb := below_new w (.cells #[.slice A0 co0.length c0, .slice B0 po0.length d0, .int .i64 g, .int .i64 l, .slice A1 co1.length c1, .slice B1 po1.length d1, .int .i64 g, .int .i64 l, .slice A2 co2.length c2, .slice B2 po2.length d2, .int .i64 g, .int .i64 l] t)
  have nw := news_new w [.slice A0 co0.length c0, .slice B0 po0.length d0, .int .i64 g, .int .i64 l, .slice A1 co1.length c1, .slice B1 po1.length d1, .int .i64 g, .int .i64 l, .slice A2 co2.length c2, .slice B2 po2.length d2, .int .i64 g, .int .i64 l] t rfl
  refine ⟨by simp, hb, fun k hk => ?_⟩
  match k, hk with
  | 0, _ => exact ⟨_, _, _, _, _, _, nw 0 _ rfl, nw 1 _ rfl, nw 2 _ rfl, nw 3 _ rfl, h0.next hb, o0⟩
  | 1, _ => exact ⟨_, _, _, _, _, _, nw 4 _ rfl, nw 5 _ rfl, nw 6 _ rfl, nw 7 _ rfl, h1.next hb, o1⟩
  | 2, _ => exact ⟨_, _, _, _, _, _, nw 8 _ rfl, nw 9 _ rfl, nw 10 _ rfl, nw 11 _ rfl, h2.next hb, o2⟩
theorem c4_new {w W : World} {v u : Value} {g l : Int} {t : TypeId} (hW : w.alloc (.cells #[v, u, .int .i64 g, .int .i64 l] t) = W) : C4 W w.heap.size v u g l ∧ Below w.heap.size w W := by
  subst hW
  have nw := news_new w [v, u, .int .i64 g, .int .i64 l] t rfl
  exact ⟨⟨by simp, nw 0 _ rfl, nw 1 _ rfl, nw 2 _ rfl, nw 3 _ rfl⟩, below_new _ _⟩
end Go.Proofs.Ytfojjecnmfkcfaa
