/- Where Made stands: the words for its memory. Made: a book out of numbers, and what is real of it. One proof more, one change more, another order, later minutes: what that does to the ways. Each change of a drift that fits with the fewest lies between the minutes that groups tell. -/
import Derived.Test.YtcdjoegihmfanaaGreatG19
import Derived.Test.YtcdjoegihmfanaaGreatG2
import Derived.Test.YtcdjoegihmfanaaGreatG4
import Derived.Test.YtcdjoegihmfanaaGreatG3
import Derived.Test.YtcdjoegihmfanaaGreatG14
import Derived.Test.YtcdjoegihmfanaaGreatG12
namespace Go.Proofs.YtcdjoegihmfanaaGreat
open Go.RowKit
set_option linter.unusedVariables false
/-- A proof that 'proved' made. -/
structure PvP (n er : Int) (f : Int) (cs : List (Int × Int)) (p : Pr) : Prop where
  b : p.b = n
  m : 0 ≤ p.m ∧ p.m ≤ 99
  k : 0 ≤ p.k ∧ p.k ≤ 800
  r : -er ≤ p.r - p.k - valueD f cs p.m ∧ p.r - p.k - valueD f cs p.m ≤ er
def PPr (n er : Int) (f : Int) (cs : List (Int × Int)) (v : Value) (w : World) : Prop := ∃ p, v = prV p ∧ PvP n er f cs p
theorem stb_pr (g : Nat) (n er f : Int) (cs : List (Int × Int)) : Stb g (PPr n er f cs) := fun _ _ _ h _ => h
theorem stb_blkG {g B : Nat} {xs : List Value} (h : g < B) : Stb g (PBlk B xs) := by
  rintro v w w' ⟨k, e, h1, h2⟩ hg
  exact ⟨k, e, h1, h2.grown hg (by intro e; injection e; omega)⟩
theorem RdI.more {w : World} {l h h' : Nat} {A : Option Addr} {xs : List Value} (k : RdI w l h A xs) (hh : h ≤ h') : RdI w l h' A xs := fun hn => by
  obtain ⟨b, off, e, h1, h2, h3⟩ := k hn
  exact ⟨b, off, e, h1, Nat.lt_of_lt_of_le h2 hh, h3⟩
theorem DrL.more {x : World} {g H H' db : Nat} {D0 D1 : DrM} (h : DrL x g H db D0 D1) (h1 : H ≤ H') (h2 : H' ≤ x.heap.size) : DrL x g H' db D0 D1 :=
  ⟨h.k, h.r0.more h1, h.r1.more h1, h.gd, Nat.lt_of_lt_of_le h.dH h1, h2⟩
theorem DrL.low {x : World} {l g H db : Nat} {D0 D1 : DrM} (h : DrL x l H db D0 D1) (hg : g ≤ l) : DrL x g H db D0 D1 :=
  ⟨h.k, fun hn => by obtain ⟨b, off, e, h1, h2, h3⟩ := h.r0 hn; exact ⟨b, off, e, by omega, h2, h3⟩, fun hn => by obtain ⟨b, off, e, h1, h2, h3⟩ := h.r1 hn; exact ⟨b, off, e, by omega, h2, h3⟩, Nat.lt_of_le_of_lt hg h.gd, h.dH, h.hH⟩
theorem DrL.pickI {x : World} {g H db : Nat} {D0 D1 D : DrM} {n : Nat} (h : DrL x g H db D0 D1) (hD : pickD D0 D1 n = D) : RdI x (g + 1) x.heap.size D.A (pairs D.cs) := by
  subst hD
  unfold pickD
  split
  · exact h.r0.more h.hH
  · exact h.r1.more h.hH
/-- In the first loop: the book lies in block b11, its proofs so far are a row of the call's own. -/
structure MdA1 (W x : World) (g : Nat) (L : Option Addr) (c : Nat) (zs : List Int) (b8 b11 db H : Nat) (e0 e1 : Int) (D0 D1 : DrM) (ps : List Pr) (vp : Value) : Prop where
  ch : ChE x g L c zs
  gr : W.grownBy x (some g)
  k8 : Blk x b8 [.int .i64 0, .int .i64 0, .slice none 0 0, .slice none 0 0]
  k11 : Blk x b11 [.int .i64 e0, .int .i64 e1, vp, .slice none 0 0]
  op : x.ownsRow H 57 4 vp ps.length (prs ps)
  dr : DrL x b11 H db D0 D1
  gW : g < W.heap.size
  w8 : W.heap.size ≤ b8
  l8 : b8 < b11
  l11 : b11 < H
section
variable {W x y : World} {g : Nat} {L : Option Addr} {c : Nat} {zs : List Int} {b8 b11 db H : Nat} {e0 e1 : Int} {D0 D1 : DrM} {ps : List Pr} {vp : Value}
theorem MdA1.row (h : MdA1 W x g L c zs b8 b11 db H e0 e1 D0 D1 ps vp) {row : Option Nat} (hg : x.grownBy y row) (hC : ChE y g L c zs) (h1 : ∀ r, row = some r → r = g ∨ H ≤ r) (h2 : vp.ownBlock = none ∨ vp.ownBlock ≠ row) : MdA1 W y g L c zs b8 b11 db H e0 e1 D0 D1 ps vp := by
  have k1 := h.gW
  have k2 := h.w8
  have k3 := h.l8
  have k4 := h.l11
  have ne : ∀ b, b ≠ g → b < H → some b ≠ row := fun b hb hb2 e => by rcases h1 b e.symm with h | h <;> omega
  have hr := h.gr
  refine ⟨hC, ⟨hg.os.trans hr.os, hg.tape.trans hr.tape, hg.output.trans hr.output, Nat.le_trans hr.size hg.size, fun k hk hn => (hg.block k (Nat.lt_of_lt_of_le hk hr.size) ?_).trans (hr.block k hk hn)⟩, h.k8.grown hg (ne _ (by omega) (by omega)), h.k11.grown hg (ne _ (by omega) (by omega)), h.op.kept hg h2, h.dr.block hg.size fun b hb1 hb2 => hg.block b (Nat.lt_of_lt_of_le hb2 h.dr.hH) (ne _ (by omega) hb2), k1, k2, k3, k4⟩
  intro e
  rcases h1 k e.symm with h5 | h5
  · exact hn (by rw [h5])
  · omega
theorem MdA1.pull (h : MdA1 W x g L c zs b8 b11 db H e0 e1 D0 D1 ps vp) (hg : x.grownBy y (some g)) (hC : ChE y g L c zs) : MdA1 W y g L c zs b8 b11 db H e0 e1 D0 D1 ps vp :=
  h.row hg hC (fun r e => .inl (by injection e with e; exact e.symm)) (.inr fun e => by have := (h.op.lt g e).1; have := h.gW; have := h.w8; have := h.l8; have := h.l11; omega)
theorem MdA1.below (h : MdA1 W x g L c zs b8 b11 db H e0 e1 D0 D1 ps vp) (hb : Below x.heap.size x y) : MdA1 W y g L c zs b8 b11 db H e0 e1 D0 D1 ps vp := h.pull (grown_below (grownBy_self _ _) hb) (h.ch.below hb)
theorem MdA1.alloc (h : MdA1 W x g L c zs b8 b11 db H e0 e1 D0 D1 ps vp) (o : Obj) : MdA1 W (x.alloc o) g L c zs b8 b11 db H e0 e1 D0 D1 ps vp := h.below (below_new x o)
theorem MdA1.drewN (h : MdA1 W x g L c zs b8 b11 db H e0 e1 D0 D1 ps vp) (n : Nat) : MdA1 W (x.drewN n) g L c zs b8 b11 db H e0 e1 D0 D1 ps vp := h.pull (only_drewN (grownBy_self _ _) n) (h.ch.drewN n)
theorem MdA1.far (h : MdA1 W x g L c zs b8 b11 db H e0 e1 D0 D1 ps vp) {k o : Nat} {u : Value} (hk : H ≤ k) (hv : vp.ownBlock ≠ some k) : MdA1 W (x.setCell ⟨k, o, none⟩ u) g L c zs b8 b11 db H e0 e1 D0 D1 ps vp :=
  h.row (grownBy_setCell _ _ _ _) (h.ch.keep (by simp [World.setCell]) fun b hb => heap_far (by have := h.gW; have := h.w8; have := h.l8; have := h.l11; omega)) (fun r e => .inr (by injection e with e; have e : k = r := e; omega)) (.inr hv)
structure MdM1 (W y : World) (g : Nat) (L : Option Addr) (c : Nat) (zs : List Int) (b8 b11 db H : Nat) (e0 e1 : Int) (D0 D1 : DrM) (ps : List Pr) (v1 : Value) : Prop where
  o1 : ∃ u, y.cell? ⟨b11, 2, none⟩ = some u
  of : y.frozen? ⟨b11, 2, none⟩ = false
  ol : b11 < y.heap.size
  st : MdA1 W (y.setCell ⟨b11, 2, none⟩ v1) g L c zs b8 b11 db H e0 e1 D0 D1 ps v1
theorem prs_app (t : List Pr) (p : Pr) : prs (t ++ [p]) = prs t ++ [.int .i64 p.b, .int .i64 p.m, .int .i64 p.k, .int .i64 p.r] := by
  unfold prs; rw [rowsOf_append]; simp [rowsOf, prF, ints]
theorem MdA1.app (h : MdA1 W x g L c zs b8 b11 db H e0 e1 D0 D1 ps vp) {v1 : Value} {p : Pr} (ho : y.ownsRow H 57 4 v1 (ps.length + 1) (prs ps ++ [.int .i64 p.b, .int .i64 p.m, .int .i64 p.k, .int .i64 p.r])) (hg : x.grownBy y vp.ownBlock) : MdM1 W y g L c zs b8 b11 db H e0 e1 D0 D1 (ps ++ [p]) v1 := by
  have k1 := h.gW
  have k2 := h.w8
  have k3 := h.l8
  have k4 := h.l11
  have ne : ∀ b, b < H → some b ≠ vp.ownBlock := fun b hb e => by have := (h.op.lt b e.symm).1; omega
  have hC : ChE y g L c zs := h.ch.keep hg.size fun k hk => hg.block k (by have := h.k11.lt; omega) (ne k (by omega))
  have h11 := h.k11.grown hg (ne _ k4)
  have hgr : W.grownBy y (some g) := grown_row h.gr hg fun b e => by have := (h.op.lt b e).1; omega
  refine ⟨⟨_, h11.cells 2 _ rfl⟩, h11.free 2, h11.lt, ⟨hC.keep (by simp [World.setCell]) fun k hk => heap_far (by omega), grown_new hgr (grownBy_setCell _ _ _ _) (by omega), (h.k8.grown hg (ne _ (by omega))).far (by omega), h11.set (j := 2) (by simp) v1, ?_, ?_, k1, k2, k3, k4⟩⟩
  · rw [prs_app, List.length_append]
    exact own_far ho (by omega)
  · exact (h.dr.block hg.size fun b hb1 hb2 => hg.block b (Nat.lt_of_lt_of_le hb2 h.dr.hH) (ne _ hb2)).block (by simp [World.setCell]) fun b hb1 hb2 => heap_far (by omega)
end
/-- In the second loop: the trips so far, and the nets. -/
structure MdA2 (W x : World) (g : Nat) (L : Option Addr) (c : Nat) (zs : List Int) (b8 b11 db H H2 : Nat) (e0 e1 : Int) (D0 D1 : DrM) (ps : List Pr) (vp : Value) (ts : List Tr) (vt : Value) (ns : List Int) (vn : Value) : Prop where
  ch : ChE x g L c zs
  gr : W.grownBy x (some g)
  k8 : Blk x b8 [.int .i64 0, .int .i64 0, .slice none 0 0, .slice none 0 0]
  k11 : Blk x b11 [.int .i64 e0, .int .i64 e1, vp, vt]
  op : x.ownsRow H 57 4 vp ps.length (prs ps)
  vpb : ∀ b, vp.ownBlock = some b → b < H2
  ot : x.ownsRow H2 120 7 vt ts.length (trs ts)
  on : x.ownsRow H2 3 1 vn ns.length (ints ns)
  ap : vt.ownBlock = none ∨ vt.ownBlock ≠ vn.ownBlock
  dr : DrL x b11 H db D0 D1
  gW : g < W.heap.size
  w8 : W.heap.size ≤ b8
  l8 : b8 < b11
  l11 : b11 < H
  lH : H ≤ H2
  hs : H2 ≤ x.heap.size
section
variable {W x y : World} {g : Nat} {L : Option Addr} {c : Nat} {zs : List Int} {b8 b11 db H H2 : Nat} {e0 e1 : Int} {D0 D1 : DrM} {ps : List Pr} {vp : Value} {ts : List Tr} {vt : Value} {ns : List Int} {vn : Value}
theorem MdA1.two (h : MdA1 W x g L c zs b8 b11 db H e0 e1 D0 D1 ps vp) (h2 : x.heap.size = H2) : MdA2 W x g L c zs b8 b11 db H H2 e0 e1 D0 D1 ps vp [] (.slice none 0 0) [] (.slice none 0 0) :=
  ⟨h.ch, h.gr, h.k8, h.k11, h.op, fun b e => by have := (h.op.lt b e).2; omega, World.ownsRow_nil _ _ _ _, World.ownsRow_nil _ _ _ _, .inl rfl, h.dr, h.gW, h.w8, h.l8, h.l11, by have := h.dr.hH; omega, by omega⟩
theorem MdA2.row (h : MdA2 W x g L c zs b8 b11 db H H2 e0 e1 D0 D1 ps vp ts vt ns vn) {row : Option Nat} (hg : x.grownBy y row) (hC : ChE y g L c zs) (h1 : ∀ r, row = some r → r = g ∨ H2 ≤ r) (h2 : vt.ownBlock = none ∨ vt.ownBlock ≠ row) (h3 : vn.ownBlock = none ∨ vn.ownBlock ≠ row) : MdA2 W y g L c zs b8 b11 db H H2 e0 e1 D0 D1 ps vp ts vt ns vn := by
  have k1 := h.gW
  have k2 := h.w8
  have k3 := h.l8
  have k4 := h.l11
  have k5 := h.lH
  have ne : ∀ b, b ≠ g → b < H2 → some b ≠ row := fun b hb hb2 e => by rcases h1 b e.symm with h | h <;> omega
  have hr := h.gr
  refine ⟨hC, ⟨hg.os.trans hr.os, hg.tape.trans hr.tape, hg.output.trans hr.output, Nat.le_trans hr.size hg.size, fun k hk hn => (hg.block k (Nat.lt_of_lt_of_le hk hr.size) ?_).trans (hr.block k hk hn)⟩, h.k8.grown hg (ne _ (by omega) (by omega)), h.k11.grown hg (ne _ (by omega) (by omega)), h.op.kept hg ?_, h.vpb, h.ot.kept hg h2, h.on.kept hg h3, h.ap, h.dr.block hg.size fun b hb1 hb2 => hg.block b (Nat.lt_of_lt_of_le hb2 h.dr.hH) (ne _ (by omega) (by omega)), k1, k2, k3, k4, k5, Nat.le_trans h.hs hg.size⟩
  · intro e
    rcases h1 k e.symm with h5 | h5
    · exact hn (by rw [h5])
    · omega
  · cases hv : vp.ownBlock with
    | none => exact .inl rfl
    | some b =>
      refine .inr fun e => ?_
      have a := (h.op.lt b hv).1
      have b' := h.vpb b hv
      rcases h1 b e.symm with h5 | h5 <;> omega
theorem MdA2.pull (h : MdA2 W x g L c zs b8 b11 db H H2 e0 e1 D0 D1 ps vp ts vt ns vn) (hg : x.grownBy y (some g)) (hC : ChE y g L c zs) : MdA2 W y g L c zs b8 b11 db H H2 e0 e1 D0 D1 ps vp ts vt ns vn := by
  have k1 := h.gW
  have k2 := h.w8
  have k3 := h.l8
  have k4 := h.l11
  have k5 := h.lH
  exact h.row hg hC (fun r e => .inl (by injection e with e; exact e.symm)) (.inr fun e => by have := (h.ot.lt g e).1; omega) (.inr fun e => by have := (h.on.lt g e).1; omega)
theorem MdA2.below (h : MdA2 W x g L c zs b8 b11 db H H2 e0 e1 D0 D1 ps vp ts vt ns vn) (hb : Below x.heap.size x y) : MdA2 W y g L c zs b8 b11 db H H2 e0 e1 D0 D1 ps vp ts vt ns vn := h.pull (grown_below (grownBy_self _ _) hb) (h.ch.below hb)
theorem MdA2.alloc (h : MdA2 W x g L c zs b8 b11 db H H2 e0 e1 D0 D1 ps vp ts vt ns vn) (o : Obj) : MdA2 W (x.alloc o) g L c zs b8 b11 db H H2 e0 e1 D0 D1 ps vp ts vt ns vn := h.below (below_new x o)
theorem MdA2.drewN (h : MdA2 W x g L c zs b8 b11 db H H2 e0 e1 D0 D1 ps vp ts vt ns vn) (n : Nat) : MdA2 W (x.drewN n) g L c zs b8 b11 db H H2 e0 e1 D0 D1 ps vp ts vt ns vn := h.pull (only_drewN (grownBy_self _ _) n) (h.ch.drewN n)
theorem ints_app (t : List Int) (z : Int) : ints (t ++ [z]) = ints t ++ [.int .i64 z] := by simp [ints]
theorem trs_app (t : List Tr) (p : Tr) : trs (t ++ [p]) = trs t ++ [.int .i64 p.ib, .int .i64 p.im, .int .i64 p.ir, .int .i64 p.ob, .int .i64 p.om, .int .i64 p.or, .int .i64 p.mud] := by
  unfold trs; rw [rowsOf_append]; simp [rowsOf, trF, ints]
theorem own_blocks {w : World} {B : Nat} {E : TypeId} {size n : Nat} {v : Value} {xs : List Value} (h : w.ownsRow B E size v n xs) {b : Nat} (hb : w.heap.size ≤ b) : v.ownBlock ≠ some b := fun e => by have := (h.lt b e).2; omega
/-- One net more. -/
theorem MdA2.appN (h : MdA2 W x g L c zs b8 b11 db H H2 e0 e1 D0 D1 ps vp ts vt ns vn) {v1 : Value} {z : Int} (ho : y.ownsRow H2 3 1 v1 (ns.length + 1) (ints ns ++ [.int .i64 z])) (hg : x.grownBy y vn.ownBlock) (hat : v1.ownBlock = vn.ownBlock ∨ v1.ownBlock = some x.heap.size) : MdA2 W y g L c zs b8 b11 db H H2 e0 e1 D0 D1 ps vp ts vt (ns ++ [z]) v1 := by
  have k1 := h.gW
  have k2 := h.w8
  have k3 := h.l8
  have k4 := h.l11
  have k5 := h.lH
  have ne : ∀ b, b < H2 → some b ≠ vn.ownBlock := fun b hb e => by have := (h.on.lt b e.symm).1; omega
  have hC : ChE y g L c zs := h.ch.keep hg.size fun k hk => hg.block k (by have := h.k11.lt; omega) (ne k (by omega))
  refine ⟨hC, grown_row h.gr hg fun b e => by have := (h.on.lt b e).1; omega, h.k8.grown hg (ne _ (by omega)), h.k11.grown hg (ne _ (by omega)), h.op.kept hg ?_, h.vpb, h.ot.kept hg h.ap, by rw [ints_app, List.length_append]; exact ho, ?_, h.dr.block hg.size fun b hb1 hb2 => hg.block b (Nat.lt_of_lt_of_le hb2 h.dr.hH) (ne _ (by omega)), k1, k2, k3, k4, k5, Nat.le_trans h.hs hg.size⟩
  · cases hv : vp.ownBlock with
    | none => exact .inl rfl
    | some b => exact .inr (ne b (h.vpb b hv))
  · rcases hat with hat | hat
    · rw [hat]; exact h.ap
    · rw [hat]; exact .inr (own_blocks h.ot (Nat.le_refl _))
structure MdM2 (W y : World) (g : Nat) (L : Option Addr) (c : Nat) (zs : List Int) (b8 b11 db H H2 : Nat) (e0 e1 : Int) (D0 D1 : DrM) (ps : List Pr) (vp : Value) (ts : List Tr) (v1 : Value) (ns : List Int) (vn : Value) : Prop where
  o1 : ∃ u, y.cell? ⟨b11, 3, none⟩ = some u
  of : y.frozen? ⟨b11, 3, none⟩ = false
  ol : b11 < y.heap.size
  st : MdA2 W (y.setCell ⟨b11, 3, none⟩ v1) g L c zs b8 b11 db H H2 e0 e1 D0 D1 ps vp ts v1 ns vn
/-- One trip more. -/
theorem MdA2.appT (h : MdA2 W x g L c zs b8 b11 db H H2 e0 e1 D0 D1 ps vp ts vt ns vn) {v1 : Value} {t : Tr} (ho : y.ownsRow H2 120 7 v1 (ts.length + 1) (trs ts ++ [.int .i64 t.ib, .int .i64 t.im, .int .i64 t.ir, .int .i64 t.ob, .int .i64 t.om, .int .i64 t.or, .int .i64 t.mud])) (hg : x.grownBy y vt.ownBlock) (hat : v1.ownBlock = vt.ownBlock ∨ v1.ownBlock = some x.heap.size) (hn : vn.ownBlock ≠ none) : MdM2 W y g L c zs b8 b11 db H H2 e0 e1 D0 D1 ps vp (ts ++ [t]) v1 ns vn := by
  have k1 := h.gW
  have k2 := h.w8
  have k3 := h.l8
  have k4 := h.l11
  have k5 := h.lH
  have ne : ∀ b, b < H2 → some b ≠ vt.ownBlock := fun b hb e => by have := (h.ot.lt b e.symm).1; omega
  have hC : ChE y g L c zs := h.ch.keep hg.size fun k hk => hg.block k (by have := h.k11.lt; omega) (ne k (by omega))
  have h11 := h.k11.grown hg (ne _ (by omega))
  have hgr : W.grownBy y (some g) := grown_row h.gr hg fun b e => by have := (h.ot.lt b e).1; omega
  have hnt : vn.ownBlock = none ∨ vn.ownBlock ≠ vt.ownBlock := by
    rcases h.ap with e | e
    · right; rw [e]; exact hn
    · right; exact fun e' => e e'.symm
  refine ⟨⟨_, h11.cells 3 _ rfl⟩, h11.free 3, h11.lt, ⟨hC.keep (by simp [World.setCell]) fun k hk => heap_far (by omega), grown_new hgr (grownBy_setCell _ _ _ _) (by omega), (h.k8.grown hg (ne _ (by omega))).far (by omega), h11.set (j := 3) (by simp) v1, own_far (h.op.kept hg ?_) (by omega), h.vpb, ?_, own_far (h.on.kept hg hnt) (by omega), ?_, (h.dr.block hg.size fun b hb1 hb2 => hg.block b (Nat.lt_of_lt_of_le hb2 h.dr.hH) (ne _ (by omega))).block (by simp [World.setCell]) fun b hb1 hb2 => heap_far (by omega), k1, k2, k3, k4, k5, by simp [World.setCell]; exact Nat.le_trans h.hs hg.size⟩⟩
  · cases hv : vp.ownBlock with
    | none => exact .inl rfl
    | some b => exact .inr (ne b (h.vpb b hv))
  · rw [trs_app, List.length_append]
    exact own_far ho (by omega)
  · rcases hat with hat | hat
    · rw [hat]; exact h.ap
    · rw [hat]; exact .inr fun e => own_blocks h.on (Nat.le_refl _) e.symm
end
end Go.Proofs.YtcdjoegihmfanaaGreat
namespace Go.Proofs.YtcdjoegihmfanaaGreat
open Go.RowKit
set_option linter.unusedVariables false
def MdTs (e0 e1 : Int) (V : Int → Int → Int) (ns : List Int) (ts : List Tr) : Prop := ns.length = ts.length ∧ ∀ i (h : i < ts.length), (0 ≤ ns.getD i 0 ∧ ns.getD i 0 ≤ 2000) ∧ MdT e0 e1 V (ns.getD i 0) ts[i]
theorem MdTs.snoc {e0 e1 : Int} {V : Int → Int → Int} {ns : List Int} {ts : List Tr} {z : Int} {t : Tr} (h : MdTs e0 e1 V ns ts) (hz : 0 ≤ z ∧ z ≤ 2000) (ht : MdT e0 e1 V z t) : MdTs e0 e1 V (ns ++ [z]) (ts ++ [t]) := by
  refine ⟨by simp [h.1], fun i hi => ?_⟩
  rw [List.length_append, List.length_singleton] at hi
  by_cases c : i < ts.length
  · have := h.2 i c
    rw [List.getElem_append_left c]
    simpa [List.getD_eq_getElem?_getD, List.getElem?_append_left (show i < ns.length by have := h.1; omega)] using this
  · have e : i = ts.length := by omega
    subst e
    have e2 : (ns ++ [z]).getD ts.length 0 = z := by rw [← h.1]; simp [List.getD_eq_getElem?_getD]
    rw [e2]
    simpa using ⟨hz, ht⟩
def PTr (e0 e1 : Int) (V : Int → Int → Int) (z : Int) (v : Value) (w : World) : Prop := ∃ t, v = trV t ∧ MdT e0 e1 V z t
def PTb (e0 e1 : Int) (V : Int → Int → Int) (z : Int) (B : Nat) (v : Value) (w : World) : Prop := ∃ t k, v = .slice (some ⟨k, 0, none⟩) 1 1 ∧ B ≤ k ∧ Blk w k [.int .i64 t.ib, .int .i64 t.im, .int .i64 t.ir, .int .i64 t.ob, .int .i64 t.om, .int .i64 t.or, .int .i64 t.mud] ∧ MdT e0 e1 V z t
theorem stb_tr (g : Nat) (e0 e1 : Int) (V : Int → Int → Int) (z : Int) : Stb g (PTr e0 e1 V z) := fun _ _ _ h _ => h
theorem stb_tb {g B : Nat} {e0 e1 : Int} {V : Int → Int → Int} {z : Int} (h : g < B) : Stb g (PTb e0 e1 V z B) := by
  rintro v w w' ⟨t, k, e, h1, h2, h3⟩ hg
  exact ⟨t, k, e, h1, h2.grown hg (by intro e; injection e; omega), h3⟩
theorem err_at {x : World} {b n : Nat} {e0 e1 ev : Int} {u v : Value} (h : Blk x b [.int .i64 e0, .int .i64 e1, u, v]) (hn : n < 2) (he : (if n = 0 then e0 else e1) = ev) : x.cell? ⟨b, n, none⟩ = some (.int .i64 ev) := by
  subst he
  match n, hn with
  | 0, _ => exact h.cells 0 _ rfl
  | 1, _ => exact h.cells 1 _ rfl
theorem RdI.low {w : World} {l l' h : Nat} {A : Option Addr} {xs : List Value} (k : RdI w l h A xs) (hl : l' ≤ l) : RdI w l' h A xs := fun hn => by
  obtain ⟨b, off, e, h1, h2, h3⟩ := k hn
  exact ⟨b, off, e, Nat.le_trans hl h1, h2, h3⟩
/-- Ahead of the drifts. -/
structure MdA0 (W x : World) (g : Nat) (L : Option Addr) (c : Nat) (zs : List Int) (b8 b11 : Nat) (e0 e1 : Int) : Prop where
  ch : ChE x g L c zs
  gr : W.grownBy x (some g)
  k8 : Blk x b8 [.int .i64 0, .int .i64 0, .slice none 0 0, .slice none 0 0]
  k11 : Blk x b11 [.int .i64 e0, .int .i64 e1, .slice none 0 0, .slice none 0 0]
  gW : g < W.heap.size
  w8 : W.heap.size ≤ b8
  l8 : b8 < b11
section
variable {W x y : World} {g : Nat} {L : Option Addr} {c : Nat} {zs : List Int} {b8 b11 : Nat} {e0 e1 : Int}
theorem MdA0.pull (h : MdA0 W x g L c zs b8 b11 e0 e1) (hg : x.grownBy y (some g)) (hC : ChE y g L c zs) : MdA0 W y g L c zs b8 b11 e0 e1 := by
  have := h.gW
  have := h.w8
  have := h.l8
  exact ⟨hC, grownBy_trans h.gr hg, h.k8.grown hg (by intro e; injection e; omega), h.k11.grown hg (by intro e; injection e; omega), h.gW, h.w8, h.l8⟩
theorem md_ahead {w1 w2 : World} {t1 t2 : TypeId} (gl : g < W.heap.size) (hg : (W.alloc (.cells #[.int .i64 0, .int .i64 0, .slice none 0 0, .slice none 0 0] t1)).grownBy w1 (some g)) (hg2 : w1.grownBy w2 (some g)) (hC : ChE w2 g L c zs) : MdA0 W (w2.alloc (.cells #[.int .i64 e0, .int .i64 e1, .slice none 0 0, .slice none 0 0] t2)) g L c zs W.heap.size w2.heap.size e0 e1 := by
  have hgg := grownBy_trans hg hg2
  have hz := hgg.size
  simp at hz
  have hb := below_new w2 (.cells #[.int .i64 e0, .int .i64 e1, .slice none 0 0, .slice none 0 0] t2)
  have k := (Blk.new W [.int .i64 0, .int .i64 0, .slice none 0 0, .slice none 0 0] t1).grown hgg (by intro e; injection e; omega)
  exact ⟨hC.below hb, only_allocg (grownBy_trans (only_allocg (grownBy_self _ _) _) hgg) _, k.below hb, Blk.new w2 [.int .i64 e0, .int .i64 e1, .slice none 0 0, .slice none 0 0] t2, gl, Nat.le_refl _, by omega⟩
/-- The two drifts, laid in a row. -/
theorem md_first {w3 w4 : World} {D0 D1 : DrM} {t : TypeId} (h : MdA0 W w4 g L c zs b8 b11 e0 e1) (hx : b11 < x.heap.size) (hxs : x.heap.size ≤ w3.heap.size) (h0 : RdI w3 x.heap.size w3.heap.size D0.A (pairs D0.cs)) (hg : w3.grownBy w4 (some g)) (h1 : RdI w4 w3.heap.size w4.heap.size D1.A (pairs D1.cs)) :
    MdA1 W (w4.alloc (.cells #[.int .i64 D0.f, .slice D0.A D0.cs.length D0.q, .int .i64 D1.f, .slice D1.A D1.cs.length D1.q] t)) g L c zs b8 b11 w4.heap.size (w4.heap.size + 1) e0 e1 D0 D1 [] (.slice none 0 0) := by
  have hb := below_new w4 (.cells #[.int .i64 D0.f, .slice D0.A D0.cs.length D0.q, .int .i64 D1.f, .slice D1.A D1.cs.length D1.q] t)
  have hgl := h.gW
  have hw := h.w8
  have hl := h.l8
  have hs := hg.size
  have r0 : RdI w4 x.heap.size w3.heap.size D0.A (pairs D0.cs) := h0.keep fun b hb1 hb2 => hg.block b hb2 (by intro e; injection e; omega)
  have bl : ∀ b, b < w4.heap.size → (w4.alloc (.cells #[.int .i64 D0.f, .slice D0.A D0.cs.length D0.q, .int .i64 D1.f, .slice D1.A D1.cs.length D1.q] t)).heap[b]? = w4.heap[b]? := fun b hb1 => hb.block b hb1
  refine ⟨h.ch.below hb, grown_below h.gr hb, h.k8.below hb, h.k11.below hb, World.ownsRow_nil _ _ _ _, ⟨Blk.new w4 [.int .i64 D0.f, .slice D0.A D0.cs.length D0.q, .int .i64 D1.f, .slice D1.A D1.cs.length D1.q] t, ?_, ?_, by omega, by omega, by simp⟩, hgl, hw, hl, by omega⟩
  · exact ((r0.keep fun b _ hb2 => bl b (by omega)).low (by omega)).more (by omega)
  · exact ((h1.keep fun b _ hb2 => bl b hb2).low (by omega)).more (by omega)
end
theorem pv_md {kn : Nat} {ev e0 e1 : Int} {D0 D1 D : DrM} {p : Pr} (h : PvP (kn : Nat) ev D.f D.cs p) (hD : pickD D0 D1 kn = D) (he : (if kn = 0 then e0 else e1) = ev) (hk : kn < 2) : MdP e0 e1 (valB D0.f D0.cs D1.f D1.cs) p := by
  subst hD he
  have hb := h.b
  refine ⟨by rw [hb]; omega, h.m, h.k, ?_⟩
  have hr := h.r
  rw [hb, pickD_val]
  have e : (if ((kn : Nat) : Int) = 0 then e0 else e1) = if kn = 0 then e0 else e1 := by by_cases c : kn = 0 <;> simp [c]
  rw [e]
  exact hr
/-- What Made leaves in memory. -/
structure MadeM (W x : World) (g : Nat) (L : Option Addr) (c : Nat) (zs : List Int) (db : Nat) (D0 D1 : DrM) (ps : List Pr) (vp : Value) (ts : List Tr) (vt : Value) (ns : List Int) (vn : Value) : Prop where
  ch : ChE x g L c zs
  gr : W.grownBy x (some g)
  op : x.ownsRow W.heap.size 57 4 vp ps.length (prs ps)
  ot : x.ownsRow W.heap.size 120 7 vt ts.length (trs ts)
  on : x.ownsRow W.heap.size 3 1 vn ns.length (ints ns)
  dr : DrL x W.heap.size x.heap.size db D0 D1
def MadePost (g : Nat) (L : Option Addr) (c : Nat) (zs : List Int) (P T Q : Int) (W : World) (e : Ending) (w' : World) : Prop :=
  ∃ (e0 e1 : Int) (D0 D1 : DrM) (db : Nat) (ps : List Pr) (vp : Value) (ts : List Tr) (vt : Value) (ns : List Int) (vn : Value), e = .returned (.tuple #[bkV e0 e1 vp vt, .slice (some ⟨db, 0, none⟩) 2 2, vn]) ∧ MdPs e0 e1 (valB D0.f D0.cs D1.f D1.cs) ps ∧ MdTs e0 e1 (valB D0.f D0.cs D1.f D1.cs) ns ts ∧ MdD Q D0.f D0.cs ∧ MdD Q D1.f D1.cs ∧ (ps.length : Int) ≤ P ∧ (ts.length : Int) ≤ T ∧ MadeM W w' g L c zs db D0 D1 ps vp ts vt ns vn
set_option maxRecDepth 100000 in
set_option maxHeartbeats 16000000 in
theorem made_any (g : Nat) (L : Option Addr) (c : Nat) (zs : List Int) (P T Q : Int) (w : World) (hC : ChE w g L c zs) (hP : 0 ≤ P ∧ P ≤ 10) (hT : 0 ≤ T ∧ T ≤ 4) (hQ : 0 ≤ Q ∧ Q ≤ 10) :
    Calls Tryz.prog 28 #[.pointer (some ⟨g, 0, none⟩), .int .i64 P, .int .i64 T, .int .i64 Q] w (MadePost g L c zs P T Q w) := by
  obtain ⟨i0, hi, hz0, hz1, hz2⟩ := info_parts infoProof
  obtain ⟨i1, ti, tz0, tz1, tz2⟩ := info_parts infoTrip
  obtain ⟨i2, ni, nz0, nz1, nz2⟩ := info_parts infoInt
  obtain ⟨hP0, hP1⟩ := hP
  obtain ⟨hT0, hT1⟩ := hT
  have gl := hC.lt
  go_enter Tryz.func28, Tryz.ntmps28
  go_wp2_with fail
  refine (pullE_any g L c zs _ _ (hC.below (below_new _ _)) (by omega)).mono ?_
  rintro e w1 ⟨e0, rfl, _, he, hC1, hg1⟩
  obtain ⟨he0, he01⟩ := he (by omega)
  have HG1 := Lib.hid hg1
  clear he hg1 hC
  go_wp2_with fail
  refine (pullE_any g L c zs _ _ hC1 (by omega)).mono ?_
  rintro e w2 ⟨e1, rfl, _, he, hC2, hg2⟩
  obtain ⟨he1, he11⟩ := he (by omega)
  have HM := Lib.hid (md_ahead (e0 := e0) (e1 := e1) (t2 := 26) gl HG1.out hg2 hC2)
  have he01 : e0 ≤ 3 := by omega
  have he11 : e1 ≤ 3 := by omega
  clear he hg2 HG1 hC1 hC2
  go_wp2_with fail
  generalize World.alloc w2 _ = W2 at HM ⊢
  generalize w2.heap.size = b11 at HM ⊢
  refine (madeDrift_any g L c zs Q W2 HM.out.ch hQ).mono ?_
  rintro e w3 ⟨f0, c0, v0, rfl, hd0, ho0, hC3, hg3⟩
  obtain ⟨A0, q0, rfl, _, hr0⟩ := own_sliceI ho0
  have HR0 := Lib.hid hr0
  have HM3 := Lib.hid (HM.out.pull hg3 hC3)
  have hs3 := hg3.size
  have hl11 := HM.out.k11.lt
  clear HM hC3 hg3 ho0 hr0
  unfold drV
  go_wp2_with fail
  refine (madeDrift_any g L c zs Q w3 HM3.out.ch hQ).mono ?_
  rintro e w4 ⟨f1, c1, v1, rfl, hd1, ho1, hC4, hg4⟩
  obtain ⟨A1, q1, rfl, _, hr1⟩ := own_sliceI ho1
  have HM4 := Lib.hid (HM3.out.pull hg4 hC4)
  have HA := Lib.hid (md_first (D0 := ⟨f0, A0, q0, c0⟩) (D1 := ⟨f1, A1, q1, c1⟩) (t := 61) HM4.out hl11 hs3 HR0.out hg4 hr1)
  have HD0 := Lib.hid hd0
  have HD1 := Lib.hid hd1
  clear HM3 HM4 hC4 hg4 ho1 hr1 HR0 hd0 hd1 hs3 hl11
  unfold drV
  go_wp2_with fail
  change Hid (MdA1 w (World.alloc w4 (.cells #[.int .i64 f0, .slice A0 c0.length q0, .int .i64 f1, .slice A1 c1.length q1] 61)) g L c zs _ _ _ _ e0 e1 _ _ _ _) at HA
  generalize World.alloc w4 _ = W4 at HA ⊢
  obtain ⟨H, hH⟩ : ∃ H, Hid (H = w4.heap.size + 1) := ⟨_, Lib.hid rfl⟩
  rw [← hH.out] at HA
  generalize w4.heap.size = db at HA ⊢
  obtain ⟨D0, hD0⟩ : ∃ D : DrM, Hid (D = ⟨f0, A0, q0, c0⟩) := ⟨_, Lib.hid rfl⟩
  obtain ⟨D1, hD1⟩ : ∃ D : DrM, Hid (D = ⟨f1, A1, q1, c1⟩) := ⟨_, Lib.hid rfl⟩
  rw [← hD0.out, ← hD1.out] at HA
  have HD0 : Hid (MdD Q D0.f D0.cs) := Lib.hid (by rw [hD0.out]; exact HD0.out)
  have HD1 : Hid (MdD Q D1.f D1.cs) := Lib.hid (by rw [hD1.out]; exact HD1.out)
  clear hH hD0 hD1
  refine (pullE_any g L c zs _ _ HA.out.ch (by omega)).mono ?_
  rintro e w5 ⟨nn, rfl, hn1, hn2, hC5, hg5⟩
  have hnn : 0 ≤ nn ∧ nn ≤ P := by omega
  obtain ⟨n0, n1⟩ := hnn
  have M0 := Lib.hid (HA.out.pull hg5 hC5)
  have HQ0 := Lib.hid (show MdPs e0 e1 (valB D0.f D0.cs D1.f D1.cs) [] from ⟨⟨he0, he01⟩, ⟨he1, he11⟩, fun p hp => absurd hp (by simp), fun i j _ hj => absurd hj (by simp)⟩)
  obtain ⟨b8, hb8⟩ : ∃ b, Hid (b = w.heap.size) := ⟨_, Lib.hid rfl⟩
  rw [← hb8.out] at M0 ⊢
  have hb8' : Hid (w.heap.size ≤ b8) := Lib.hid (by rw [hb8.out]; exact Nat.le_refl _)
  clear HA hn1 hn2 hC5 hg5
  go_wp2_with fail
  go_loopw [33] (fun iv wr => ∃ (k : Nat) (ps : List Pr) (vp : Value), iv = .int .i64 (k : Nat) ∧ (k : Int) ≤ nn ∧ ps.length ≤ k ∧ Hid (MdA1 w wr g L c zs b8 b11 db H e0 e1 D0 D1 ps vp) ∧ Hid (MdPs e0 e1 (valB D0.f D0.cs D1.f D1.cs) ps)) (fun i _ => nn.toNat - (intOf i).toNat)
  case atStart => exact ⟨0, [], _, rfl, by omega, by simp, M0, HQ0⟩
  case round =>
    obtain ⟨k, ps, vp, rfl, hk, hpl, HM, HP0⟩ := hrel
    by_cases hlt : (k : Int) < nn
    · go_wp2_with fail
      refine (pullE_any g L c zs _ _ HM.out.ch (by omega)).mono ?_
      rintro e w6 ⟨n, rfl, _, hn, hC6, hg6⟩
      obtain ⟨hn0, hn1⟩ := hn (by omega)
      obtain ⟨kn, rfl⟩ : ∃ kn : Nat, n = (kn : Nat) := ⟨n.toNat, by omega⟩
      have hkn : kn < 2 := by omega
      have HM6 := Lib.hid (HM.out.pull hg6 hC6)
      clear hn hC6 hg6 HM
      go_wp2_with fail
      have HS3 := Lib.hid (HM6.out.alloc (.cells #[.int .i64 (kn : Nat)] 3))
      have hB13 := Blk.new w6 [.int .i64 (kn : Nat)] 3
      change Blk (World.alloc w6 (.cells #[.int .i64 (kn : Nat)] 3)) _ _ at hB13
      have hH6 := HM6.out.dr.hH
      clear HM6
      generalize World.alloc w6 _ = W3 at HS3 hB13 ⊢
      generalize w6.heap.size = b13 at hB13 hH6 ⊢
      have HB13 := Lib.hid hB13
      have hl13 := hB13.lt
      clear hB13
      obtain ⟨B3, hB3e⟩ : ∃ B, Hid (B = W3.heap.size) := ⟨_, Lib.hid rfl⟩
      have hB3 : B3 ≤ W3.heap.size := by rw [hB3e.out]; exact Nat.le_refl _
      have hB3' : W3.heap.size ≤ B3 := by rw [hB3e.out]; exact Nat.le_refl _
      have hgW := HS3.out.gW
      have hw8 := HS3.out.w8
      have hl8 := HS3.out.l8
      have hlH := HS3.out.l11
      have hgb : g ≤ b11 := by omega
      have hgB : g < B3 := by omega
      obtain ⟨D, HDK⟩ : ∃ D, Hid (pickD D0 D1 kn = D) := ⟨_, Lib.hid rfl⟩
      obtain ⟨ev, HEK⟩ : ∃ ev, Hid ((if kn = 0 then e0 else e1) = ev) := ⟨_, Lib.hid rfl⟩
      have hev : 0 ≤ ev ∧ ev ≤ 3 := by rw [← HEK.out]; split <;> omega
      obtain ⟨hev0, hev1⟩ := hev
      have hDl : D.cs.length ≤ 1000 := by rw [← HDK.out]; exact pickD_len HD0.out HD1.out _
      have hDv : ∀ m, -50 ≤ valueD D.f D.cs m ∧ valueD D.f D.cs m ≤ 50 := fun m => by rw [← HDK.out]; have := pickD_bd HD0.out HD1.out kn m; omega
      refine wp_inv 12 (by kernel_rfl) (by kernel_rfl) (by kernel_rfl) (by decide) (FL [PEq (.pointer (some ⟨g, 0, none⟩)), PEq (.slice (some ⟨db, 0, none⟩) 2 2), PEq (.int .i64 (kn : Nat)), PEq (.pointer (some ⟨db, kn * 2, none⟩)), PEq (.agg #[.int .i64 D.f, .slice D.A D.cs.length D.q]), PEq (.int .i64 (kn : Nat)), PEq (.int .i64 (kn : Nat)), PEq (.pointer (some ⟨b11, 0, none⟩)), PEq (.pointer (some ⟨b11, kn, none⟩)), PEq (.int .i64 ev), PPr (kn : Nat) ev D.f D.cs, PBlk B3 [.int .i64 0, .int .i64 0, .int .i64 0, .int .i64 0]])
        (fun x => MdA1 w x g L c zs b8 b11 db H e0 e1 D0 D1 ps vp ∧ Blk x b13 [.int .i64 (kn : Nat)] ∧ B3 ≤ x.heap.size) (fun x y => x.grownBy y (some g)) (FL.keep (g := g) (by simp [stb_eq, stb_pr, stb_blkG hgB])) ⟨HS3.out.drewN 1, HB13.out.drewN 1, hB3⟩ ?_ ?_
      · intro iq o hi' ho listed vals a w5 hdep hM hAt K hK
        have HI := Lib.hid hM.inv
        match iq, hi' with
        | 0, _ =>
          injection ho with ho
          subst ho
          obtain ⟨e0, e0'⟩ := hAt.slot 0 (by kernel_rfl) (by rfl)
          go_simp
          exact hK _ w5 (grownBy_self _ _) HI.out rfl
        | 1, _ =>
          injection ho with ho
          subst ho
          obtain ⟨e12, e12'⟩ := hAt.slot 12 (by kernel_rfl) (by rfl)
          go_simp
          exact hK _ w5 (grownBy_self _ _) HI.out rfl
        | 2, _ =>
          injection ho with ho
          subst ho
          obtain ⟨e13, e13'⟩ := hAt.slot 13 (by kernel_rfl) (by rfl)
          have q0 := HI.out.2.1.cells 0 _ rfl
          have q1 := HI.out.2.1.lt
          go_simp
          exact hK _ w5 (grownBy_self _ _) HI.out rfl
        | 3, _ =>
          injection ho with ho
          subst ho
          have l1 := hdep ⟨1, .data⟩ (by simp) rfl
          obtain ⟨x1, x1'⟩ := hAt.dep 1 (d := 38) (by omega) l1 (by rfl) (hM.fact 1 (by omega) l1)
          have l2 := hdep ⟨2, .data⟩ (by simp) rfl
          obtain ⟨x2, x2'⟩ := hAt.dep 2 (d := 39) (by omega) l2 (by rfl) (hM.fact 2 (by omega) l2)
          have n0 : (0 : Int) ≤ (kn : Int) := by omega
          have n1 : (kn : Int) < 2 := by omega
          go_simp
          exact hK _ w5 (grownBy_self _ _) HI.out rfl
        | 4, _ =>
          injection ho with ho
          subst ho
          have l3 := hdep ⟨3, .data⟩ (by simp) rfl
          obtain ⟨x3, x3'⟩ := hAt.dep 3 (d := 40) (by omega) l3 (by rfl) (hM.fact 3 (by omega) l3)
          obtain ⟨q0, q1, q2⟩ := HI.out.1.dr.pick hkn HDK.out
          go_simp
          exact hK _ w5 (grownBy_self _ _) HI.out rfl
        | 5, _ =>
          injection ho with ho
          subst ho
          obtain ⟨e13, e13'⟩ := hAt.slot 13 (by kernel_rfl) (by rfl)
          have q0 := HI.out.2.1.cells 0 _ rfl
          have q1 := HI.out.2.1.lt
          go_simp
          exact hK _ w5 (grownBy_self _ _) HI.out rfl
        | 6, _ =>
          injection ho with ho
          subst ho
          obtain ⟨e13, e13'⟩ := hAt.slot 13 (by kernel_rfl) (by rfl)
          have q0 := HI.out.2.1.cells 0 _ rfl
          have q1 := HI.out.2.1.lt
          go_simp
          exact hK _ w5 (grownBy_self _ _) HI.out rfl
        | 7, _ =>
          injection ho with ho
          subst ho
          obtain ⟨e11, e11'⟩ := hAt.slot 11 (by kernel_rfl) (by rfl)
          go_simp
          exact hK _ w5 (grownBy_self _ _) HI.out rfl
        | 8, _ =>
          injection ho with ho
          subst ho
          have l7 := hdep ⟨7, .data⟩ (by simp) rfl
          obtain ⟨x7, x7'⟩ := hAt.dep 7 (d := 44) (by omega) l7 (by rfl) (hM.fact 7 (by omega) l7)
          have l6 := hdep ⟨6, .data⟩ (by simp) rfl
          obtain ⟨x6, x6'⟩ := hAt.dep 6 (d := 43) (by omega) l6 (by rfl) (hM.fact 6 (by omega) l6)
          have n0 : (0 : Int) ≤ (kn : Int) := by omega
          have n1 : (kn : Int) < 2 := by omega
          go_simp
          exact hK _ w5 (grownBy_self _ _) HI.out rfl
        | 9, _ =>
          injection ho with ho
          subst ho
          have l8 := hdep ⟨8, .data⟩ (by simp) rfl
          obtain ⟨x8, x8'⟩ := hAt.dep 8 (d := 45) (by omega) l8 (by rfl) (hM.fact 8 (by omega) l8)
          have q0 := err_at HI.out.1.k11 hkn HEK.out
          have q1 := HI.out.1.k11.lt
          go_simp
          exact hK _ w5 (grownBy_self _ _) HI.out rfl
        | 10, _ =>
          injection ho with ho
          subst ho
          have l0 := hdep ⟨0, .data⟩ (by simp) rfl
          obtain ⟨x0, x0'⟩ := hAt.dep 0 (d := 37) (by omega) l0 (by rfl) (hM.fact 0 (by omega) l0)
          have l4 := hdep ⟨4, .data⟩ (by simp) rfl
          obtain ⟨x4, x4'⟩ := hAt.dep 4 (d := 41) (by omega) l4 (by rfl) (hM.fact 4 (by omega) l4)
          have l5 := hdep ⟨5, .data⟩ (by simp) rfl
          obtain ⟨x5, x5'⟩ := hAt.dep 5 (d := 42) (by omega) l5 (by rfl) (hM.fact 5 (by omega) l5)
          have l9 := hdep ⟨9, .data⟩ (by simp) rfl
          obtain ⟨x9, x9'⟩ := hAt.dep 9 (d := 46) (by omega) l9 (by rfl) (hM.fact 9 (by omega) l9)
          go_simp
          refine (proved_any g L c zs D.f D.A D.q D.cs (kn : Nat) ev w5 HI.out.1.ch ((HI.out.1.dr.low hgb).pickI HDK.out) hDl hDv ⟨hev0, by omega⟩).mono ?_
          rintro e w6 ⟨p6, rfl, p61, p62, p63, p64, hC6, hg6⟩
          exact hK _ w6 hg6 ⟨HI.out.1.pull hg6 hC6, HI.out.2.1.grown hg6 (by intro e; injection e; omega), Nat.le_trans HI.out.2.2 hg6.size⟩ ⟨p6, rfl, p61, p62, p63, p64⟩
        | 11, _ =>
          injection ho with ho
          subst ho
          go_simp
          exact hK _ _ (only_allocg (grownBy_self _ _) _) ⟨HI.out.1.alloc _, HI.out.2.1.alloc _, by simp; have := HI.out.2.2; omega⟩ ⟨w5.heap.size, rfl, HI.out.2.2, Blk.new w5 [.int .i64 0, .int .i64 0, .int .i64 0, .int .i64 0] _⟩
        | jq + 12, hq => exact absurd hq (by omega)
      · intro vals w5 hM
        have HI := Lib.hid hM.inv
        have f0 : vals 0 = .pointer (some ⟨g, 0, none⟩) := hM.all (by decide) 0 (by omega)
        have f1 : vals 1 = .slice (some ⟨db, 0, none⟩) 2 2 := hM.all (by decide) 1 (by omega)
        have f2 : vals 2 = .int .i64 (kn : Nat) := hM.all (by decide) 2 (by omega)
        have f3 : vals 3 = .pointer (some ⟨db, kn * 2, none⟩) := hM.all (by decide) 3 (by omega)
        have f4 : vals 4 = .agg #[.int .i64 D.f, .slice D.A D.cs.length D.q] := hM.all (by decide) 4 (by omega)
        have f5 : vals 5 = .int .i64 (kn : Nat) := hM.all (by decide) 5 (by omega)
        have f6 : vals 6 = .int .i64 (kn : Nat) := hM.all (by decide) 6 (by omega)
        have f7 : vals 7 = .pointer (some ⟨b11, 0, none⟩) := hM.all (by decide) 7 (by omega)
        have f8 : vals 8 = .pointer (some ⟨b11, kn, none⟩) := hM.all (by decide) 8 (by omega)
        have f9 : vals 9 = .int .i64 ev := hM.all (by decide) 9 (by omega)
        obtain ⟨p, f10, hp⟩ := hM.all (by decide) 10 (by omega)
        obtain ⟨k14, f11, g11, h11⟩ := hM.all (by decide) 11 (by omega)
        clear hM
        simp only [putAll, List.range, List.range.loop, List.foldl_cons, List.foldl_nil, f0, f1, f2, f3, f4, f5, f6, f7, f8, f9, f10, f11]
        clear f0 f1 f2 f3 f4 f5 f6 f7 f8 f9 f10 f11
        change wpAny _ _ _ _ _ _ (Act.put (Act.put (Act.put (Act.put (Act.put (Act.put (Act.put (Act.put (Act.put (Act.put (Act.put (Act.put _ (some 37) _) (some 38) _) (some 39) _) (some 40) _) (some 41) _) (some 42) _) (some 43) _) (some 44) _) (some 45) _) (some 46) _) (some 47) _) (some 14) _) _
        simp only [Act.put, List.setIfInBounds_toArray, List.set_cons_zero, List.set_cons_succ]
        refine tail_step 12 _ (by kernel_rfl) rfl rfl (fun K' hK => ?_)
        have q0 := h11.cells 0 _ rfl
        have q1 := h11.cells 1 _ rfl
        have q2 := h11.cells 2 _ rfl
        have q3 := h11.cells 3 _ rfl
        have z0 := h11.free 0
        have z1 := h11.free 1
        have z2 := h11.free 2
        have z3 := h11.free 3
        have zl := h11.lt
        unfold prV
        go_simp
        refine hK _ _ ?_
        clear hK K' q0 q1 q2 q3 z0 z1 z2 z3 zl
        refine wpAny_done (by kernel_rfl) ?_ _
        have hHk : H ≤ k14 := by have := HS3.out.dr.hH; omega
        have hvk : vp.ownBlock ≠ some k14 := fun e => by have := (HS3.out.op.lt _ e).2; omega
        have B14 := (((h11.set (j := 0) (by simp) (.int .i64 p.b)).set (j := 1) (by simp) (.int .i64 p.m)).set (j := 2) (by simp) (.int .i64 p.k)).set (j := 3) (by simp) (.int .i64 p.r)
        have S4 := (((HI.out.1.far (o := 0) (u := .int .i64 p.b) hHk hvk).far (o := 1) (u := .int .i64 p.m) hHk hvk).far (o := 2) (u := .int .i64 p.k) hHk hvk).far (o := 3) (u := .int .i64 p.r) hHk hvk
        have hbk : b13 ≠ k14 := by omega
        have B13' := (((HI.out.2.1.far (c := k14) (o := 0) (v := .int .i64 p.b) hbk).far (c := k14) (o := 1) (v := .int .i64 p.m) hbk).far (c := k14) (o := 2) (v := .int .i64 p.k) hbk).far (c := k14) (o := 3) (v := .int .i64 p.r) hbk
        have HP := Lib.hid hp
        clear HI hp h11 HB13 HS3 hDv
        generalize World.setCell _ ⟨k14, 3, none⟩ _ = W5 at B14 S4 B13' ⊢
        have HS := Lib.hid S4
        have HB14 : Hid (Blk W5 k14 [.int .i64 p.b, .int .i64 p.m, .int .i64 p.k, .int .i64 p.r]) := Lib.hid B14
        have HB13 := Lib.hid B13'
        clear S4 B14 B13'
        obtain ⟨AV, cv, rfl, hcv, hrd⟩ := own_slice HS.out.op
        obtain ⟨bb, HBB⟩ : ∃ bb, Hid (ps.any (atBM (kn : Nat) p.m) = bb) := ⟨_, Lib.hid rfl⟩
        have hpl2 : ps.length ≤ 1000 := by omega
        have HC := containsProof_any AV cv ps 105 #[.pointer (some ⟨b13, 0, none⟩), .pointer (some ⟨k14, 0, none⟩)] (enters_of Tryz.func105 (by kernel_rfl) rfl) (atBM (kn : Nat) p.m) W5 hrd hpl2 (predMade (kn : Nat) p b13 k14 ps W5 HB13.out HB14.out)
        rw [HBB.out] at HC
        have HC := Lib.hid HC
        have y2 := HS.out.k11.cells 2 _ rfl
        have l11 := HS.out.k11.lt
        clear hrd HB13 hpl2
        go_wp2_with fail
        refine HC.out.mono ?_
        rintro e w7 ⟨rfl, hb7⟩
        have HS7 := Lib.hid (HS.out.below hb7)
        have HB7 := Lib.hid (HB14.out.below hb7)
        clear HC HS HB14 hb7 y2 l11
        cases bb
        · have HQ2 : Hid (MdPs e0 e1 (valB D0.f D0.cs D1.f D1.cs) (ps ++ [p])) := Lib.hid (HP0.out.snoc (pv_md HP.out HDK.out HEK.out hkn) fun q hq hh => by
            have h0 : atBM (kn : Nat) p.m q = true := by simp [atBM, hh.1, hh.2, HP.out.b]
            have := HBB.out
            rw [List.any_eq_false] at this
            exact this q hq h0)
          have y2 := HS7.out.k11.cells 2 _ rfl
          have l11 := HS7.out.k11.lt
          have x0 := HB7.out.cells 0 _ rfl
          have x1 := HB7.out.cells 1 _ rfl
          have x2 := HB7.out.cells 2 _ rfl
          have x3 := HB7.out.cells 3 _ rfl
          have lk := HB7.out.lt
          have hH7 := HS7.out.dr.hH
          have HA7 := Lib.hid (HS7.out.alloc (.cells #[.int .i64 p.b, .int .i64 p.m, .int .i64 p.k, .int .i64 p.r] 57))
          clear HBB HP
          go_wp2_with (at_builtin; refine wpList_append_own_at _ rfl _ _ 23 rfl H 57 i0 _ 4 32 Tryz.underlying23 hi hz0 hz1 hz2 rfl (by decide) _ _ _ rfl HA7.out.op ⟨w7.heap.size, 0, none⟩ 1 1 [.int .i64 p.b, .int .i64 p.m, .int .i64 p.k, .int .i64 p.r] rfl rfl (news_new _ _ _ rfl) (by simp [Value.oneCell']) (by simp only [maxLen]; omega) (by omega) (by simp; omega) ?_; intro v1 w8 hown1 hgrow1 _ hat1; obtain ⟨B1, cc1, rfl, _, _⟩ := own_slice hown1; have M := HA7.out.app (p := p) hown1 hgrow1; obtain ⟨u1', m1⟩ := M.o1; have m2 := M.of; have m3 := M.ol; have M2 := Lib.hid M.st; clear M hown1 hgrow1 hat1)
          go_roundw
          case rel => exact ⟨k + 1, ps ++ [p], _, by go_num, by omega, by rw [List.length_append]; simp; omega, by first | exact M2 | (rw [List.length_append]; exact M2), HQ2⟩
          case measure => simp [intOf]; omega
        · clear HBB HP HB7
          go_wp2_with fail
          go_roundw
          case rel => exact ⟨k + 1, ps, _, by go_num, by omega, by omega, HS7, HP0⟩
          case measure => simp [intOf]; omega
    ·
      obtain ⟨H2, hH2⟩ : ∃ H2, Hid (wr.heap.size = H2) := ⟨_, Lib.hid rfl⟩
      have HM2 := Lib.hid (HM.out.two hH2.out)
      have HPL : Hid ((ps.length : Int) ≤ P) := Lib.hid (by omega)
      clear HM hH2
      go_wp2_with fail
      refine (pullE_any g L c zs _ _ HM2.out.ch (by omega)).mono ?_
      rintro e w6 ⟨mm, rfl, hn1, hn2, hC6, hg6⟩
      have hmm : 0 ≤ mm ∧ mm ≤ T := by omega
      obtain ⟨m0, m1⟩ := hmm
      have HM3 := Lib.hid (HM2.out.pull hg6 hC6)
      have HT0 := Lib.hid (show MdTs e0 e1 (valB D0.f D0.cs D1.f D1.cs) [] [] from ⟨rfl, fun i h => absurd h (by simp)⟩)
      clear HM2 hn1 hn2 hC6 hg6
      go_wp2_with fail
      go_loopw [15, 64] (fun nv iv wr => ∃ (k : Nat) (ts : List Tr) (vt : Value) (ns : List Int) (vn : Value), iv = .int .i64 (k : Nat) ∧ (k : Int) ≤ mm ∧ ts.length ≤ k ∧ nv = vn ∧ Hid (MdA2 w wr g L c zs b8 b11 db H H2 e0 e1 D0 D1 ps vp ts vt ns vn) ∧ Hid (MdTs e0 e1 (valB D0.f D0.cs D1.f D1.cs) ns ts)) (fun _ i _ => mm.toNat - (intOf i).toNat)
      case atStart => exact ⟨0, [], _, [], _, rfl, by omega, by simp, rfl, HM3, HT0⟩
      case round =>
        obtain ⟨k, ts, vt, ns, vn, rfl, hk, htl, rfl, HM, HT⟩ := hrel
        obtain ⟨nl, hnl⟩ : ∃ nl, Hid (ns.length = nl) := ⟨_, Lib.hid rfl⟩
        have hnt : Hid (nl = ts.length) := Lib.hid (by rw [← hnl.out]; exact HT.out.1)
        obtain ⟨AP, cp, rfl, _, _⟩ := own_slice HM.out.op
        obtain ⟨AT, ct, rfl, _, _⟩ := own_slice HM.out.ot
        obtain ⟨AN, cn0, rfl, _, _⟩ := own_slice HM.out.on
        by_cases hlt : (k : Int) < mm
        · go_wp2_with fail
          refine (pullE_any g L c zs _ _ HM.out.ch (by omega)).mono ?_
          rintro e w7 ⟨r, rfl, _, hr, hC7, hg7⟩
          obtain ⟨hr0, hr1⟩ := hr (by omega)
          have HM7 := Lib.hid (HM.out.pull hg7 hC7)
          clear hr hC7 hg7 HM
          obtain ⟨z, hz⟩ : ∃ z, Hid (10 * r = z) := ⟨_, Lib.hid rfl⟩
          have hz0 : 0 ≤ z := by have := hz.out; omega
          have hz1' : z ≤ 2000 := by have := hz.out; omega
          have hzr : 10 * r = z := hz.out
          have hH7 : H2 ≤ w7.heap.size := HM7.out.hs
          have hns : ns.length ≤ 4 := by have := hnl.out; have := hnt.out; omega
          have hnl4 : nl ≤ 4 := by have := hnt.out; omega
          have HA7 := Lib.hid (HM7.out.alloc (.cells #[.int .i64 z] 3))
          clear hz
          go_wp2_with (at_builtin; refine wpList_append_own_at _ rfl _ _ 41 rfl H2 3 i2 _ 1 8 Tryz.underlying41 ni nz0 nz1 nz2 rfl (by decide) _ _ _ rfl HA7.out.on ⟨w7.heap.size, 0, none⟩ 1 1 [.int .i64 z] rfl rfl (news_new _ _ _ rfl) (by simp [Value.oneCell']) (by simp only [maxLen]; omega) (by omega) (by simp; omega) ?_; intro v1 w8 hown1 hgrow1 _ hat1; have M := HA7.out.appN hown1 hgrow1 hat1; obtain ⟨nb, cn, rfl, _, _⟩ := hown1.form (by omega); clear hgrow1 hat1 hown1)
          rw [hnl.out] at M ⊢
          obtain ⟨ns2, HN2⟩ : ∃ ns2, Hid (ns ++ [z] = ns2) := ⟨_, Lib.hid rfl⟩
          rw [HN2.out] at M
          have HNL : Hid (ns2.length = nl + 1) := Lib.hid (by rw [← HN2.out]; simp [hnl.out])
          have HS3 := Lib.hid M
          have HNZ : ∀ x, MdA2 w x g L c zs b8 b11 db H H2 e0 e1 D0 D1 ps (.slice AP ps.length cp) ts (.slice AT ts.length ct) ns2 (.slice (some ⟨nb, 0, none⟩) (nl + 1) cn) → x.cell? ⟨nb, nl, none⟩ = some (.int .i64 z) := fun x h => by
            have k := h.on
            rw [HNL.out] at k
            refine own_cells k nl _ ?_
            rw [← HN2.out, ints_app, List.getElem?_append_right (by rw [ints_length, hnl.out]; omega), ints_length, hnl.out]
            simp
          clear M HA7 HM7 hzr hns hH7
          obtain ⟨B3, hB3e⟩ : ∃ B, Hid (B = w8.heap.size) := ⟨_, Lib.hid rfl⟩
          have hB3 : B3 ≤ w8.heap.size := by rw [hB3e.out]; exact Nat.le_refl _
          have hH3 : H2 ≤ B3 := by rw [hB3e.out]; exact HS3.out.hs
          have hgW := HS3.out.gW
          have hw8 := HS3.out.w8
          have hl8 := HS3.out.l8
          have hlH := HS3.out.l11
          have hlH2 := HS3.out.lH
          have hgb : g ≤ b11 := by omega
          have hgB : g < B3 := by omega
          have hd0 := HD0.out
          have hd1 := HD1.out
          refine wp_inv 13 (by kernel_rfl) (by kernel_rfl) (by kernel_rfl) (by decide) (FL [PEq (.pointer (some ⟨b11, 3, none⟩)), PEq (.slice AT ts.length ct), PEq (.pointer (some ⟨g, 0, none⟩)), PEq (.agg #[.int .i64 e0, .int .i64 e1, .slice AP ps.length cp, .slice AT ts.length ct]), PEq (.slice (some ⟨db, 0, none⟩) 2 2), PEq (.slice (some ⟨nb, 0, none⟩) (nl + 1) cn), PEq (.slice (some ⟨nb, 0, none⟩) (nl + 1) cn), PEq (.int .i64 ((nl : Int) + 1)), PEq (.int .i64 (nl : Nat)), PEq (.pointer (some ⟨nb, nl, none⟩)), PEq (.int .i64 z), PTr e0 e1 (valB D0.f D0.cs D1.f D1.cs) z, PTb e0 e1 (valB D0.f D0.cs D1.f D1.cs) z B3])
            (fun x => MdA2 w x g L c zs b8 b11 db H H2 e0 e1 D0 D1 ps (.slice AP ps.length cp) ts (.slice AT ts.length ct) ns2 (.slice (some ⟨nb, 0, none⟩) (nl + 1) cn) ∧ B3 ≤ x.heap.size) (fun x y => x.grownBy y (some g)) (FL.keep (g := g) (by simp [stb_eq, stb_tr, stb_tb hgB])) ⟨HS3.out.drewN 1, hB3⟩ ?_ ?_
          · intro iq o hi' ho listed vals a w5 hdep hM hAt K hK
            have HI := Lib.hid hM.inv
            match iq, hi' with
            | 0, _ =>
              injection ho with ho
              subst ho
              obtain ⟨e11, e11'⟩ := hAt.slot 11 (by kernel_rfl) (by rfl)
              go_simp
              exact hK _ w5 (grownBy_self _ _) HI.out rfl
            | 1, _ =>
              injection ho with ho
              subst ho
              have l0 := hdep ⟨0, .data⟩ (by simp) rfl
              obtain ⟨x0, x0'⟩ := hAt.dep 0 (d := 72) (by omega) l0 (by rfl) (hM.fact 0 (by omega) l0)
              have q0 := HI.out.1.k11.cells 0 _ rfl
              have q1 := HI.out.1.k11.cells 1 _ rfl
              have q2 := HI.out.1.k11.cells 2 _ rfl
              have q3 := HI.out.1.k11.cells 3 _ rfl
              have q4 := HI.out.1.k11.lt
              go_simp
              exact hK _ w5 (grownBy_self _ _) HI.out rfl
            | 2, _ =>
              injection ho with ho
              subst ho
              obtain ⟨e0, e0'⟩ := hAt.slot 0 (by kernel_rfl) (by rfl)
              go_simp
              exact hK _ w5 (grownBy_self _ _) HI.out rfl
            | 3, _ =>
              injection ho with ho
              subst ho
              obtain ⟨e11, e11'⟩ := hAt.slot 11 (by kernel_rfl) (by rfl)
              have q0 := HI.out.1.k11.cells 0 _ rfl
              have q1 := HI.out.1.k11.cells 1 _ rfl
              have q2 := HI.out.1.k11.cells 2 _ rfl
              have q3 := HI.out.1.k11.cells 3 _ rfl
              have q4 := HI.out.1.k11.lt
              go_simp
              exact hK _ w5 (grownBy_self _ _) HI.out rfl
            | 4, _ =>
              injection ho with ho
              subst ho
              obtain ⟨e12, e12'⟩ := hAt.slot 12 (by kernel_rfl) (by rfl)
              go_simp
              exact hK _ w5 (grownBy_self _ _) HI.out rfl
            | 5, _ =>
              injection ho with ho
              subst ho
              obtain ⟨e15, e15'⟩ := hAt.slot 15 (by kernel_rfl) (by rfl)
              go_simp
              exact hK _ w5 (grownBy_self _ _) HI.out rfl
            | 6, _ =>
              injection ho with ho
              subst ho
              obtain ⟨e15, e15'⟩ := hAt.slot 15 (by kernel_rfl) (by rfl)
              go_simp
              exact hK _ w5 (grownBy_self _ _) HI.out rfl
            | 7, _ =>
              injection ho with ho
              subst ho
              have l6 := hdep ⟨6, .data⟩ (by simp) rfl
              obtain ⟨x6, x6'⟩ := hAt.dep 6 (d := 78) (by omega) l6 (by rfl) (hM.fact 6 (by omega) l6)
              go_simp
              exact hK _ w5 (grownBy_self _ _) HI.out rfl
            | 8, _ =>
              injection ho with ho
              subst ho
              have l7 := hdep ⟨7, .data⟩ (by simp) rfl
              obtain ⟨x7, x7'⟩ := hAt.dep 7 (d := 79) (by omega) l7 (by rfl) (hM.fact 7 (by omega) l7)
              have hw : IntKind.i64.wrap ((nl : Int) + 1 - 1) = (nl : Int) := by rw [show (nl : Int) + 1 - 1 = nl by omega]; exact IntWalk.i64_in _ (by omega)
              have hw2 : IntKind.i64.wrap (nl : Int) = (nl : Int) := IntWalk.i64_in _ (by omega)
              go_simp
              exact hK _ w5 (grownBy_self _ _) HI.out rfl
            | 9, _ =>
              injection ho with ho
              subst ho
              have l5 := hdep ⟨5, .data⟩ (by simp) rfl
              obtain ⟨x5, x5'⟩ := hAt.dep 5 (d := 77) (by omega) l5 (by rfl) (hM.fact 5 (by omega) l5)
              have l8 := hdep ⟨8, .data⟩ (by simp) rfl
              obtain ⟨x8, x8'⟩ := hAt.dep 8 (d := 80) (by omega) l8 (by rfl) (hM.fact 8 (by omega) l8)
              have n0 : (0 : Int) ≤ (nl : Int) := by omega
              have n1 : (nl : Int) < (nl : Int) + 1 := by omega
              go_simp
              exact hK _ w5 (grownBy_self _ _) HI.out rfl
            | 10, _ =>
              injection ho with ho
              subst ho
              have l9 := hdep ⟨9, .data⟩ (by simp) rfl
              obtain ⟨x9, x9'⟩ := hAt.dep 9 (d := 81) (by omega) l9 (by rfl) (hM.fact 9 (by omega) l9)
              have q0 := HNZ w5 HI.out.1
              have q1 := (HI.out.1.on.lt nb rfl).2
              go_simp
              exact hK _ w5 (grownBy_self _ _) HI.out rfl
            | 11, _ =>
              injection ho with ho
              subst ho
              have l2 := hdep ⟨2, .data⟩ (by simp) rfl
              obtain ⟨x2, x2'⟩ := hAt.dep 2 (d := 74) (by omega) l2 (by rfl) (hM.fact 2 (by omega) l2)
              have l3 := hdep ⟨3, .data⟩ (by simp) rfl
              obtain ⟨x3, x3'⟩ := hAt.dep 3 (d := 75) (by omega) l3 (by rfl) (hM.fact 3 (by omega) l3)
              have l4 := hdep ⟨4, .data⟩ (by simp) rfl
              obtain ⟨x4, x4'⟩ := hAt.dep 4 (d := 76) (by omega) l4 (by rfl) (hM.fact 4 (by omega) l4)
              have l10 := hdep ⟨10, .data⟩ (by simp) rfl
              obtain ⟨x10, x10'⟩ := hAt.dep 10 (d := 82) (by omega) l10 (by rfl) (hM.fact 10 (by omega) l10)
              go_simp
              refine (driven_any g L c zs e0 e1 (.slice AP ps.length cp) (.slice AT ts.length ct) db D0 D1 Q z w5 HI.out.1.ch ((HI.out.1.dr.low hgb).more HI.out.1.dr.hH (Nat.le_refl _)) hd0 hd1 ⟨he0, he01⟩ ⟨he1, he11⟩ ⟨hz0, by omega⟩).mono ?_
              rintro e w6 ⟨t6, rfl, ht6, hC6, hg6⟩
              exact hK _ w6 hg6 ⟨HI.out.1.pull hg6 hC6, Nat.le_trans HI.out.2 hg6.size⟩ ⟨t6, rfl, ht6⟩
            | 12, _ =>
              injection ho with ho
              subst ho
              have l11 := hdep ⟨11, .data⟩ (by simp) rfl
              obtain ⟨t11, f11, ht11⟩ := hM.fact 11 (by omega) l11
              obtain ⟨x11, x11'⟩ := hAt.dep 11 (d := 83) (by omega) l11 (by rfl) f11
              unfold trV at x11
              go_simp
              exact hK _ _ (only_allocg (grownBy_self _ _) _) ⟨HI.out.1.alloc _, by simp; have := HI.out.2; omega⟩ ⟨t11, w5.heap.size, rfl, HI.out.2, Blk.new w5 [.int .i64 t11.ib, .int .i64 t11.im, .int .i64 t11.ir, .int .i64 t11.ob, .int .i64 t11.om, .int .i64 t11.or, .int .i64 t11.mud] _, ht11⟩
            | jq + 13, hq => exact absurd hq (by omega)
          · intro vals w5 hM
            have HI := Lib.hid hM.inv
            have f0 : vals 0 = .pointer (some ⟨b11, 3, none⟩) := hM.all (by decide) 0 (by omega)
            have f1 : vals 1 = .slice AT ts.length ct := hM.all (by decide) 1 (by omega)
            have f2 : vals 2 = .pointer (some ⟨g, 0, none⟩) := hM.all (by decide) 2 (by omega)
            have f3 : vals 3 = .agg #[.int .i64 e0, .int .i64 e1, .slice AP ps.length cp, .slice AT ts.length ct] := hM.all (by decide) 3 (by omega)
            have f4 : vals 4 = .slice (some ⟨db, 0, none⟩) 2 2 := hM.all (by decide) 4 (by omega)
            have f5 : vals 5 = .slice (some ⟨nb, 0, none⟩) (nl + 1) cn := hM.all (by decide) 5 (by omega)
            have f6 : vals 6 = .slice (some ⟨nb, 0, none⟩) (nl + 1) cn := hM.all (by decide) 6 (by omega)
            have f7 : vals 7 = .int .i64 ((nl : Int) + 1) := hM.all (by decide) 7 (by omega)
            have f8 : vals 8 = .int .i64 (nl : Nat) := hM.all (by decide) 8 (by omega)
            have f9 : vals 9 = .pointer (some ⟨nb, nl, none⟩) := hM.all (by decide) 9 (by omega)
            have f10 : vals 10 = .int .i64 z := hM.all (by decide) 10 (by omega)
            obtain ⟨t11, f11, ht11⟩ := hM.all (by decide) 11 (by omega)
            obtain ⟨t, k12, f12, g12, h12, ht⟩ := hM.all (by decide) 12 (by omega)
            clear hM
            simp only [putAll, List.range, List.range.loop, List.foldl_cons, List.foldl_nil, f0, f1, f2, f3, f4, f5, f6, f7, f8, f9, f10, f11, f12]
            clear f0 f1 f2 f3 f4 f5 f6 f7 f8 f9 f10 f11 f12
            change wpAny _ _ _ _ _ _ (Act.put (Act.put (Act.put (Act.put (Act.put (Act.put (Act.put (Act.put (Act.put (Act.put (Act.put (Act.put (Act.put _ (some 72) _) (some 73) _) (some 74) _) (some 75) _) (some 76) _) (some 77) _) (some 78) _) (some 79) _) (some 80) _) (some 81) _) (some 82) _) (some 83) _) (some 84) _) _
            simp only [Act.put, List.setIfInBounds_toArray, List.set_cons_zero, List.set_cons_succ]
            have HT0 := HT
            have HT := Lib.hid ht
            have HT12 := Lib.hid h12
            refine tail_step 13 _ (by kernel_rfl) rfl rfl (fun K' hK => ?_)
            refine wp_append_lies w5 _ _ 24 rfl H2 120 i1 _ 7 56 Tryz.underlying24 ti tz0 tz1 tz2 rfl (by decide) (.slice AT ts.length ct) ts.length (trs ts) rfl HI.out.1.ot ⟨k12, 0, none⟩ 1 1 [.int .i64 t.ib, .int .i64 t.im, .int .i64 t.ir, .int .i64 t.ob, .int .i64 t.om, .int .i64 t.or, .int .i64 t.mud] rfl rfl (fun q u hu => by rw [addr_add, Nat.zero_add]; exact h12.cells q u hu) (by simp [Value.oneCell']) (by omega) (by simp only [maxLen]; omega) (by omega) (by have := HI.out.2; have := HS3.out.dr.hH; omega) _ rfl ?_
            intro gq cq y ho hgy hat hlt2
            have M := HI.out.1.appT (v1 := .slice (some ⟨gq, 0, none⟩) (ts.length + 1) cq) ho hgy (hat.elim (fun e => .inl e.symm) fun e => .inr (by rw [e]; rfl)) (by intro e; cases e)
            refine hK _ _ ?_
            clear hK K'
            refine tail_step 14 _ (by kernel_rfl) rfl rfl (fun K' hK => ?_)
            go_simp
            refine hK _ _ ?_
            clear hK K'
            refine tail_step 15 _ (by kernel_rfl) rfl rfl (fun K' hK => ?_)
            obtain ⟨u1, q1⟩ := M.o1
            have q2 := M.of
            have q3 := M.ol
            go_simp
            refine hK _ _ ?_
            clear hK K' q1 q2 q3
            refine wpAny_done (by kernel_rfl) ?_ _
            have HS := Lib.hid M.st
            clear M ho hgy hat hlt2 HI h12 ht HS3
            generalize World.setCell y ⟨b11, 3, none⟩ _ = W5 at HS ⊢
            have HT2 : Hid (MdTs e0 e1 (valB D0.f D0.cs D1.f D1.cs) ns2 (ts ++ [t])) := Lib.hid (by rw [← HN2.out]; exact HT0.out.snoc ⟨hz0, hz1'⟩ HT.out)
            go_wp2_with fail
            go_roundw
            case rel => exact ⟨k + 1, ts ++ [t], _, ns2, _, by go_num, by omega, by rw [List.length_append]; simp; omega, rfl, HS, HT2⟩
            case measure => simp [intOf]; omega
        · have k11 := HM.out.k11
          have k8 := HM.out.k8
          have a0 := k11.cells 0 _ rfl
          have a1 := k11.cells 1 _ rfl
          have a2 := k11.cells 2 _ rfl
          have a3 := k11.cells 3 _ rfl
          have c0 := k8.cells 0 _ rfl
          have c1 := k8.cells 1 _ rfl
          have c2 := k8.cells 2 _ rfl
          have c3 := k8.cells 3 _ rfl
          have g0 := k8.free 0
          have g1 := k8.free 1
          have g2 := k8.free 2
          have g3 := k8.free 3
          have q9 := k11.lt
          have q8 := k8.lt
          have HTL : Hid ((ts.length : Int) ≤ T) := Lib.hid (by omega)
          clear k11 k8 hnt hnl
          go_wp2_with fail
          have hh := HM.out
          have hgW := hh.gW
          have hw8 := hh.w8
          have hl8 := hh.l8
          have hlH := hh.l11
          have hlH2 := hh.lH
          have B8' := (((hh.k8.set (j := 0) (by simp) (.int .i64 e0)).set (j := 1) (by simp) (.int .i64 e1)).set (j := 2) (by simp) (.slice AP ps.length cp)).set (j := 3) (by simp) (.slice AT ts.length ct)
          have hM : MadeM w wr g L c zs db D0 D1 ps (.slice AP ps.length cp) ts (.slice AT ts.length ct) ns (.slice AN ns.length cn0) := ⟨hh.ch, hh.gr, hh.op.base_ (by omega), hh.ot.base_ (by omega), hh.on.base_ (by omega), (hh.dr.low (by omega)).more hh.dr.hH (Nat.le_refl _)⟩
          have hMz := fun (x : World) (o : Nat) (v : Value) (h : MadeM w x g L c zs db D0 D1 ps (.slice AP ps.length cp) ts (.slice AT ts.length ct) ns (.slice AN ns.length cn0) ∧ x.ownsRow H 57 4 (.slice AP ps.length cp) ps.length (prs ps) ∧ x.ownsRow H 120 7 (.slice AT ts.length ct) ts.length (trs ts) ∧ x.ownsRow H 3 1 (.slice AN ns.length cn0) ns.length (ints ns) ∧ DrL x b11 H db D0 D1) => show MadeM w (x.setCell ⟨b8, o, none⟩ v) g L c zs db D0 D1 ps (.slice AP ps.length cp) ts (.slice AT ts.length ct) ns (.slice AN ns.length cn0) ∧ (x.setCell ⟨b8, o, none⟩ v).ownsRow H 57 4 (.slice AP ps.length cp) ps.length (prs ps) ∧ (x.setCell ⟨b8, o, none⟩ v).ownsRow H 120 7 (.slice AT ts.length ct) ts.length (trs ts) ∧ (x.setCell ⟨b8, o, none⟩ v).ownsRow H 3 1 (.slice AN ns.length cn0) ns.length (ints ns) ∧ DrL (x.setCell ⟨b8, o, none⟩ v) b11 H db D0 D1 from by
            obtain ⟨m1, m2, m3, m4, m5⟩ := h
            have d5 := m5.block (y := x.setCell ⟨b8, o, none⟩ v) (by simp [World.setCell]) fun b hb1 hb2 => heap_far (by omega)
            have o2 := own_far (o := o) (u := v) m2 (show b8 < H by omega)
            have o3 := own_far (o := o) (u := v) m3 (show b8 < H by omega)
            have o4 := own_far (o := o) (u := v) m4 (show b8 < H by omega)
            exact ⟨⟨m1.ch.keep (by simp [World.setCell]) fun k hk => heap_far (by omega), grown_new m1.gr (grownBy_setCell _ _ _ _) (by omega), o2.base_ (by omega), o3.base_ (by omega), o4.base_ (by omega), (d5.low (by omega)).more d5.hH (Nat.le_refl _)⟩, o2, o3, o4, d5⟩
          have hz := hMz _ 3 (.slice AT ts.length ct) (hMz _ 2 (.slice AP ps.length cp) (hMz _ 1 (.int .i64 e1) (hMz _ 0 (.int .i64 e0) ⟨hM, hh.op, hh.ot.base_ hlH2, hh.on.base_ hlH2, hh.dr⟩)))
          generalize (World.setCell _ ⟨b8, 3, none⟩ _) = Z at B8' hz ⊢
          have r0 := B8'.cells 0 _ rfl
          have r1 := B8'.cells 1 _ rfl
          have r2 := B8'.cells 2 _ rfl
          have r3 := B8'.cells 3 _ rfl
          exact bodyPost_ret (v := .tuple #[bkV e0 e1 (.slice AP ps.length cp) (.slice AT ts.length ct), .slice (some ⟨db, 0, none⟩) 2 2, .slice AN ns.length cn0]) (by simp [results, Tryz.results28, go_sem, bkV, r0, r1, r2, r3]) rfl ⟨e0, e1, D0, D1, db, ps, _, ts, _, ns, _, rfl, HP0.out, HT.out, HD0.out, HD1.out, HPL.out, HTL.out, hz.1⟩
end Go.Proofs.YtcdjoegihmfanaaGreat
namespace Go.Proofs.YtcdjoegihmfanaaGreat
set_option linter.unusedVariables false
theorem Way.more {l : List Ev} {c d : Nat} {xs : List Int} (h : Way l c xs) (hd : c ≤ d) : Way l d xs := ⟨h.1, Nat.le_trans h.2 hd⟩
theorem IsBest.more {b : Bool} {l : List Ev} {c d : Nat} {m n : Int} (h : IsBest b l c m) (k : IsBest b l d n) (hd : c ≤ d) : noBetter b m n := by
  obtain ⟨⟨xs, hx, rfl⟩, _⟩ := h
  exact k.2 xs (hx.more hd)
theorem chg_tail (a : Int) : ∀ (xs : List Int), chg xs ≤ chg (a :: xs)
  | [] => by simp [chg]
  | x :: t => by simp only [chg]; omega
theorem chg_skip (a x : Int) : ∀ (xs : List Int), chg (a :: xs) ≤ chg (a :: x :: xs)
  | [] => by simp [chg]
  | y :: t => by
    simp only [chg]
    by_cases h1 : a = y
    · rw [if_pos h1]; omega
    · rw [if_neg h1]
      by_cases h2 : a = x
      · subst h2; rw [if_pos rfl, if_neg h1]; omega
      · rw [if_neg h2]; omega
/-- An event more that does not count leaves fewer ways. -/
theorem putE_way : ∀ {l : List Ev} {p : Ev} {xs : List Int}, p.w = 0 → fitsL (putE l p) xs → ∃ ys, fitsL l ys ∧ wsum l ys = wsum (putE l p) xs ∧ chg ys ≤ chg xs ∧ ∀ a, chg (a :: ys) ≤ chg (a :: xs)
  | [], p, xs, hw, hf => by
    match xs, hf with
    | [x], hf => exact ⟨[], trivial, by simp [putE, wsum, hw], by simp [chg], fun a => by simp [chg]⟩
    | x :: y :: t, hf => exact absurd hf.2 (by simp [fitsL])
  | e :: t, p, xs, hw, hf => by
    simp only [putE] at hf ⊢
    split at hf
    · rename_i hm
      rw [if_pos hm]
      match xs, hf with
      | x :: xs, hf =>
        have h1 := hf.1
        unfold fits1 mergeE at h1
        simp only at h1
        refine ⟨x :: xs, ⟨⟨by omega, by omega, by omega, by omega⟩, hf.2⟩, by simp [wsum, mergeE, hw], Nat.le_refl _, fun _ => Nat.le_refl _⟩
    · rename_i hm
      rw [if_neg hm]
      split at hf
      · rename_i hlt
        rw [if_pos hlt]
        match xs, hf with
        | x :: xs, hf => exact ⟨xs, hf.2, by simp [wsum, hw], chg_tail x xs, fun a => chg_skip a x xs⟩
      · rename_i hlt
        rw [if_neg hlt]
        match xs, hf with
        | x :: xs, hf =>
          obtain ⟨ys, y1, y2, y3, y4⟩ := putE_way hw hf.2
          refine ⟨x :: ys, ⟨hf.1, y1⟩, by simp [wsum, y2], y4 x, fun a => ?_⟩
          have := y4 x
          simp only [chg]; omega
theorem best_put {b : Bool} {l : List Ev} {p : Ev} {c : Nat} {m n : Int} (hw : p.w = 0) (h : IsBest b l c m) (k : IsBest b (putE l p) c n) : noBetter b n m := by
  obtain ⟨⟨xs, hx, rfl⟩, _⟩ := k
  obtain ⟨ys, y1, y2, y3, _⟩ := putE_way hw hx.1
  rw [← y2]
  exact h.2 ys ⟨y1, by have := hx.2; omega⟩
theorem some_put {l : List Ev} {p : Ev} {c : Nat} (hw : p.w = 0) (h : (sumsR (putE l p) c).isSome = true) : (sumsR l c).isSome = true := by
  obtain ⟨xs, hx⟩ := sums_isSome.1 h
  obtain ⟨ys, y1, _, y3, _⟩ := putE_way hw hx.1
  exact sums_isSome.2 ⟨ys, y1, by have := hx.2; omega⟩
/-- The minutes of events do not matter to their sums. -/
def later (by_ : Int) (e : Ev) : Ev := ⟨e.m + by_, e.lo, e.hi, e.w⟩
theorem parts_later (k : Int) : ∀ (l : List Ev) (c : Nat) (lo hi w : Int), partsR lo hi w (l.map (later k)) c = partsR lo hi w l c
  | [], _, _, _, _ => rfl
  | e :: t, c, lo, hi, w => by
    have ih1 := parts_later k t (c - 1) (-50) 50 0
    have ih2 := fun a b d => parts_later k t c a b d
    have hn : (t.map (later k) = []) = (t = []) := by simp
    simp only [List.map_cons, partsR, later] at ih1 ih2 ⊢
    simp only [hn, ih1, ih2, ne_eq]
theorem sums_later (k : Int) (l : List Ev) (c : Nat) : sumsR (l.map (later k)) c = sumsR l c := by
  unfold sumsR
  have hn : (l.map (later k) = []) = (l = []) := by simp
  simp only [hn, parts_later]
/-- Proofs in another order have the same events. -/
theorem evP_perm {e0 e1 : Int} {ps qs : List Pr} (hp : Once ps) (hq : Once qs) (h : ∀ p, p ∈ ps ↔ p ∈ qs) (n : Int) (asks : List (Int × Int)) : evP e0 e1 ps n asks = evP e0 e1 qs n asks := by
  have hmem : ∀ {l : List Pr} {i : Nat}, i < l.length → pAt l i ∈ l := fun {l i} hi => by rw [pAt_eq hi]; exact List.getElem_mem hi
  have hidx : ∀ {l : List Pr} {p : Pr}, p ∈ l → ∃ i, i < l.length ∧ pAt l i = p := fun {l p} hpl => by
    obtain ⟨i, hi, e⟩ := List.getElem_of_mem hpl
    exact ⟨i, hi, by rw [pAt_eq hi, e]⟩
  refine sortedE_ext (evP_sorted hp n asks) (evP_sorted hq n asks) fun m => ?_
  obtain ⟨a1, a2⟩ := evP_at (e0 := e0) (e1 := e1) hp n asks m
  obtain ⟨b1, b2⟩ := evP_at (e0 := e0) (e1 := e1) hq n asks m
  by_cases hx : ∃ i, i < ps.length ∧ (pAt ps i).b = n ∧ (pAt ps i).m = m
  · obtain ⟨i, h1, h2, h3⟩ := hx
    obtain ⟨j, k1, k2⟩ := hidx ((h _).1 (hmem h1))
    rw [a1 i h1 h2 h3, b1 j k1 (by rw [k2]; exact h2) (by rw [k2]; exact h3)]
    simp only [spI, k2]
  · rw [a2 fun i h1 h2 h3 => hx ⟨i, h1, h2, h3⟩, b2 fun j k1 k2 k3 => ?_]
    obtain ⟨i, i1, i2⟩ := hidx ((h _).2 (hmem k1))
    exact hx ⟨i, i1, by rw [i2]; exact k2, by rw [i2]; exact k3⟩
end Go.Proofs.YtcdjoegihmfanaaGreat
namespace Go.Proofs.YtcdjoegihmfanaaGreat
set_option linter.unusedVariables false
theorem incD_lt : ∀ {cs : List (Int × Int)}, incD cs = true → cs.Pairwise fun a b => a.1 < b.1
  | [], _ => List.Pairwise.nil
  | [a], _ => by simp
  | a :: b :: t, h => by
    simp only [incD, Bool.and_eq_true, decide_eq_true_eq] at h
    have ih := incD_lt h.2
    rw [List.pairwise_cons]
    refine ⟨fun x hx => ?_, ih⟩
    rw [List.pairwise_cons] at ih
    rcases List.mem_cons.1 hx with rfl | hx
    · exact h.1
    · have := ih.1 x hx; omega
theorem valueD_take {f : Int} {cs : List (Int × Int)} {i : Nat} {m : Int} (h : ∀ c ∈ cs.drop i, m < c.1) : valueD f cs m = valueD f (cs.take i) m := by
  have e : cs = cs.take i ++ cs.drop i := (List.take_append_drop i cs).symm
  have : ∀ (a b : List (Int × Int)) (f : Int), (∀ c ∈ b, m < c.1) → valueD f (a ++ b) m = valueD f a m := by
    intro a b f hb
    show (a ++ b).foldl _ f = a.foldl _ f
    rw [List.foldl_append]
    exact valueD_after b _ m hb
  rw [e, List.take_append_drop]
  calc valueD f cs m = valueD f (cs.take i ++ cs.drop i) m := by rw [← e]
    _ = valueD f (cs.take i) m := this _ _ _ h
theorem valueD_drop : ∀ {cs : List (Int × Int)} {i : Nat} {f m : Int} {c : Int × Int}, (∀ x ∈ cs.take (i + 1), x.1 ≤ m) → cs[i]? = some c → valueD f cs m = valueD c.2 (cs.drop (i + 1)) m
  | a :: t, 0, f, m, c, h, hc => by
    simp at hc; subst hc
    have := h a (by simp)
    rw [valueD_cons, if_pos this]; rfl
  | a :: t, i + 1, f, m, c, h, hc => by
    rw [valueD_cons]
    exact valueD_drop (cs := t) (i := i) (fun x hx => h x (by simp only [List.take_succ_cons]; exact List.mem_cons_of_mem _ hx)) (by simpa using hc)
theorem evs_way {e0 e1 : Int} {ps : List Pr} {L : List Nat} (hp : L.Pairwise fun i j => (pAt ps i).m < (pAt ps j).m) {f : Int} {cs : List (Int × Int)} (hf : ∀ i ∈ L, (spI e0 e1 ps i).1 ≤ valueD f cs (pAt ps i).m ∧ valueD f cs (pAt ps i).m ≤ (spI e0 e1 ps i).2) :
    (sumsR (L.map (evI e0 e1 ps)) cs.length).isSome = true :=
  sums_isSome.2 ⟨_, drift_way (f := f) (cs := cs) (sortedE_map hp) fun e he => by
    simp only [List.mem_map] at he
    obtain ⟨i, hi, rfl⟩ := he
    have := hf i hi
    have := spI_bd e0 e1 ps i
    exact ⟨by simp only [evI]; omega, by simp only [evI]; omega, by simp only [evI]; omega, by simp only [evI]; omega⟩⟩
/-- How many of a list in order are ahead of a minute. -/
theorem split_at (key : Nat → Int) (M : Int) : ∀ (L : List Nat), (L.Pairwise fun i j => key i < key j) → ∃ j, j ≤ L.length ∧ (∀ i ∈ L.take j, key i < M) ∧ ∀ i ∈ L.drop j, M ≤ key i
  | [], _ => ⟨0, Nat.le_refl _, by simp, by simp⟩
  | a :: t, h => by
    rw [List.pairwise_cons] at h
    by_cases hm : key a < M
    · obtain ⟨j, j1, j2, j3⟩ := split_at key M t h.2
      refine ⟨j + 1, by simp; omega, ?_, by simpa using j3⟩
      intro i hi
      simp only [List.take_succ_cons] at hi
      rcases List.mem_cons.1 hi with rfl | hi
      · exact hm
      · exact j2 i hi
    · refine ⟨0, Nat.zero_le _, by simp, ?_⟩
      intro i hi
      simp only [List.drop_zero] at hi
      rcases List.mem_cons.1 hi with rfl | hi
      · omega
      · have := h.1 i hi; omega
theorem when_between {e0 e1 : Int} {ps : List Pr} {L : List Nat} (hs : ∀ i ∈ L, (spI e0 e1 ps i).1 ≤ (spI e0 e1 ps i).2) (hp : L.Pairwise fun i j => (pAt ps i).m < (pAt ps j).m) {f : Int} {cs : List (Int × Int)} (hinc : incD cs = true)
    (hf : ∀ i ∈ L, (spI e0 e1 ps i).1 ≤ valueD f cs (pAt ps i).m ∧ valueD f cs (pAt ps i).m ≤ (spI e0 e1 ps i).2) (hfew : cs.length + 1 = (groupsG (spI e0 e1 ps) L).length) {k : Nat} {c : Int × Int} (hc : cs[k]? = some c) :
    ∃ a b r s f t, (groupsG (spI e0 e1 ps) L)[k + 1]? = some a ∧ a.ps = f :: r ∧ (groupsG (spI e0 e1 ps) L.reverse)[(groupsG (spI e0 e1 ps) L).length - 1 - k]? = some b ∧ b.ps = t :: s ∧ (pAt ps t).m + 1 ≤ c.1 ∧ c.1 ≤ (pAt ps f).m := by
  have hk : k < cs.length := by
    rcases Nat.lt_or_ge k cs.length with h | h
    · exact h
    · rw [List.getElem?_eq_none h] at hc; cases hc
  obtain ⟨x0, x1, a, b, r, s, g, t, ha, hg, hb, ht, hLx, hLy, h1, h2, h3, h4, h5⟩ := when_ends hs k (by omega)
  refine ⟨a, b, r, s, g, t, ha, hg, hb, ht, ?_⟩
  have hlt := incD_lt hinc
  obtain ⟨j, j1, j2, j3⟩ := split_at (fun i => (pAt ps i).m) c.1 L hp
  have hcg : cs[k] = c := by rw [List.getElem?_eq_getElem hk] at hc; injection hc
  have hdr : ∀ x ∈ cs.drop k, c.1 ≤ x.1 := by
    intro x hx
    rw [List.drop_eq_getElem_cons hk, hcg] at hx
    have hp2 := hlt.drop (i := k)
    rw [List.drop_eq_getElem_cons hk, hcg, List.pairwise_cons] at hp2
    rcases List.mem_cons.1 hx with rfl | hx
    · omega
    · have := hp2.1 x hx; omega
  have htk : ∀ x ∈ cs.take (k + 1), x.1 ≤ c.1 := by
    intro x hx
    rw [List.take_succ_eq_append_getElem hk, hcg] at hx
    have hp2 := hlt.take (i := k + 1)
    rw [List.take_succ_eq_append_getElem hk, hcg, List.pairwise_append] at hp2
    rcases List.mem_append.1 hx with hx | hx
    · have := hp2.2.2 x hx c (by simp); omega
    · simp at hx; subst hx; omega
  -- ahead of it
  have hA : (groupsG (spI e0 e1 ps) (L.take j)).length ≤ k + 1 := by
    rw [← few_groups (fun z hz => hs z (List.mem_of_mem_take hz))]
    have := evs_way (e0 := e0) (e1 := e1) (f := f) (cs := cs.take k) (hp.take (i := j)) fun i hi => by
      have h := hf i (List.mem_of_mem_take hi)
      rwa [valueD_take (i := k) fun x hx => by have := hdr x hx; have := j2 i hi; omega] at h
    rwa [List.length_take, Nat.min_eq_left (by omega)] at this
  have hB : (groupsG (spI e0 e1 ps) (L.drop j)).length ≤ (groupsG (spI e0 e1 ps) L).length - 1 - k := by
    have := evs_way (e0 := e0) (e1 := e1) (f := c.2) (cs := cs.drop (k + 1)) (hp.drop (i := j)) fun i hi => by
      have h := hf i (List.mem_of_mem_drop hi)
      rwa [valueD_drop (i := k) (c := c) (fun x hx => by have := htk x hx; have := j3 i hi; omega) hc] at h
    rw [few_groups (fun z hz => hs z (List.mem_of_mem_drop hz)), List.length_drop] at this
    omega
  have q1 := (h4 j j1).1 hA
  have q2 := (h5 j j1).1 hB
  constructor
  · have : t ∈ L.take j := by
      rw [List.mem_take_iff_getElem]
      refine ⟨x0 - 1, by omega, ?_⟩
      rw [List.getElem?_eq_getElem (by omega)] at hLy; injection hLy
    have := j2 t this
    omega
  · have : g ∈ L.drop j := by
      rw [List.mem_drop_iff_getElem]
      refine ⟨x1 - j, by omega, ?_⟩
      rw [List.getElem?_eq_getElem (by omega)] at hLx; injection hLx with hLx
      simp only [show j + (x1 - j) = x1 from by omega]; exact hLx
    exact j3 g this
/-- Between both proofs of a pair the drift changes. -/
theorem pair_change {sp : Nat → Int × Int} {ps : List Pr} {f : Int} {cs : List (Int × Int)} {i k : Nat} (hx : exclI sp i k = true) (hm : (pAt ps i).m < (pAt ps k).m)
    (hi : (sp i).1 ≤ valueD f cs (pAt ps i).m ∧ valueD f cs (pAt ps i).m ≤ (sp i).2) (hk : (sp k).1 ≤ valueD f cs (pAt ps k).m ∧ valueD f cs (pAt ps k).m ≤ (sp k).2) : ∃ c ∈ cs, (pAt ps i).m < c.1 ∧ c.1 ≤ (pAt ps k).m := by
  refine Classical.byContradiction fun hno => ?_
  have e := valueD_congr cs f (pAt ps i).m (pAt ps k).m fun c hc => by
    have : ¬ ((pAt ps i).m < c.1 ∧ c.1 ≤ (pAt ps k).m) := fun h => hno ⟨c, hc, h⟩
    omega
  simp only [exclI, decide_eq_true_eq] at hx
  rw [e] at hi
  omega
end Go.Proofs.YtcdjoegihmfanaaGreat
