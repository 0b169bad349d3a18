/- Driven: a trip with a net. -/
import Derived.Test.YtcdjoegihmfanaaGreatG18
import Derived.Test.YtcdjoegihmfanaaGreatG5
namespace Go.Proofs.YtcdjoegihmfanaaGreat
open Go.RowKit
set_option linter.unusedVariables false
def StbT (p : Value → World → Prop) : Prop := ∀ v w w', p v w → p v w'
theorem FL.keepT {l : List (Value → World → Prop)} (h : ∀ p ∈ l, StbT p) (i : Nat) (v : Value) (w w' : World) (H : FL l i v w) (_ : True) : FL l i v w' := by
  unfold FL at H ⊢
  cases hp : l[i]? with
  | none => trivial
  | some p =>
    rw [hp] at H
    exact h p (List.mem_of_getElem? hp) v w w' H
theorem stbT_eq (x : Value) : StbT (PEq x) := fun _ _ _ h => h
theorem stbT_num (a b : Int) : StbT (PNum a b) := fun _ _ _ h => h
theorem stbT_any : StbT PAny := fun _ _ _ _ => trivial
/-- A drift in memory. -/
structure DrM where
  f : Int
  A : Option Addr
  q : Nat
  cs : List (Int × Int)
def DrM.v (D : DrM) : Value := .slice D.A D.cs.length D.q
/-- Two drifts in a row, above a chute and below H. -/
structure DrL (x : World) (g H db : Nat) (D0 D1 : DrM) : Prop where
  k : Blk x db [.int .i64 D0.f, .slice D0.A D0.cs.length D0.q, .int .i64 D1.f, .slice D1.A D1.cs.length D1.q]
  r0 : RdI x (g + 1) H D0.A (pairs D0.cs)
  r1 : RdI x (g + 1) H D1.A (pairs D1.cs)
  gd : g < db
  dH : db < H
  hH : H ≤ x.heap.size
theorem ckD_len {f : Int} {cs : List (Int × Int)} (h : ckD f cs = 0) : cs.length ≤ 1000 := by
  by_cases k : 10 < cs.length
  · unfold ckD at h; rw [if_pos k] at h; cases h
  · omega
def pickD (D0 D1 : DrM) (n : Nat) : DrM := if n = 0 then D0 else D1
theorem pickD_val (D0 D1 : DrM) (n : Nat) (m : Int) : valB D0.f D0.cs D1.f D1.cs (n : Nat) m = valueD (pickD D0 D1 n).f (pickD D0 D1 n).cs m := by
  unfold valB pickD
  by_cases h : n = 0 <;> simp [h]
theorem pickD_bd {D0 D1 : DrM} {q : Int} (h0 : MdD q D0.f D0.cs) (h1 : MdD q D1.f D1.cs) (n : Nat) (m : Int) : -9 ≤ valueD (pickD D0 D1 n).f (pickD D0 D1 n).cs m ∧ valueD (pickD D0 D1 n).f (pickD D0 D1 n).cs m ≤ 9 := by
  unfold pickD
  split
  · exact h0.bd m
  · exact h1.bd m
theorem pickD_len {D0 D1 : DrM} {q : Int} (h0 : MdD q D0.f D0.cs) (h1 : MdD q D1.f D1.cs) (n : Nat) : (pickD D0 D1 n).cs.length ≤ 1000 := by
  unfold pickD
  split
  · exact ckD_len h0.ck
  · exact ckD_len h1.ck
theorem DrL.pick {x : World} {g H db : Nat} {D0 D1 D : DrM} {n : Nat} (h : DrL x g H db D0 D1) (hn : n < 2) (hD : pickD D0 D1 n = D) : x.cell? ⟨db, n * 2, none⟩ = some (.int .i64 D.f) ∧ x.cell? ⟨db, n * 2 + 1, none⟩ = some (.slice D.A D.cs.length D.q) ∧ Rd x x.heap.size D.A (pairs D.cs) := by
  subst hD
  match n, hn with
  | 0, _ => exact ⟨h.k.cells 0 _ rfl, h.k.cells 1 _ rfl, h.r0.rd h.hH⟩
  | 1, _ => exact ⟨h.k.cells 2 _ rfl, h.k.cells 3 _ rfl, h.r1.rd h.hH⟩
theorem DrL.block {x y : World} {g H db : Nat} {D0 D1 : DrM} (h : DrL x g H db D0 D1) (hs : x.heap.size ≤ y.heap.size) (hk : ∀ b, g < b → b < H → y.heap[b]? = x.heap[b]?) : DrL y g H db D0 D1 :=
  ⟨h.k.block hs (hk db h.gd h.dH), h.r0.keep fun b h1 h2 => hk b h1 h2, h.r1.keep fun b h1 h2 => hk b h1 h2, h.gd, h.dH, Nat.le_trans h.hH hs⟩
theorem DrL.grown {x y : World} {g H db : Nat} {D0 D1 : DrM} (h : DrL x g H db D0 D1) (hg : x.grownBy y (some g)) : DrL y g H db D0 D1 :=
  h.block hg.size fun b h1 h2 => hg.block b (Nat.lt_of_lt_of_le h2 h.hH) (by intro e; injection e; omega)
/-- Where Driven stands. -/
structure DvS (W x : World) (g : Nat) (L : Option Addr) (c : Nat) (zs : List Int) (b4 b5 b8 b9 db : Nat) (e0 e1 : Int) (sp st : Value) (D0 D1 : DrM) (x9 : List Value) : Prop where
  ch : ChE x g L c zs
  gr : W.grownBy x (some g)
  k4 : Blk x b4 [.pointer (some ⟨g, 0, none⟩)]
  k5 : Blk x b5 [.int .i64 e0, .int .i64 e1, sp, st]
  k8 : Blk x b8 [.int .i64 0, .int .i64 0, .int .i64 0, .int .i64 0, .int .i64 0, .int .i64 0, .int .i64 0]
  k9 : Blk x b9 x9
  dr : DrL x g W.heap.size db D0 D1
  l4 : W.heap.size ≤ b4
  l5 : b4 < b5
  l8 : b5 < b8
  l9 : b8 < b9
section
variable {W x y : World} {g : Nat} {L : Option Addr} {c : Nat} {zs : List Int} {b4 b5 b8 b9 db : Nat} {e0 e1 : Int} {sp st : Value} {D0 D1 : DrM} {x9 : List Value}
theorem DvS.gl (h : DvS W x g L c zs b4 b5 b8 b9 db e0 e1 sp st D0 D1 x9) : g < W.heap.size := Nat.lt_trans h.dr.gd h.dr.dH
theorem DvS.n4 (h : DvS W x g L c zs b4 b5 b8 b9 db e0 e1 sp st D0 D1 x9) : b4 ≠ g := by have := h.gl; have := h.l4; omega
theorem DvS.n5 (h : DvS W x g L c zs b4 b5 b8 b9 db e0 e1 sp st D0 D1 x9) : b5 ≠ g := by have := h.gl; have := h.l4; have := h.l5; omega
theorem DvS.pull (h : DvS W x g L c zs b4 b5 b8 b9 db e0 e1 sp st D0 D1 x9) (hg : x.grownBy y (some g)) (hC : ChE y g L c zs) : DvS W y g L c zs b4 b5 b8 b9 db e0 e1 sp st D0 D1 x9 := by
  have := h.gl
  have := h.l4
  have := h.l5
  have := h.l8
  have := h.l9
  exact ⟨hC, grownBy_trans h.gr hg, h.k4.grown hg (by intro e; injection e; omega), h.k5.grown hg (by intro e; injection e; omega), h.k8.grown hg (by intro e; injection e; omega), h.k9.grown hg (by intro e; injection e; omega), h.dr.grown hg, h.l4, h.l5, h.l8, h.l9⟩
theorem DvS.below (h : DvS W x g L c zs b4 b5 b8 b9 db e0 e1 sp st D0 D1 x9) (hb : Below x.heap.size x y) : DvS W y g L c zs b4 b5 b8 b9 db e0 e1 sp st D0 D1 x9 := h.pull (grown_below (grownBy_self _ _) hb) (h.ch.below hb)
theorem DvS.drewN (h : DvS W x g L c zs b4 b5 b8 b9 db e0 e1 sp st D0 D1 x9) (n : Nat) : DvS W (x.drewN n) g L c zs b4 b5 b8 b9 db e0 e1 sp st D0 D1 x9 := h.pull (only_drewN (grownBy_self _ _) n) (h.ch.drewN n)
theorem DvS.set9 (h : DvS W x g L c zs b4 b5 b8 b9 db e0 e1 sp st D0 D1 x9) {j : Nat} (hj : j < x9.length) (v : Value) : DvS W (x.setCell ⟨b9, j, none⟩ v) g L c zs b4 b5 b8 b9 db e0 e1 sp st D0 D1 (x9.set j v) := by
  have := h.gl
  have := h.l4
  have := h.l5
  have := h.l8
  have := h.l9
  exact ⟨h.ch.keep (by simp [World.setCell]) fun k hk => heap_far (by omega), grown_new h.gr (grownBy_setCell _ _ _ _) (by omega), h.k4.far (by omega), h.k5.far (by omega), h.k8.far (by omega), h.k9.set hj v, h.dr.block (by simp [World.setCell]) fun b h1 h2 => heap_far (by omega), h.l4, h.l5, h.l8, h.l9⟩
theorem DvS.err (h : DvS W x g L c zs b4 b5 b8 b9 db e0 e1 sp st D0 D1 x9) {n : Nat} {ev : Int} (hn : n < 2) (he : (if n = 0 then e0 else e1) = ev) : x.cell? ⟨b5, n, none⟩ = some (.int .i64 ev) := by
  subst he
  match n, hn with
  | 0, _ => exact h.k5.cells 0 _ rfl
  | 1, _ => exact h.k5.cells 1 _ rfl
/-- Ahead of the trip. -/
structure DvS' (W x : World) (g : Nat) (L : Option Addr) (c : Nat) (zs : List Int) (b4 b5 b8 db : Nat) (e0 e1 : Int) (sp st : Value) (D0 D1 : DrM) : Prop where
  ch : ChE x g L c zs
  gr : W.grownBy x (some g)
  k4 : Blk x b4 [.pointer (some ⟨g, 0, none⟩)]
  k5 : Blk x b5 [.int .i64 e0, .int .i64 e1, sp, st]
  k8 : Blk x b8 [.int .i64 0, .int .i64 0, .int .i64 0, .int .i64 0, .int .i64 0, .int .i64 0, .int .i64 0]
  dr : DrL x g W.heap.size db D0 D1
  l4 : W.heap.size ≤ b4
  l5 : b4 < b5
  l8 : b5 < b8
theorem DvS'.pull (h : DvS' W x g L c zs b4 b5 b8 db e0 e1 sp st D0 D1) (hg : x.grownBy y (some g)) (hC : ChE y g L c zs) : DvS' W y g L c zs b4 b5 b8 db e0 e1 sp st D0 D1 := by
  have := Nat.lt_trans h.dr.gd h.dr.dH
  have := h.l4
  have := h.l5
  have := h.l8
  exact ⟨hC, grownBy_trans h.gr hg, h.k4.grown hg (by intro e; injection e; omega), h.k5.grown hg (by intro e; injection e; omega), h.k8.grown hg (by intro e; injection e; omega), h.dr.grown hg, h.l4, h.l5, h.l8⟩
theorem DvS'.nine (h : DvS' W x g L c zs b4 b5 b8 db e0 e1 sp st D0 D1) (t : TypeId) : DvS W (x.alloc (.cells x9.toArray t)) g L c zs b4 b5 b8 x.heap.size db e0 e1 sp st D0 D1 x9 := by
  have hb := below_new x (.cells x9.toArray t)
  have h2 := h.pull (grown_below (grownBy_self _ _) hb) (h.ch.below hb)
  exact ⟨h2.ch, h2.gr, h2.k4, h2.k5, h2.k8, Blk.new x x9 t, h2.dr, h.l4, h.l5, h.l8, h.k8.lt⟩
theorem dv_start {t1 t2 t3 : TypeId} (hC : ChE W g L c zs) (hD : DrL W g W.heap.size db D0 D1) : DvS' W (((W.alloc (.cells #[.pointer (some ⟨g, 0, none⟩)] t1)).alloc (.cells #[.int .i64 e0, .int .i64 e1, sp, st] t2)).alloc (.cells #[.int .i64 0, .int .i64 0, .int .i64 0, .int .i64 0, .int .i64 0, .int .i64 0, .int .i64 0] t3)) g L c zs W.heap.size (W.heap.size + 1) (W.heap.size + 1 + 1) db e0 e1 sp st D0 D1 := by
  have b1 := below_new W (.cells #[.pointer (some ⟨g, 0, none⟩)] t1)
  have k1 := Blk.new W [.pointer (some ⟨g, 0, none⟩)] t1
  have z1 : (W.alloc (.cells #[.pointer (some ⟨g, 0, none⟩)] t1)).heap.size = W.heap.size + 1 := by simp
  change Blk (W.alloc (.cells #[.pointer (some ⟨g, 0, none⟩)] t1)) _ _ at k1
  generalize W.alloc (.cells #[.pointer (some ⟨g, 0, none⟩)] t1) = W1 at *
  have b2 := below_new W1 (.cells #[.int .i64 e0, .int .i64 e1, sp, st] t2)
  have k2 := Blk.new W1 [.int .i64 e0, .int .i64 e1, sp, st] t2
  have z2 : (W1.alloc (.cells #[.int .i64 e0, .int .i64 e1, sp, st] t2)).heap.size = W1.heap.size + 1 := by simp
  change Blk (W1.alloc (.cells #[.int .i64 e0, .int .i64 e1, sp, st] t2)) _ _ at k2
  generalize W1.alloc (.cells #[.int .i64 e0, .int .i64 e1, sp, st] t2) = W2 at *
  have b3 := below_new W2 (.cells #[.int .i64 0, .int .i64 0, .int .i64 0, .int .i64 0, .int .i64 0, .int .i64 0, .int .i64 0] t3)
  have k3 := Blk.new W2 [.int .i64 0, .int .i64 0, .int .i64 0, .int .i64 0, .int .i64 0, .int .i64 0, .int .i64 0] t3
  change Blk (W2.alloc (.cells #[.int .i64 0, .int .i64 0, .int .i64 0, .int .i64 0, .int .i64 0, .int .i64 0, .int .i64 0] t3)) _ _ at k3
  generalize W2.alloc (.cells #[.int .i64 0, .int .i64 0, .int .i64 0, .int .i64 0, .int .i64 0, .int .i64 0, .int .i64 0] t3) = W3 at *
  rw [z1] at k2
  rw [z2, z1] at k3
  have bb := b1.trans (b2.mono b1.size)
  have bbb := bb.trans (b3.mono bb.size)
  exact ⟨hC.below bbb, grown_below (grownBy_self _ _) bbb, (k1.below b2).below b3, k2.below b3, k3, hD.grown (grown_below (grownBy_self _ _) bbb), Nat.le_refl _, by omega, by omega⟩
end
def DrivenPost (g : Nat) (L : Option Addr) (c : Nat) (zs : List Int) (e0 e1 : Int) (D0 D1 : DrM) (net : Int) (W : World) (e : Ending) (w' : World) : Prop :=
  ∃ t : Tr, e = .returned (trV t) ∧ MdT e0 e1 (valB D0.f D0.cs D1.f D1.cs) net t ∧ ChE w' g L c zs ∧ W.grownBy w' (some g)
set_option maxRecDepth 100000 in
set_option maxHeartbeats 16000000 in
theorem driven_any (g : Nat) (L : Option Addr) (c : Nat) (zs : List Int) (e0 e1 : Int) (sp st : Value) (db : Nat) (D0 D1 : DrM) (q : Int) (net : Int) (w : World) (hC : ChE w g L c zs) (hD : DrL w g w.heap.size db D0 D1) (hd0 : MdD q D0.f D0.cs) (hd1 : MdD q D1.f D1.cs) (he0 : 0 ≤ e0 ∧ e0 ≤ 3) (he1 : 0 ≤ e1 ∧ e1 ≤ 3) (hn : 0 ≤ net ∧ net ≤ 5000) :
    Calls Tryz.prog 73 #[.pointer (some ⟨g, 0, none⟩), bkV e0 e1 sp st, .slice (some ⟨db, 0, none⟩) 2 2, .int .i64 net] w (DrivenPost g L c zs e0 e1 D0 D1 net w) := by
  obtain ⟨hn0, hn1⟩ := hn
  have gl := hC.lt
  unfold bkV
  go_enter Tryz.func73, Tryz.ntmps73
  go_wp2_with fail
  obtain ⟨W2, hW2⟩ : ∃ W2, ((w.alloc (.cells #[.pointer (some ⟨g, 0, none⟩)] 52)).alloc (.cells #[.int .i64 e0, .int .i64 e1, sp, st] 26)).alloc (.cells #[.int .i64 0, .int .i64 0, .int .i64 0, .int .i64 0, .int .i64 0, .int .i64 0, .int .i64 0] 120) = W2 := ⟨_, rfl⟩
  have hS : DvS' w W2 g L c zs w.heap.size (w.heap.size + 1) (w.heap.size + 1 + 1) db e0 e1 sp st D0 D1 := by
    rw [← hW2]
    exact dv_start hC hD
  rw [hW2]
  have HS2 := Lib.hid hS
  have hl4 : w.heap.size ≤ w.heap.size := Nat.le_refl _
  clear hW2 hS
  refine (pullE_any g L c zs _ _ HS2.out.ch (by omega)).mono ?_
  rintro e w3 ⟨mud, rfl, _, hm, hC3, hg3⟩
  obtain ⟨m0, m1⟩ := hm (by omega)
  have HS3 := Lib.hid (HS2.out.pull hg3 hC3)
  clear hm hC3 hg3 HS2
  go_wp2_with fail
  have HS4 := Lib.hid (HS3.out.nine (x9 := [.int .i64 0, .int .i64 0, .int .i64 0, .int .i64 0, .int .i64 0, .int .i64 0, .int .i64 mud]) 120)
  clear HS3
  change Hid (DvS w (World.alloc w3 (.cells #[.int .i64 0, .int .i64 0, .int .i64 0, .int .i64 0, .int .i64 0, .int .i64 0, .int .i64 mud] 120)) g L c zs _ _ _ _ db e0 e1 sp st D0 D1 _) at HS4
  generalize World.alloc w3 _ = W3 at HS4 ⊢
  generalize w3.heap.size = b9 at HS4 ⊢
  obtain ⟨b4, hb4⟩ : ∃ b, Hid (b = w.heap.size) := ⟨_, Lib.hid rfl⟩
  rw [← hb4.out] at HS4 ⊢
  obtain ⟨b5, hb5⟩ : ∃ b, Hid (b = b4 + 1) := ⟨_, Lib.hid rfl⟩
  rw [← hb5.out] at HS4 ⊢
  obtain ⟨b8, hb8⟩ : ∃ b, Hid (b = b5 + 1) := ⟨_, Lib.hid rfl⟩
  rw [← hb8.out] at HS4 ⊢
  have HS := HS4
  clear HS4 hb4 hb5 hb8 hD hC
  refine wp_invT 18 (by kernel_rfl) (by kernel_rfl) (by kernel_rfl) (by decide) (FL [PEq (.pointer (some ⟨b9, 0, none⟩)), PEq (.pointer (some ⟨b9, 3, none⟩)), PEq (.pointer (some ⟨b9, 0, none⟩)), PEq (.pointer (some ⟨g, 0, none⟩)), PNum 0 1, PEq (.pointer (some ⟨g, 0, none⟩)), PNum 0 1, PEq (.pointer (some ⟨g, 0, none⟩)), PNum 0 89, PEq (.pointer (some ⟨b9, 0, none⟩)), PEq (.pointer (some ⟨b9, 0, none⟩)), PAny, PEq (.pointer (some ⟨b9, 3, none⟩)), PEq (.pointer (some ⟨b9, 3, none⟩)), PAny, PEq (.pointer (some ⟨b9, 0, none⟩)), PEq (.pointer (some ⟨b9, 1, none⟩)), PAny])
    (fun x => ∃ ib ob im : Int, (0 ≤ ib ∧ ib ≤ 1) ∧ (0 ≤ ob ∧ ob ≤ 1) ∧ (0 ≤ im ∧ im ≤ 89) ∧ DvS w x g L c zs b4 b5 b8 b9 db e0 e1 sp st D0 D1 [.int .i64 ib, .int .i64 im, .int .i64 0, .int .i64 ob, .int .i64 0, .int .i64 0, .int .i64 mud]) (fun _ _ => True) (FL.keepT (by simp [stbT_eq, stbT_num, stbT_any])) ⟨0, 0, 0, by omega, by omega, by omega, HS.out.drewN 1⟩ ?_ ?_
  · intro iq o hi' ho listed vals a w5 hdep hM hAt K hK
    have HI := Lib.hid hM.inv
    obtain ⟨ib, ob, im, hib, hob, him, hS5⟩ := HI.out
    have HS5 := Lib.hid hS5
    clear hS5
    match iq, hi' with
    | 0, _ =>
      injection ho with ho
      subst ho
      rw [if_pos (wantedN rfl)]
      obtain ⟨e10, e10'⟩ := hAt.slot 10 (by kernel_rfl) (by rfl)
      go_simp
      exact hK _ w5 trivial HI.out rfl
    | 1, _ =>
      injection ho with ho
      subst ho
      rw [if_pos (wantedN rfl)]
      obtain ⟨e11, e11'⟩ := hAt.slot 11 (by kernel_rfl) (by rfl)
      go_simp
      exact hK _ w5 trivial HI.out rfl
    | 2, _ =>
      injection ho with ho
      subst ho
      rw [if_pos (wantedN rfl)]
      obtain ⟨e10, e10'⟩ := hAt.slot 10 (by kernel_rfl) (by rfl)
      go_simp
      exact hK _ w5 trivial HI.out rfl
    | 3, _ =>
      injection ho with ho
      subst ho
      rw [if_pos (wantedN rfl)]
      obtain ⟨e4, e4'⟩ := hAt.slot 4 (by kernel_rfl) (by rfl)
      have q0 := HS5.out.k4.cells 0 _ rfl
      have q1 := HS5.out.k4.lt
      go_simp
      exact hK _ w5 trivial HI.out rfl
    | 4, _ =>
      injection ho with ho
      subst ho
      rw [if_pos (wantedN rfl)]
      have l3 := hdep ⟨3, .data⟩ (by simp) rfl
      obtain ⟨x3, x3'⟩ := hAt.dep 3 (d := 22) (by omega) l3 (by rfl) (hM.fact 3 (by omega) l3)
      go_simp
      refine (pullE_any g L c zs 2 w5 HS5.out.ch (by omega)).mono ?_
      rintro e w6 ⟨p6, rfl, _, p61, hC6, hg6⟩
      obtain ⟨p62, p63⟩ := p61 (by omega)
      exact hK _ w6 trivial ⟨ib, ob, im, hib, hob, him, HS5.out.pull hg6 hC6⟩ ⟨p6, rfl, p62, by omega⟩
    | 5, _ =>
      injection ho with ho
      subst ho
      rw [if_pos (wantedN rfl)]
      obtain ⟨e4, e4'⟩ := hAt.slot 4 (by kernel_rfl) (by rfl)
      have q0 := HS5.out.k4.cells 0 _ rfl
      have q1 := HS5.out.k4.lt
      go_simp
      exact hK _ w5 trivial HI.out rfl
    | 6, _ =>
      injection ho with ho
      subst ho
      rw [if_pos (wantedN rfl)]
      have l5 := hdep ⟨5, .data⟩ (by simp) rfl
      obtain ⟨x5, x5'⟩ := hAt.dep 5 (d := 24) (by omega) l5 (by rfl) (hM.fact 5 (by omega) l5)
      go_simp
      refine (pullE_any g L c zs 2 w5 HS5.out.ch (by omega)).mono ?_
      rintro e w6 ⟨p6, rfl, _, p61, hC6, hg6⟩
      obtain ⟨p62, p63⟩ := p61 (by omega)
      exact hK _ w6 trivial ⟨ib, ob, im, hib, hob, him, HS5.out.pull hg6 hC6⟩ ⟨p6, rfl, p62, by omega⟩
    | 7, _ =>
      injection ho with ho
      subst ho
      rw [if_pos (wantedN rfl)]
      obtain ⟨e4, e4'⟩ := hAt.slot 4 (by kernel_rfl) (by rfl)
      have q0 := HS5.out.k4.cells 0 _ rfl
      have q1 := HS5.out.k4.lt
      go_simp
      exact hK _ w5 trivial HI.out rfl
    | 8, _ =>
      injection ho with ho
      subst ho
      rw [if_pos (wantedN rfl)]
      have l7 := hdep ⟨7, .data⟩ (by simp) rfl
      obtain ⟨x7, x7'⟩ := hAt.dep 7 (d := 26) (by omega) l7 (by rfl) (hM.fact 7 (by omega) l7)
      go_simp
      refine (pullE_any g L c zs 90 w5 HS5.out.ch (by omega)).mono ?_
      rintro e w6 ⟨p6, rfl, _, p61, hC6, hg6⟩
      obtain ⟨p62, p63⟩ := p61 (by omega)
      exact hK _ w6 trivial ⟨ib, ob, im, hib, hob, him, HS5.out.pull hg6 hC6⟩ ⟨p6, rfl, p62, by omega⟩
    | 9, _ =>
      injection ho with ho
      subst ho
      rw [if_pos (wantedN rfl)]
      have l0 := hdep ⟨0, .data⟩ (by simp) rfl
      obtain ⟨x0, x0'⟩ := hAt.dep 0 (d := 19) (by omega) l0 (by rfl) (hM.fact 0 (by omega) l0)
      go_simp
      exact hK _ w5 trivial HI.out rfl
    | 10, _ =>
      injection ho with ho
      subst ho
      rw [if_pos (wantedN rfl)]
      have l9 := hdep ⟨9, .data⟩ (by simp) rfl
      obtain ⟨x9, x9'⟩ := hAt.dep 9 (d := 28) (by omega) l9 (by rfl) (hM.fact 9 (by omega) l9)
      go_simp
      exact hK _ w5 trivial HI.out rfl
    | 11, _ =>
      injection ho with ho
      subst ho
      rw [if_pos (wantedN rfl)]
      have l10 := hdep ⟨10, .data⟩ (by simp) rfl
      obtain ⟨x10, x10'⟩ := hAt.dep 10 (d := 29) (by omega) l10 (by rfl) (hM.fact 10 (by omega) l10)
      have l4 := hdep ⟨4, .data⟩ (by simp) rfl
      obtain ⟨r4, f4, r41, r42⟩ := hM.fact 4 (by omega) l4
      obtain ⟨x4, x4'⟩ := hAt.dep 4 (d := 23) (by omega) l4 (by rfl) f4
      have q0 := HS5.out.k9.cells 0 _ rfl
      have q1 := HS5.out.k9.free 0
      have q2 := HS5.out.k9.lt
      go_simp
      exact hK undef _ trivial ⟨r4, ob, im, ⟨r41, r42⟩, hob, him, HS5.out.set9 (j := 0) (by simp) _⟩ trivial
    | 12, _ =>
      injection ho with ho
      subst ho
      rw [if_pos (wantedN rfl)]
      have l1 := hdep ⟨1, .data⟩ (by simp) rfl
      obtain ⟨x1, x1'⟩ := hAt.dep 1 (d := 20) (by omega) l1 (by rfl) (hM.fact 1 (by omega) l1)
      go_simp
      exact hK _ w5 trivial HI.out rfl
    | 13, _ =>
      injection ho with ho
      subst ho
      rw [if_pos (wantedN rfl)]
      have l12 := hdep ⟨12, .data⟩ (by simp) rfl
      obtain ⟨x12, x12'⟩ := hAt.dep 12 (d := 30) (by omega) l12 (by rfl) (hM.fact 12 (by omega) l12)
      go_simp
      exact hK _ w5 trivial HI.out rfl
    | 14, _ =>
      injection ho with ho
      subst ho
      rw [if_pos (wantedN rfl)]
      have l13 := hdep ⟨13, .data⟩ (by simp) rfl
      obtain ⟨x13, x13'⟩ := hAt.dep 13 (d := 31) (by omega) l13 (by rfl) (hM.fact 13 (by omega) l13)
      have l6 := hdep ⟨6, .data⟩ (by simp) rfl
      obtain ⟨r6, f6, r61, r62⟩ := hM.fact 6 (by omega) l6
      obtain ⟨x6, x6'⟩ := hAt.dep 6 (d := 25) (by omega) l6 (by rfl) f6
      have q0 := HS5.out.k9.cells 3 _ rfl
      have q1 := HS5.out.k9.free 3
      have q2 := HS5.out.k9.lt
      go_simp
      exact hK undef _ trivial ⟨ib, r6, im, hib, ⟨r61, r62⟩, him, HS5.out.set9 (j := 3) (by simp) _⟩ trivial
    | 15, _ =>
      injection ho with ho
      subst ho
      rw [if_pos (wantedN rfl)]
      have l2 := hdep ⟨2, .data⟩ (by simp) rfl
      obtain ⟨x2, x2'⟩ := hAt.dep 2 (d := 21) (by omega) l2 (by rfl) (hM.fact 2 (by omega) l2)
      go_simp
      exact hK _ w5 trivial HI.out rfl
    | 16, _ =>
      injection ho with ho
      subst ho
      rw [if_pos (wantedN rfl)]
      have l15 := hdep ⟨15, .data⟩ (by simp) rfl
      obtain ⟨x15, x15'⟩ := hAt.dep 15 (d := 32) (by omega) l15 (by rfl) (hM.fact 15 (by omega) l15)
      go_simp
      exact hK _ w5 trivial HI.out rfl
    | 17, _ =>
      injection ho with ho
      subst ho
      rw [if_pos (wantedN rfl)]
      have l16 := hdep ⟨16, .data⟩ (by simp) rfl
      obtain ⟨x16, x16'⟩ := hAt.dep 16 (d := 33) (by omega) l16 (by rfl) (hM.fact 16 (by omega) l16)
      have l8 := hdep ⟨8, .data⟩ (by simp) rfl
      obtain ⟨r8, f8, r81, r82⟩ := hM.fact 8 (by omega) l8
      obtain ⟨x8, x8'⟩ := hAt.dep 8 (d := 27) (by omega) l8 (by rfl) f8
      have q0 := HS5.out.k9.cells 1 _ rfl
      have q1 := HS5.out.k9.free 1
      have q2 := HS5.out.k9.lt
      go_simp
      exact hK undef _ trivial ⟨ib, ob, r8, hib, hob, ⟨r81, r82⟩, HS5.out.set9 (j := 1) (by simp) _⟩ trivial
    | jq + 18, hq => exact absurd hq (by omega)
  · intro vals w5 hM
    have HI := Lib.hid hM.inv
    have f0 : vals 0 = .pointer (some ⟨b9, 0, none⟩) := hM.all (by decide) 0 (by omega)
    have f1 : vals 1 = .pointer (some ⟨b9, 3, none⟩) := hM.all (by decide) 1 (by omega)
    have f2 : vals 2 = .pointer (some ⟨b9, 0, none⟩) := hM.all (by decide) 2 (by omega)
    have f3 : vals 3 = .pointer (some ⟨g, 0, none⟩) := hM.all (by decide) 3 (by omega)
    obtain ⟨r4, f4, r41, r42⟩ := hM.all (by decide) 4 (by omega)
    have f5 : vals 5 = .pointer (some ⟨g, 0, none⟩) := hM.all (by decide) 5 (by omega)
    obtain ⟨r6, f6, r61, r62⟩ := hM.all (by decide) 6 (by omega)
    have f7 : vals 7 = .pointer (some ⟨g, 0, none⟩) := hM.all (by decide) 7 (by omega)
    obtain ⟨r8, f8, r81, r82⟩ := hM.all (by decide) 8 (by omega)
    have f9 : vals 9 = .pointer (some ⟨b9, 0, none⟩) := hM.all (by decide) 9 (by omega)
    have f10 : vals 10 = .pointer (some ⟨b9, 0, none⟩) := hM.all (by decide) 10 (by omega)
    have f12 : vals 12 = .pointer (some ⟨b9, 3, none⟩) := hM.all (by decide) 12 (by omega)
    have f13 : vals 13 = .pointer (some ⟨b9, 3, none⟩) := hM.all (by decide) 13 (by omega)
    have f15 : vals 15 = .pointer (some ⟨b9, 0, none⟩) := hM.all (by decide) 15 (by omega)
    have f16 : vals 16 = .pointer (some ⟨b9, 1, none⟩) := hM.all (by decide) 16 (by omega)
    clear hM
    simp only [putAll, List.range, List.range.loop, List.foldl_cons, List.foldl_nil, f0, f1, f2, f3, f4, f5, f6, f7, f8, f9, f10, f12, f13, f15, f16]
    clear f0 f1 f2 f3 f4 f5 f6 f7 f8 f9 f10 f12 f13 f15 f16
    change wpAny _ _ _ _ _ _ (Act.put (Act.put (Act.put (Act.put (Act.put (Act.put (Act.put (Act.put (Act.put (Act.put (Act.put (Act.put (Act.put (Act.put (Act.put (Act.put (Act.put (Act.put _ (some 19) _) (some 20) _) (some 21) _) (some 22) _) (some 23) _) (some 24) _) (some 25) _) (some 26) _) (some 27) _) (some 28) _) (some 29) _) none _) (some 30) _) (some 31) _) none _) (some 32) _) (some 33) _) none _) _
    simp only [Act.put, List.setIfInBounds_toArray, List.set_cons_zero, List.set_cons_succ]
    refine wpAny_done (by kernel_rfl) ?_ _
    obtain ⟨ib, ob, im, hib, hob, him, hS5⟩ := HI.out
    have HS := Lib.hid hS5
    obtain ⟨kib, rfl⟩ : ∃ k : Nat, ib = (k : Nat) := ⟨ib.toNat, by omega⟩
    obtain ⟨kob, rfl⟩ : ∃ k : Nat, ob = (k : Nat) := ⟨ob.toNat, by omega⟩
    obtain ⟨im0, im1⟩ := him
    have hkib : kib < 2 := by omega
    have hkob : kob < 2 := by omega
    clear HI hS5 hib hob
    go_wp2_with fail
    refine wp_inv 8 (by kernel_rfl) (by kernel_rfl) (by kernel_rfl) (by decide) (FL [PEq (.pointer (some ⟨b9, 3, none⟩)), PEq (.pointer (some ⟨b9, 0, none⟩)), PEq (.pointer (some ⟨b9, 0, none⟩)), PEq (.pointer (some ⟨b9, 1, none⟩)), PEq (.int .i64 im), PEq (.pointer (some ⟨g, 0, none⟩)), PNum 1 40, PNum (im + 1) (im + 40)])
      (fun x => DvS w x g L c zs b4 b5 b8 b9 db e0 e1 sp st D0 D1 [.int .i64 ((kib : Nat)), .int .i64 im, .int .i64 0, .int .i64 ((kob : Nat)), .int .i64 0, .int .i64 0, .int .i64 mud]) (fun _ _ => True) (FL.keepT (by simp [stbT_eq, stbT_num])) (HS.out.drewN 1) ?_ ?_
    · intro iq o hi' ho listed vals a w5 hdep hM hAt K hK
      have HI := Lib.hid hM.inv
      match iq, hi' with
      | 0, _ =>
        injection ho with ho
        subst ho
        obtain ⟨e11, e11'⟩ := hAt.slot 11 (by kernel_rfl) (by rfl)
        go_simp
        exact hK _ w5 trivial HI.out rfl
      | 1, _ =>
        injection ho with ho
        subst ho
        obtain ⟨e10, e10'⟩ := hAt.slot 10 (by kernel_rfl) (by rfl)
        go_simp
        exact hK _ w5 trivial HI.out rfl
      | 2, _ =>
        injection ho with ho
        subst ho
        have l1 := hdep ⟨1, .data⟩ (by simp) rfl
        obtain ⟨x1, x1'⟩ := hAt.dep 1 (d := 35) (by omega) l1 (by rfl) (hM.fact 1 (by omega) l1)
        go_simp
        exact hK _ w5 trivial HI.out rfl
      | 3, _ =>
        injection ho with ho
        subst ho
        have l2 := hdep ⟨2, .data⟩ (by simp) rfl
        obtain ⟨x2, x2'⟩ := hAt.dep 2 (d := 36) (by omega) l2 (by rfl) (hM.fact 2 (by omega) l2)
        go_simp
        exact hK _ w5 trivial HI.out rfl
      | 4, _ =>
        injection ho with ho
        subst ho
        have l3 := hdep ⟨3, .data⟩ (by simp) rfl
        obtain ⟨x3, x3'⟩ := hAt.dep 3 (d := 37) (by omega) l3 (by rfl) (hM.fact 3 (by omega) l3)
        have q0 := HI.out.k9.cells 1 _ rfl
        have q1 := HI.out.k9.lt
        go_simp
        exact hK _ w5 trivial HI.out rfl
      | 5, _ =>
        injection ho with ho
        subst ho
        obtain ⟨e4, e4'⟩ := hAt.slot 4 (by kernel_rfl) (by rfl)
        have q0 := HI.out.k4.cells 0 _ rfl
        have q1 := HI.out.k4.lt
        go_simp
        exact hK _ w5 trivial HI.out rfl
      | 6, _ =>
        injection ho with ho
        subst ho
        have l5 := hdep ⟨5, .data⟩ (by simp) rfl
        obtain ⟨x5, x5'⟩ := hAt.dep 5 (d := 39) (by omega) l5 (by rfl) (hM.fact 5 (by omega) l5)
        go_simp
        refine (betweenE_any g L c zs 1 40 w5 HI.out.ch (by omega) (by omega) (by omega)).mono ?_
        rintro e w6 ⟨p6, rfl, p61, p62, hC6, hg6⟩
        exact hK _ w6 trivial (HI.out.pull hg6 hC6) ⟨p6, rfl, p61, p62⟩
      | 7, _ =>
        injection ho with ho
        subst ho
        have l4 := hdep ⟨4, .data⟩ (by simp) rfl
        obtain ⟨x4, x4'⟩ := hAt.dep 4 (d := 38) (by omega) l4 (by rfl) (hM.fact 4 (by omega) l4)
        have l6 := hdep ⟨6, .data⟩ (by simp) rfl
        obtain ⟨r6, f6, r61, r62⟩ := hM.fact 6 (by omega) l6
        obtain ⟨x6, x6'⟩ := hAt.dep 6 (d := 40) (by omega) l6 (by rfl) f6
        go_simp
        have hw : IntKind.i64.wrap (im + r6) = im + r6 := IntWalk.i64_in _ (by omega)
        exact hK _ w5 trivial HI.out ⟨im + r6, by rw [hw], by omega, by omega⟩
      | jq + 8, hq => exact absurd hq (by omega)
    · intro vals w5 hM
      have HI := Lib.hid hM.inv
      have f0 : vals 0 = .pointer (some ⟨b9, 3, none⟩) := hM.all (by decide) 0 (by omega)
      have f1 : vals 1 = .pointer (some ⟨b9, 0, none⟩) := hM.all (by decide) 1 (by omega)
      have f2 : vals 2 = .pointer (some ⟨b9, 0, none⟩) := hM.all (by decide) 2 (by omega)
      have f3 : vals 3 = .pointer (some ⟨b9, 1, none⟩) := hM.all (by decide) 3 (by omega)
      have f4 : vals 4 = .int .i64 im := hM.all (by decide) 4 (by omega)
      have f5 : vals 5 = .pointer (some ⟨g, 0, none⟩) := hM.all (by decide) 5 (by omega)
      obtain ⟨r6, f6, r61, r62⟩ := hM.all (by decide) 6 (by omega)
      obtain ⟨r7, f7, r71, r72⟩ := hM.all (by decide) 7 (by omega)
      clear hM
      simp only [putAll, List.range, List.range.loop, List.foldl_cons, List.foldl_nil, f0, f1, f2, f3, f4, f5, f6, f7]
      clear f0 f1 f2 f3 f4 f5 f6 f7
      change wpAny _ _ _ _ _ _ (Act.put (Act.put (Act.put (Act.put (Act.put (Act.put (Act.put (Act.put _ (some 34) _) (some 35) _) (some 36) _) (some 37) _) (some 38) _) (some 39) _) (some 40) _) (some 41) _) _
      simp only [Act.put, List.setIfInBounds_toArray, List.set_cons_zero, List.set_cons_succ]
      refine tail_step 8 _ (by kernel_rfl) rfl rfl (fun K' hK => ?_)
      go_simp
      refine hK _ _ ?_
      clear hK K'
      refine tail_step 9 _ (by kernel_rfl) rfl rfl (fun K' hK => ?_)
      go_simp
      refine hK _ _ ?_
      clear hK K'
      refine tail_step 10 _ (by kernel_rfl) rfl rfl (fun K' hK => ?_)
      have q0 := HI.out.k9.cells 4 _ rfl
      have q1 := HI.out.k9.free 4
      have q2 := HI.out.k9.lt
      go_simp
      refine hK _ _ ?_
      clear hK K' q0 q1 q2
      refine wpAny_done (by kernel_rfl) ?_ _
      have HS4 : Hid (DvS w (w5.setCell ⟨b9, 4, none⟩ (.int .i64 r7)) g L c zs b4 b5 b8 b9 db e0 e1 sp st D0 D1 [.int .i64 ((kib : Nat)), .int .i64 im, .int .i64 0, .int .i64 ((kob : Nat)), .int .i64 r7, .int .i64 0, .int .i64 mud]) := Lib.hid (HI.out.set9 (j := 4) (by simp) (.int .i64 r7))
      clear HI HS
      obtain ⟨om, HOM⟩ : ∃ om, Hid (r7 = om) := ⟨_, Lib.hid rfl⟩
      rw [HOM.out] at HS4 r71 r72 ⊢
      have HS := HS4
      clear HS4 HOM r7
      generalize w5.setCell ⟨b9, 4, none⟩ (.int .i64 om) = W4 at HS ⊢
      obtain ⟨D, HDK⟩ : ∃ D, Hid (pickD D0 D1 kob = D) := ⟨_, Lib.hid rfl⟩
      obtain ⟨ev, HEK⟩ : ∃ ev, Hid ((if kob = 0 then e0 else e1) = ev) := ⟨_, Lib.hid rfl⟩
      obtain ⟨V, HVK⟩ : ∃ V, Hid (valueD D.f D.cs om = V) := ⟨_, Lib.hid rfl⟩
      have hV : valB D0.f D0.cs D1.f D1.cs (kob : Nat) om = V := by rw [← HVK.out, ← HDK.out]; exact pickD_val _ _ _ _
      have hE : (if ((kob : Nat) : Int) = 0 then e0 else e1) = ev := by rw [← HEK.out]; by_cases h : kob = 0 <;> simp [h]
      have hV9 : -9 ≤ V ∧ V ≤ 9 := by rw [← HVK.out, ← HDK.out]; exact pickD_bd hd0 hd1 _ _
      obtain ⟨hv0, hv1⟩ := hV9
      have hev : 0 ≤ ev ∧ ev ≤ 3 := by rw [← HEK.out]; split <;> omega
      obtain ⟨hev0, hev1⟩ := hev
      have hDl : D.cs.length ≤ 1000 := by rw [← HDK.out]; exact pickD_len hd0 hd1 _
      have HAT := fun (x : World) (h : DvS w x g L c zs b4 b5 b8 b9 db e0 e1 sp st D0 D1 [.int .i64 ((kib : Nat)), .int .i64 im, .int .i64 0, .int .i64 ((kob : Nat)), .int .i64 om, .int .i64 0, .int .i64 mud]) => Lib.hid (lat_any D.f D.A D.q D.cs om x ((h.dr.pick hkob HDK.out).2.2) hDl)
      rw [HVK.out] at HAT
      unfold drV at HAT
      have HER := fun (x : World) (h : DvS w x g L c zs b4 b5 b8 b9 db e0 e1 sp st D0 D1 [.int .i64 ((kib : Nat)), .int .i64 im, .int .i64 0, .int .i64 ((kob : Nat)), .int .i64 om, .int .i64 0, .int .i64 mud]) => Lib.hid (drvErr_any g L c zs b4 b5 kob ev x h.ch (h.k4.cells 0 _ rfl) (h.err hkob HEK.out) h.k4.lt h.k5.lt h.n4 h.n5 hkob ⟨hev0, by omega⟩)
      go_wp2_with fail
      refine wp_inv 21 (by kernel_rfl) (by kernel_rfl) (by kernel_rfl) (by decide) (FL [PEq (.pointer (some ⟨b9, 3, none⟩)), PEq (.slice (some ⟨db, 0, none⟩) 2 2), PEq (.pointer (some ⟨b9, 3, none⟩)), PEq (.pointer (some ⟨b9, 3, none⟩)), PEq (.pointer (some ⟨b9, 3, none⟩)), PEq (.int .i64 (kob : Nat)), PEq (.pointer (some ⟨db, kob * 2, none⟩)), PEq (.agg #[.int .i64 D.f, .slice D.A D.cs.length D.q]), PEq (.pointer (some ⟨b9, 3, none⟩)), PEq (.pointer (some ⟨b9, 3, none⟩)), PEq (.pointer (some ⟨b9, 4, none⟩)), PEq (.int .i64 om), PEq (.int .i64 V), PEq (.int .i64 (500 + V)), PEq (.func (.func 144) #[] #[.pointer (some ⟨b4, 0, none⟩), .pointer (some ⟨b5, 0, none⟩)]), PEq (.pointer (some ⟨b9, 3, none⟩)), PEq (.pointer (some ⟨b9, 3, none⟩)), PEq (.pointer (some ⟨b9, 3, none⟩)), PEq (.int .i64 (kob : Nat)), PNum (-ev) ev, PNum (500 + V - ev) (500 + V + ev)])
        (fun x => DvS w x g L c zs b4 b5 b8 b9 db e0 e1 sp st D0 D1 [.int .i64 ((kib : Nat)), .int .i64 im, .int .i64 0, .int .i64 ((kob : Nat)), .int .i64 om, .int .i64 0, .int .i64 mud]) (fun _ _ => True) (FL.keepT (by simp [stbT_eq, stbT_num])) (HS.out.drewN 1) ?_ ?_
      · intro iq o hi' ho listed vals a w5 hdep hM hAt K hK
        have HI := Lib.hid hM.inv
        match iq, hi' with
        | 0, _ =>
          injection ho with ho
          subst ho
          obtain ⟨e11, e11'⟩ := hAt.slot 11 (by kernel_rfl) (by rfl)
          go_simp
          exact hK _ w5 trivial HI.out rfl
        | 1, _ =>
          injection ho with ho
          subst ho
          obtain ⟨e2, e2'⟩ := hAt.slot 2 (by kernel_rfl) (by rfl)
          go_simp
          exact hK _ w5 trivial HI.out rfl
        | 2, _ =>
          injection ho with ho
          subst ho
          obtain ⟨e11, e11'⟩ := hAt.slot 11 (by kernel_rfl) (by rfl)
          go_simp
          exact hK _ w5 trivial HI.out rfl
        | 3, _ =>
          injection ho with ho
          subst ho
          have l2 := hdep ⟨2, .data⟩ (by simp) rfl
          obtain ⟨x2, x2'⟩ := hAt.dep 2 (d := 46) (by omega) l2 (by rfl) (hM.fact 2 (by omega) l2)
          go_simp
          exact hK _ w5 trivial HI.out rfl
        | 4, _ =>
          injection ho with ho
          subst ho
          have l3 := hdep ⟨3, .data⟩ (by simp) rfl
          obtain ⟨x3, x3'⟩ := hAt.dep 3 (d := 47) (by omega) l3 (by rfl) (hM.fact 3 (by omega) l3)
          go_simp
          exact hK _ w5 trivial HI.out rfl
        | 5, _ =>
          injection ho with ho
          subst ho
          have l4 := hdep ⟨4, .data⟩ (by simp) rfl
          obtain ⟨x4, x4'⟩ := hAt.dep 4 (d := 48) (by omega) l4 (by rfl) (hM.fact 4 (by omega) l4)
          have q0 := HI.out.k9.cells 3 _ rfl
          have q1 := HI.out.k9.lt
          go_simp
          exact hK _ w5 trivial HI.out rfl
        | 6, _ =>
          injection ho with ho
          subst ho
          have l1 := hdep ⟨1, .data⟩ (by simp) rfl
          obtain ⟨x1, x1'⟩ := hAt.dep 1 (d := 45) (by omega) l1 (by rfl) (hM.fact 1 (by omega) l1)
          have l5 := hdep ⟨5, .data⟩ (by simp) rfl
          obtain ⟨x5, x5'⟩ := hAt.dep 5 (d := 49) (by omega) l5 (by rfl) (hM.fact 5 (by omega) l5)
          have n0 : (0 : Int) ≤ (kob : Int) := by omega
          have n1 : (kob : Int) < 2 := by omega
          go_simp
          exact hK _ w5 trivial HI.out rfl
        | 7, _ =>
          injection ho with ho
          subst ho
          have l6 := hdep ⟨6, .data⟩ (by simp) rfl
          obtain ⟨x6, x6'⟩ := hAt.dep 6 (d := 50) (by omega) l6 (by rfl) (hM.fact 6 (by omega) l6)
          obtain ⟨q0, q1, q2⟩ := HI.out.dr.pick hkob HDK.out
          go_simp
          exact hK _ w5 trivial HI.out rfl
        | 8, _ =>
          injection ho with ho
          subst ho
          obtain ⟨e11, e11'⟩ := hAt.slot 11 (by kernel_rfl) (by rfl)
          go_simp
          exact hK _ w5 trivial HI.out rfl
        | 9, _ =>
          injection ho with ho
          subst ho
          have l8 := hdep ⟨8, .data⟩ (by simp) rfl
          obtain ⟨x8, x8'⟩ := hAt.dep 8 (d := 52) (by omega) l8 (by rfl) (hM.fact 8 (by omega) l8)
          go_simp
          exact hK _ w5 trivial HI.out rfl
        | 10, _ =>
          injection ho with ho
          subst ho
          have l9 := hdep ⟨9, .data⟩ (by simp) rfl
          obtain ⟨x9, x9'⟩ := hAt.dep 9 (d := 53) (by omega) l9 (by rfl) (hM.fact 9 (by omega) l9)
          go_simp
          exact hK _ w5 trivial HI.out rfl
        | 11, _ =>
          injection ho with ho
          subst ho
          have l10 := hdep ⟨10, .data⟩ (by simp) rfl
          obtain ⟨x10, x10'⟩ := hAt.dep 10 (d := 54) (by omega) l10 (by rfl) (hM.fact 10 (by omega) l10)
          have q0 := HI.out.k9.cells 4 _ rfl
          have q1 := HI.out.k9.lt
          go_simp
          exact hK _ w5 trivial HI.out rfl
        | 12, _ =>
          injection ho with ho
          subst ho
          have l7 := hdep ⟨7, .data⟩ (by simp) rfl
          obtain ⟨x7, x7'⟩ := hAt.dep 7 (d := 51) (by omega) l7 (by rfl) (hM.fact 7 (by omega) l7)
          have l11 := hdep ⟨11, .data⟩ (by simp) rfl
          obtain ⟨x11, x11'⟩ := hAt.dep 11 (d := 55) (by omega) l11 (by rfl) (hM.fact 11 (by omega) l11)
          go_simp
          refine ((HAT w5 HI.out).out).mono ?_
          rintro e w6 ⟨rfl, hb6⟩
          exact hK _ w6 trivial (HI.out.below hb6) rfl
        | 13, _ =>
          injection ho with ho
          subst ho
          have l12 := hdep ⟨12, .data⟩ (by simp) rfl
          obtain ⟨x12, x12'⟩ := hAt.dep 12 (d := 56) (by omega) l12 (by rfl) (hM.fact 12 (by omega) l12)
          have hw : IntKind.i64.wrap (500 + V) = 500 + V := IntWalk.i64_in _ (by omega)
          go_simp
          exact hK _ w5 trivial HI.out rfl
        | 14, _ =>
          injection ho with ho
          subst ho
          obtain ⟨e12, e12'⟩ := hAt.slot 12 (by kernel_rfl) (by rfl)
          go_simp
          exact hK _ w5 trivial HI.out rfl
        | 15, _ =>
          injection ho with ho
          subst ho
          obtain ⟨e11, e11'⟩ := hAt.slot 11 (by kernel_rfl) (by rfl)
          go_simp
          exact hK _ w5 trivial HI.out rfl
        | 16, _ =>
          injection ho with ho
          subst ho
          have l15 := hdep ⟨15, .data⟩ (by simp) rfl
          obtain ⟨x15, x15'⟩ := hAt.dep 15 (d := 59) (by omega) l15 (by rfl) (hM.fact 15 (by omega) l15)
          go_simp
          exact hK _ w5 trivial HI.out rfl
        | 17, _ =>
          injection ho with ho
          subst ho
          have l16 := hdep ⟨16, .data⟩ (by simp) rfl
          obtain ⟨x16, x16'⟩ := hAt.dep 16 (d := 60) (by omega) l16 (by rfl) (hM.fact 16 (by omega) l16)
          go_simp
          exact hK _ w5 trivial HI.out rfl
        | 18, _ =>
          injection ho with ho
          subst ho
          have l17 := hdep ⟨17, .data⟩ (by simp) rfl
          obtain ⟨x17, x17'⟩ := hAt.dep 17 (d := 61) (by omega) l17 (by rfl) (hM.fact 17 (by omega) l17)
          have q0 := HI.out.k9.cells 3 _ rfl
          have q1 := HI.out.k9.lt
          go_simp
          exact hK _ w5 trivial HI.out rfl
        | 19, _ =>
          injection ho with ho
          subst ho
          have l14 := hdep ⟨14, .data⟩ (by simp) rfl
          obtain ⟨x14, x14'⟩ := hAt.dep 14 (d := 58) (by omega) l14 (by rfl) (hM.fact 14 (by omega) l14)
          have l18 := hdep ⟨18, .data⟩ (by simp) rfl
          obtain ⟨x18, x18'⟩ := hAt.dep 18 (d := 62) (by omega) l18 (by rfl) (hM.fact 18 (by omega) l18)
          go_simp
          refine (HER w5 HI.out).out.mono ?_
          rintro e w6 ⟨p6, rfl, p61, p62, hC6, hg6⟩
          exact hK _ w6 trivial (HI.out.pull hg6 hC6) ⟨p6, rfl, p61, p62⟩
        | 20, _ =>
          injection ho with ho
          subst ho
          have l13 := hdep ⟨13, .data⟩ (by simp) rfl
          obtain ⟨x13, x13'⟩ := hAt.dep 13 (d := 57) (by omega) l13 (by rfl) (hM.fact 13 (by omega) l13)
          have l19 := hdep ⟨19, .data⟩ (by simp) rfl
          obtain ⟨r19, f19, r1, r2⟩ := hM.fact 19 (by omega) l19
          obtain ⟨x19, x19'⟩ := hAt.dep 19 (d := 63) (by omega) l19 (by rfl) f19
          go_simp
          have hw : IntKind.i64.wrap (500 + V + r19) = 500 + V + r19 := IntWalk.i64_in _ (by omega)
          exact hK _ w5 trivial HI.out ⟨500 + V + r19, by rw [hw], by omega, by omega⟩
        | jq + 21, hq => exact absurd hq (by omega)
      · intro vals w5 hM
        have HI := Lib.hid hM.inv
        have f0 : vals 0 = .pointer (some ⟨b9, 3, none⟩) := hM.all (by decide) 0 (by omega)
        have f1 : vals 1 = .slice (some ⟨db, 0, none⟩) 2 2 := hM.all (by decide) 1 (by omega)
        have f2 : vals 2 = .pointer (some ⟨b9, 3, none⟩) := hM.all (by decide) 2 (by omega)
        have f3 : vals 3 = .pointer (some ⟨b9, 3, none⟩) := hM.all (by decide) 3 (by omega)
        have f4 : vals 4 = .pointer (some ⟨b9, 3, none⟩) := hM.all (by decide) 4 (by omega)
        have f5 : vals 5 = .int .i64 (kob : Nat) := hM.all (by decide) 5 (by omega)
        have f6 : vals 6 = .pointer (some ⟨db, kob * 2, none⟩) := hM.all (by decide) 6 (by omega)
        have f7 : vals 7 = .agg #[.int .i64 D.f, .slice D.A D.cs.length D.q] := hM.all (by decide) 7 (by omega)
        have f8 : vals 8 = .pointer (some ⟨b9, 3, none⟩) := hM.all (by decide) 8 (by omega)
        have f9 : vals 9 = .pointer (some ⟨b9, 3, none⟩) := hM.all (by decide) 9 (by omega)
        have f10 : vals 10 = .pointer (some ⟨b9, 4, none⟩) := hM.all (by decide) 10 (by omega)
        have f11 : vals 11 = .int .i64 om := hM.all (by decide) 11 (by omega)
        have f12 : vals 12 = .int .i64 V := hM.all (by decide) 12 (by omega)
        have f13 : vals 13 = .int .i64 (500 + V) := hM.all (by decide) 13 (by omega)
        have f14 : vals 14 = .func (.func 144) #[] #[.pointer (some ⟨b4, 0, none⟩), .pointer (some ⟨b5, 0, none⟩)] := hM.all (by decide) 14 (by omega)
        have f15 : vals 15 = .pointer (some ⟨b9, 3, none⟩) := hM.all (by decide) 15 (by omega)
        have f16 : vals 16 = .pointer (some ⟨b9, 3, none⟩) := hM.all (by decide) 16 (by omega)
        have f17 : vals 17 = .pointer (some ⟨b9, 3, none⟩) := hM.all (by decide) 17 (by omega)
        have f18 : vals 18 = .int .i64 (kob : Nat) := hM.all (by decide) 18 (by omega)
        obtain ⟨r19, f19, r1, r2⟩ := hM.all (by decide) 19 (by omega)
        obtain ⟨r20, f20, r3, r4⟩ := hM.all (by decide) 20 (by omega)
        clear hM
        simp only [putAll, List.range, List.range.loop, List.foldl_cons, List.foldl_nil, f0, f1, f2, f3, f4, f5, f6, f7, f8, f9, f10, f11, f12, f13, f14, f15, f16, f17, f18, f19, f20]
        clear f0 f1 f2 f3 f4 f5 f6 f7 f8 f9 f10 f11 f12 f13 f14 f15 f16 f17 f18 f19 f20
        change wpAny _ _ _ _ _ _ (Act.put (Act.put (Act.put (Act.put (Act.put (Act.put (Act.put (Act.put (Act.put (Act.put (Act.put (Act.put (Act.put (Act.put (Act.put (Act.put (Act.put (Act.put (Act.put (Act.put (Act.put _ (some 44) _) (some 45) _) (some 46) _) (some 47) _) (some 48) _) (some 49) _) (some 50) _) (some 51) _) (some 52) _) (some 53) _) (some 54) _) (some 55) _) (some 56) _) (some 57) _) (some 58) _) (some 59) _) (some 60) _) (some 61) _) (some 62) _) (some 63) _) (some 64) _) _
        simp only [Act.put, List.setIfInBounds_toArray, List.set_cons_zero, List.set_cons_succ]
        refine tail_step 21 _ (by kernel_rfl) rfl rfl (fun K' hK => ?_)
        go_simp
        refine hK _ _ ?_
        clear hK K'
        refine tail_step 22 _ (by kernel_rfl) rfl rfl (fun K' hK => ?_)
        go_simp
        refine hK _ _ ?_
        clear hK K'
        refine tail_step 23 _ (by kernel_rfl) rfl rfl (fun K' hK => ?_)
        have q0 := HI.out.k9.cells 5 _ rfl
        have q1 := HI.out.k9.free 5
        have q2 := HI.out.k9.lt
        go_simp
        refine hK _ _ ?_
        clear hK K' q0 q1 q2
        refine wpAny_done (by kernel_rfl) ?_ _
        have HS5 : Hid (DvS w (w5.setCell ⟨b9, 5, none⟩ (.int .i64 r20)) g L c zs b4 b5 b8 b9 db e0 e1 sp st D0 D1 [.int .i64 ((kib : Nat)), .int .i64 im, .int .i64 0, .int .i64 ((kob : Nat)), .int .i64 om, .int .i64 r20, .int .i64 mud]) := Lib.hid (HI.out.set9 (j := 5) (by simp) (.int .i64 r20))
        have HR1 := Lib.hid (show -ev ≤ r20 - 500 - V ∧ r20 - 500 - V ≤ ev by omega)
        have HR2 := Lib.hid hV
        have HR3 := Lib.hid hE
        clear HI HS HAT HER hV hE r1 r2 r3 r4
        have HS := HS5
        clear HS5
        generalize w5.setCell ⟨b9, 5, none⟩ (.int .i64 r20) = W5 at HS ⊢
        clear HDK HEK HVK hv0 hv1 hev0 hev1 hDl
        obtain ⟨ro, HRO⟩ : ∃ ro, Hid (r20 = ro) := ⟨_, Lib.hid rfl⟩
        rw [HRO.out] at HR1 HS ⊢
        clear HRO r20
        obtain ⟨D, HDK⟩ : ∃ D, Hid (pickD D0 D1 kib = D) := ⟨_, Lib.hid rfl⟩
        obtain ⟨ev, HEK⟩ : ∃ ev, Hid ((if kib = 0 then e0 else e1) = ev) := ⟨_, Lib.hid rfl⟩
        obtain ⟨V, HVK⟩ : ∃ V, Hid (valueD D.f D.cs im = V) := ⟨_, Lib.hid rfl⟩
        have hV : valB D0.f D0.cs D1.f D1.cs (kib : Nat) im = V := by rw [← HVK.out, ← HDK.out]; exact pickD_val _ _ _ _
        have hE : (if ((kib : Nat) : Int) = 0 then e0 else e1) = ev := by rw [← HEK.out]; by_cases h : kib = 0 <;> simp [h]
        have hV9 : -9 ≤ V ∧ V ≤ 9 := by rw [← HVK.out, ← HDK.out]; exact pickD_bd hd0 hd1 _ _
        obtain ⟨hv0, hv1⟩ := hV9
        have hev : 0 ≤ ev ∧ ev ≤ 3 := by rw [← HEK.out]; split <;> omega
        obtain ⟨hev0, hev1⟩ := hev
        have hDl : D.cs.length ≤ 1000 := by rw [← HDK.out]; exact pickD_len hd0 hd1 _
        have HAT := fun (x : World) (h : DvS w x g L c zs b4 b5 b8 b9 db e0 e1 sp st D0 D1 [.int .i64 ((kib : Nat)), .int .i64 im, .int .i64 0, .int .i64 ((kob : Nat)), .int .i64 om, .int .i64 ro, .int .i64 mud]) => Lib.hid (lat_any D.f D.A D.q D.cs im x ((h.dr.pick hkib HDK.out).2.2) hDl)
        rw [HVK.out] at HAT
        unfold drV at HAT
        have HER := fun (x : World) (h : DvS w x g L c zs b4 b5 b8 b9 db e0 e1 sp st D0 D1 [.int .i64 ((kib : Nat)), .int .i64 im, .int .i64 0, .int .i64 ((kob : Nat)), .int .i64 om, .int .i64 ro, .int .i64 mud]) => Lib.hid (drvErr_any g L c zs b4 b5 kib ev x h.ch (h.k4.cells 0 _ rfl) (h.err hkib HEK.out) h.k4.lt h.k5.lt h.n4 h.n5 hkib ⟨hev0, by omega⟩)
        go_wp2_with fail
        refine wp_inv 28 (by kernel_rfl) (by kernel_rfl) (by kernel_rfl) (by decide) (FL [PEq (.pointer (some ⟨b9, 0, none⟩)), PEq (.pointer (some ⟨g, 0, none⟩)), PEq (.pointer (some ⟨b9, 6, none⟩)), PEq (.int .i64 mud), PNum 0 mud, PNum 500 (500 + mud), PEq (.int .i64 net), PNum (500 + net) (500 + mud + net), PEq (.slice (some ⟨db, 0, none⟩) 2 2), PEq (.pointer (some ⟨b9, 0, none⟩)), PEq (.pointer (some ⟨b9, 0, none⟩)), PEq (.pointer (some ⟨b9, 0, none⟩)), PEq (.int .i64 (kib : Nat)), PEq (.pointer (some ⟨db, kib * 2, none⟩)), PEq (.agg #[.int .i64 D.f, .slice D.A D.cs.length D.q]), PEq (.pointer (some ⟨b9, 0, none⟩)), PEq (.pointer (some ⟨b9, 0, none⟩)), PEq (.pointer (some ⟨b9, 1, none⟩)), PEq (.int .i64 im), PEq (.int .i64 V), PNum (500 + net + V) (500 + mud + net + V), PEq (.func (.func 144) #[] #[.pointer (some ⟨b4, 0, none⟩), .pointer (some ⟨b5, 0, none⟩)]), PEq (.pointer (some ⟨b9, 0, none⟩)), PEq (.pointer (some ⟨b9, 0, none⟩)), PEq (.pointer (some ⟨b9, 0, none⟩)), PEq (.int .i64 (kib : Nat)), PNum (-ev) ev, PNum (500 + net + V - ev) (500 + mud + net + V + ev)])
          (fun x => DvS w x g L c zs b4 b5 b8 b9 db e0 e1 sp st D0 D1 [.int .i64 ((kib : Nat)), .int .i64 im, .int .i64 0, .int .i64 ((kob : Nat)), .int .i64 om, .int .i64 ro, .int .i64 mud]) (fun _ _ => True) (FL.keepT (by simp [stbT_eq, stbT_num])) (HS.out.drewN 1) ?_ ?_
        · intro iq o hi' ho listed vals a w5 hdep hM hAt K hK
          have HI := Lib.hid hM.inv
          match iq, hi' with
          | 0, _ =>
            injection ho with ho
            subst ho
            obtain ⟨e10, e10'⟩ := hAt.slot 10 (by kernel_rfl) (by rfl)
            go_simp
            exact hK _ w5 trivial HI.out rfl
          | 1, _ =>
            injection ho with ho
            subst ho
            obtain ⟨e4, e4'⟩ := hAt.slot 4 (by kernel_rfl) (by rfl)
            have q0 := HI.out.k4.cells 0 _ rfl
            have q1 := HI.out.k4.lt
            go_simp
            exact hK _ w5 trivial HI.out rfl
          | 2, _ =>
            injection ho with ho
            subst ho
            obtain ⟨e9, e9'⟩ := hAt.slot 9 (by kernel_rfl) (by rfl)
            go_simp
            exact hK _ w5 trivial HI.out rfl
          | 3, _ =>
            injection ho with ho
            subst ho
            have l2 := hdep ⟨2, .data⟩ (by simp) rfl
            obtain ⟨x2, x2'⟩ := hAt.dep 2 (d := 69) (by omega) l2 (by rfl) (hM.fact 2 (by omega) l2)
            have q0 := HI.out.k9.cells 6 _ rfl
            have q1 := HI.out.k9.lt
            go_simp
            exact hK _ w5 trivial HI.out rfl
          | 4, _ =>
            injection ho with ho
            subst ho
            have l1 := hdep ⟨1, .data⟩ (by simp) rfl
            obtain ⟨x1, x1'⟩ := hAt.dep 1 (d := 68) (by omega) l1 (by rfl) (hM.fact 1 (by omega) l1)
            have l3 := hdep ⟨3, .data⟩ (by simp) rfl
            obtain ⟨x3, x3'⟩ := hAt.dep 3 (d := 70) (by omega) l3 (by rfl) (hM.fact 3 (by omega) l3)
            go_simp
            refine (betweenE_any g L c zs 0 mud w5 HI.out.ch (by omega) (by omega) (by omega)).mono ?_
            rintro e w6 ⟨p6, rfl, p61, p62, hC6, hg6⟩
            exact hK _ w6 trivial (HI.out.pull hg6 hC6) ⟨p6, rfl, p61, p62⟩
          | 5, _ =>
            injection ho with ho
            subst ho
            have l4 := hdep ⟨4, .data⟩ (by simp) rfl
            obtain ⟨r4, f4, r41, r42⟩ := hM.fact 4 (by omega) l4
            obtain ⟨x4, x4'⟩ := hAt.dep 4 (d := 71) (by omega) l4 (by rfl) f4
            go_simp
            have hw : IntKind.i64.wrap (500 + r4) = 500 + r4 := IntWalk.i64_in _ (by omega)
            exact hK _ w5 trivial HI.out ⟨500 + r4, by rw [hw], by omega, by omega⟩
          | 6, _ =>
            injection ho with ho
            subst ho
            obtain ⟨e3, e3'⟩ := hAt.slot 3 (by kernel_rfl) (by rfl)
            go_simp
            exact hK _ w5 trivial HI.out rfl
          | 7, _ =>
            injection ho with ho
            subst ho
            have l5 := hdep ⟨5, .data⟩ (by simp) rfl
            obtain ⟨r5, f5, r51, r52⟩ := hM.fact 5 (by omega) l5
            obtain ⟨x5, x5'⟩ := hAt.dep 5 (d := 72) (by omega) l5 (by rfl) f5
            have l6 := hdep ⟨6, .data⟩ (by simp) rfl
            obtain ⟨x6, x6'⟩ := hAt.dep 6 (d := 73) (by omega) l6 (by rfl) (hM.fact 6 (by omega) l6)
            go_simp
            have hw : IntKind.i64.wrap (r5 + net) = r5 + net := IntWalk.i64_in _ (by omega)
            exact hK _ w5 trivial HI.out ⟨r5 + net, by rw [hw], by omega, by omega⟩
          | 8, _ =>
            injection ho with ho
            subst ho
            obtain ⟨e2, e2'⟩ := hAt.slot 2 (by kernel_rfl) (by rfl)
            go_simp
            exact hK _ w5 trivial HI.out rfl
          | 9, _ =>
            injection ho with ho
            subst ho
            obtain ⟨e10, e10'⟩ := hAt.slot 10 (by kernel_rfl) (by rfl)
            go_simp
            exact hK _ w5 trivial HI.out rfl
          | 10, _ =>
            injection ho with ho
            subst ho
            have l9 := hdep ⟨9, .data⟩ (by simp) rfl
            obtain ⟨x9, x9'⟩ := hAt.dep 9 (d := 76) (by omega) l9 (by rfl) (hM.fact 9 (by omega) l9)
            go_simp
            exact hK _ w5 trivial HI.out rfl
          | 11, _ =>
            injection ho with ho
            subst ho
            have l10 := hdep ⟨10, .data⟩ (by simp) rfl
            obtain ⟨x10, x10'⟩ := hAt.dep 10 (d := 77) (by omega) l10 (by rfl) (hM.fact 10 (by omega) l10)
            go_simp
            exact hK _ w5 trivial HI.out rfl
          | 12, _ =>
            injection ho with ho
            subst ho
            have l11 := hdep ⟨11, .data⟩ (by simp) rfl
            obtain ⟨x11, x11'⟩ := hAt.dep 11 (d := 78) (by omega) l11 (by rfl) (hM.fact 11 (by omega) l11)
            have q0 := HI.out.k9.cells 0 _ rfl
            have q1 := HI.out.k9.lt
            go_simp
            exact hK _ w5 trivial HI.out rfl
          | 13, _ =>
            injection ho with ho
            subst ho
            have l8 := hdep ⟨8, .data⟩ (by simp) rfl
            obtain ⟨x8, x8'⟩ := hAt.dep 8 (d := 75) (by omega) l8 (by rfl) (hM.fact 8 (by omega) l8)
            have l12 := hdep ⟨12, .data⟩ (by simp) rfl
            obtain ⟨x12, x12'⟩ := hAt.dep 12 (d := 79) (by omega) l12 (by rfl) (hM.fact 12 (by omega) l12)
            have n0 : (0 : Int) ≤ (kib : Int) := by omega
            have n1 : (kib : Int) < 2 := by omega
            go_simp
            exact hK _ w5 trivial HI.out rfl
          | 14, _ =>
            injection ho with ho
            subst ho
            have l13 := hdep ⟨13, .data⟩ (by simp) rfl
            obtain ⟨x13, x13'⟩ := hAt.dep 13 (d := 80) (by omega) l13 (by rfl) (hM.fact 13 (by omega) l13)
            obtain ⟨q0, q1, q2⟩ := HI.out.dr.pick hkib HDK.out
            go_simp
            exact hK _ w5 trivial HI.out rfl
          | 15, _ =>
            injection ho with ho
            subst ho
            obtain ⟨e10, e10'⟩ := hAt.slot 10 (by kernel_rfl) (by rfl)
            go_simp
            exact hK _ w5 trivial HI.out rfl
          | 16, _ =>
            injection ho with ho
            subst ho
            have l15 := hdep ⟨15, .data⟩ (by simp) rfl
            obtain ⟨x15, x15'⟩ := hAt.dep 15 (d := 82) (by omega) l15 (by rfl) (hM.fact 15 (by omega) l15)
            go_simp
            exact hK _ w5 trivial HI.out rfl
          | 17, _ =>
            injection ho with ho
            subst ho
            have l16 := hdep ⟨16, .data⟩ (by simp) rfl
            obtain ⟨x16, x16'⟩ := hAt.dep 16 (d := 83) (by omega) l16 (by rfl) (hM.fact 16 (by omega) l16)
            go_simp
            exact hK _ w5 trivial HI.out rfl
          | 18, _ =>
            injection ho with ho
            subst ho
            have l17 := hdep ⟨17, .data⟩ (by simp) rfl
            obtain ⟨x17, x17'⟩ := hAt.dep 17 (d := 84) (by omega) l17 (by rfl) (hM.fact 17 (by omega) l17)
            have q0 := HI.out.k9.cells 1 _ rfl
            have q1 := HI.out.k9.lt
            go_simp
            exact hK _ w5 trivial HI.out rfl
          | 19, _ =>
            injection ho with ho
            subst ho
            have l14 := hdep ⟨14, .data⟩ (by simp) rfl
            obtain ⟨x14, x14'⟩ := hAt.dep 14 (d := 81) (by omega) l14 (by rfl) (hM.fact 14 (by omega) l14)
            have l18 := hdep ⟨18, .data⟩ (by simp) rfl
            obtain ⟨x18, x18'⟩ := hAt.dep 18 (d := 85) (by omega) l18 (by rfl) (hM.fact 18 (by omega) l18)
            go_simp
            refine ((HAT w5 HI.out).out).mono ?_
            rintro e w6 ⟨rfl, hb6⟩
            exact hK _ w6 trivial (HI.out.below hb6) rfl
          | 20, _ =>
            injection ho with ho
            subst ho
            have l7 := hdep ⟨7, .data⟩ (by simp) rfl
            obtain ⟨r7, f7, r71, r72⟩ := hM.fact 7 (by omega) l7
            obtain ⟨x7, x7'⟩ := hAt.dep 7 (d := 74) (by omega) l7 (by rfl) f7
            have l19 := hdep ⟨19, .data⟩ (by simp) rfl
            obtain ⟨x19, x19'⟩ := hAt.dep 19 (d := 86) (by omega) l19 (by rfl) (hM.fact 19 (by omega) l19)
            go_simp
            have hw : IntKind.i64.wrap (r7 + V) = r7 + V := IntWalk.i64_in _ (by omega)
            exact hK _ w5 trivial HI.out ⟨r7 + V, by rw [hw], by omega, by omega⟩
          | 21, _ =>
            injection ho with ho
            subst ho
            obtain ⟨e12, e12'⟩ := hAt.slot 12 (by kernel_rfl) (by rfl)
            go_simp
            exact hK _ w5 trivial HI.out rfl
          | 22, _ =>
            injection ho with ho
            subst ho
            obtain ⟨e10, e10'⟩ := hAt.slot 10 (by kernel_rfl) (by rfl)
            go_simp
            exact hK _ w5 trivial HI.out rfl
          | 23, _ =>
            injection ho with ho
            subst ho
            have l22 := hdep ⟨22, .data⟩ (by simp) rfl
            obtain ⟨x22, x22'⟩ := hAt.dep 22 (d := 89) (by omega) l22 (by rfl) (hM.fact 22 (by omega) l22)
            go_simp
            exact hK _ w5 trivial HI.out rfl
          | 24, _ =>
            injection ho with ho
            subst ho
            have l23 := hdep ⟨23, .data⟩ (by simp) rfl
            obtain ⟨x23, x23'⟩ := hAt.dep 23 (d := 90) (by omega) l23 (by rfl) (hM.fact 23 (by omega) l23)
            go_simp
            exact hK _ w5 trivial HI.out rfl
          | 25, _ =>
            injection ho with ho
            subst ho
            have l24 := hdep ⟨24, .data⟩ (by simp) rfl
            obtain ⟨x24, x24'⟩ := hAt.dep 24 (d := 91) (by omega) l24 (by rfl) (hM.fact 24 (by omega) l24)
            have q0 := HI.out.k9.cells 0 _ rfl
            have q1 := HI.out.k9.lt
            go_simp
            exact hK _ w5 trivial HI.out rfl
          | 26, _ =>
            injection ho with ho
            subst ho
            have l21 := hdep ⟨21, .data⟩ (by simp) rfl
            obtain ⟨x21, x21'⟩ := hAt.dep 21 (d := 88) (by omega) l21 (by rfl) (hM.fact 21 (by omega) l21)
            have l25 := hdep ⟨25, .data⟩ (by simp) rfl
            obtain ⟨x25, x25'⟩ := hAt.dep 25 (d := 92) (by omega) l25 (by rfl) (hM.fact 25 (by omega) l25)
            go_simp
            refine (HER w5 HI.out).out.mono ?_
            rintro e w6 ⟨p6, rfl, p61, p62, hC6, hg6⟩
            exact hK _ w6 trivial (HI.out.pull hg6 hC6) ⟨p6, rfl, p61, p62⟩
          | 27, _ =>
            injection ho with ho
            subst ho
            have l20 := hdep ⟨20, .data⟩ (by simp) rfl
            obtain ⟨r20, f20, r201, r202⟩ := hM.fact 20 (by omega) l20
            obtain ⟨x20, x20'⟩ := hAt.dep 20 (d := 87) (by omega) l20 (by rfl) f20
            have l26 := hdep ⟨26, .data⟩ (by simp) rfl
            obtain ⟨r26, f26, r261, r262⟩ := hM.fact 26 (by omega) l26
            obtain ⟨x26, x26'⟩ := hAt.dep 26 (d := 93) (by omega) l26 (by rfl) f26
            go_simp
            have hw : IntKind.i64.wrap (r20 + r26) = r20 + r26 := IntWalk.i64_in _ (by omega)
            exact hK _ w5 trivial HI.out ⟨r20 + r26, by rw [hw], by omega, by omega⟩
          | jq + 28, hq => exact absurd hq (by omega)
        · intro vals w5 hM
          have HI := Lib.hid hM.inv
          have f0 : vals 0 = .pointer (some ⟨b9, 0, none⟩) := hM.all (by decide) 0 (by omega)
          have f1 : vals 1 = .pointer (some ⟨g, 0, none⟩) := hM.all (by decide) 1 (by omega)
          have f2 : vals 2 = .pointer (some ⟨b9, 6, none⟩) := hM.all (by decide) 2 (by omega)
          have f3 : vals 3 = .int .i64 mud := hM.all (by decide) 3 (by omega)
          obtain ⟨r4, f4, r41, r42⟩ := hM.all (by decide) 4 (by omega)
          obtain ⟨r5, f5, r51, r52⟩ := hM.all (by decide) 5 (by omega)
          have f6 : vals 6 = .int .i64 net := hM.all (by decide) 6 (by omega)
          obtain ⟨r7, f7, r71, r72⟩ := hM.all (by decide) 7 (by omega)
          have f8 : vals 8 = .slice (some ⟨db, 0, none⟩) 2 2 := hM.all (by decide) 8 (by omega)
          have f9 : vals 9 = .pointer (some ⟨b9, 0, none⟩) := hM.all (by decide) 9 (by omega)
          have f10 : vals 10 = .pointer (some ⟨b9, 0, none⟩) := hM.all (by decide) 10 (by omega)
          have f11 : vals 11 = .pointer (some ⟨b9, 0, none⟩) := hM.all (by decide) 11 (by omega)
          have f12 : vals 12 = .int .i64 (kib : Nat) := hM.all (by decide) 12 (by omega)
          have f13 : vals 13 = .pointer (some ⟨db, kib * 2, none⟩) := hM.all (by decide) 13 (by omega)
          have f14 : vals 14 = .agg #[.int .i64 D.f, .slice D.A D.cs.length D.q] := hM.all (by decide) 14 (by omega)
          have f15 : vals 15 = .pointer (some ⟨b9, 0, none⟩) := hM.all (by decide) 15 (by omega)
          have f16 : vals 16 = .pointer (some ⟨b9, 0, none⟩) := hM.all (by decide) 16 (by omega)
          have f17 : vals 17 = .pointer (some ⟨b9, 1, none⟩) := hM.all (by decide) 17 (by omega)
          have f18 : vals 18 = .int .i64 im := hM.all (by decide) 18 (by omega)
          have f19 : vals 19 = .int .i64 V := hM.all (by decide) 19 (by omega)
          obtain ⟨r20, f20, r201, r202⟩ := hM.all (by decide) 20 (by omega)
          have f21 : vals 21 = .func (.func 144) #[] #[.pointer (some ⟨b4, 0, none⟩), .pointer (some ⟨b5, 0, none⟩)] := hM.all (by decide) 21 (by omega)
          have f22 : vals 22 = .pointer (some ⟨b9, 0, none⟩) := hM.all (by decide) 22 (by omega)
          have f23 : vals 23 = .pointer (some ⟨b9, 0, none⟩) := hM.all (by decide) 23 (by omega)
          have f24 : vals 24 = .pointer (some ⟨b9, 0, none⟩) := hM.all (by decide) 24 (by omega)
          have f25 : vals 25 = .int .i64 (kib : Nat) := hM.all (by decide) 25 (by omega)
          obtain ⟨r26, f26, r261, r262⟩ := hM.all (by decide) 26 (by omega)
          obtain ⟨r27, f27, r271, r272⟩ := hM.all (by decide) 27 (by omega)
          clear hM
          simp only [putAll, List.range, List.range.loop, List.foldl_cons, List.foldl_nil, f0, f1, f2, f3, f4, f5, f6, f7, f8, f9, f10, f11, f12, f13, f14, f15, f16, f17, f18, f19, f20, f21, f22, f23, f24, f25, f26, f27]
          clear f0 f1 f2 f3 f4 f5 f6 f7 f8 f9 f10 f11 f12 f13 f14 f15 f16 f17 f18 f19 f20 f21 f22 f23 f24 f25 f26 f27
          change wpAny _ _ _ _ _ _ (Act.put (Act.put (Act.put (Act.put (Act.put (Act.put (Act.put (Act.put (Act.put (Act.put (Act.put (Act.put (Act.put (Act.put (Act.put (Act.put (Act.put (Act.put (Act.put (Act.put (Act.put (Act.put (Act.put (Act.put (Act.put (Act.put (Act.put (Act.put _ (some 67) _) (some 68) _) (some 69) _) (some 70) _) (some 71) _) (some 72) _) (some 73) _) (some 74) _) (some 75) _) (some 76) _) (some 77) _) (some 78) _) (some 79) _) (some 80) _) (some 81) _) (some 82) _) (some 83) _) (some 84) _) (some 85) _) (some 86) _) (some 87) _) (some 88) _) (some 89) _) (some 90) _) (some 91) _) (some 92) _) (some 93) _) (some 94) _) _
          simp only [Act.put, List.setIfInBounds_toArray, List.set_cons_zero, List.set_cons_succ]
          refine tail_step 28 _ (by kernel_rfl) rfl rfl (fun K' hK => ?_)
          go_simp
          refine hK _ _ ?_
          clear hK K'
          refine tail_step 29 _ (by kernel_rfl) rfl rfl (fun K' hK => ?_)
          go_simp
          refine hK _ _ ?_
          clear hK K'
          refine tail_step 30 _ (by kernel_rfl) rfl rfl (fun K' hK => ?_)
          have q0 := HI.out.k9.cells 2 _ rfl
          have q1 := HI.out.k9.free 2
          have q2 := HI.out.k9.lt
          go_simp
          refine hK _ _ ?_
          clear hK K' q0 q1 q2
          refine wpAny_done (by kernel_rfl) ?_ _
          have HS5 : Hid (DvS w (w5.setCell ⟨b9, 2, none⟩ (.int .i64 r27)) g L c zs b4 b5 b8 b9 db e0 e1 sp st D0 D1 [.int .i64 ((kib : Nat)), .int .i64 im, .int .i64 r27, .int .i64 ((kob : Nat)), .int .i64 om, .int .i64 ro, .int .i64 mud]) := Lib.hid (HI.out.set9 (j := 2) (by simp) (.int .i64 r27))
          have HR4 := Lib.hid (show -ev ≤ r27 - 500 - net - V ∧ r27 - 500 - net - V ≤ mud + ev by omega)
          have HR5 := Lib.hid hV
          have HR6 := Lib.hid hE
          clear HI HS HAT HER hV hE r41 r42 r51 r52 r71 r72 r201 r202 r261 r262 r271 r272
          have HS := HS5
          clear HS5
          generalize w5.setCell ⟨b9, 2, none⟩ (.int .i64 r27) = W6 at HS ⊢
          have HMT : Hid (MdT e0 e1 (valB D0.f D0.cs D1.f D1.cs) net ⟨(kib : Nat), im, r27, (kob : Nat), om, ro, mud⟩) := Lib.hid ⟨by show ((kib : Nat) : Int) = 0 ∨ ((kib : Nat) : Int) = 1; omega, by show ((kob : Nat) : Int) = 0 ∨ ((kob : Nat) : Int) = 1; omega, ⟨im0, im1⟩, ⟨by show im < om; omega, by show om ≤ im + 40; omega⟩, ⟨m0, by show mud ≤ 29; omega⟩, by
              have h1 := HR1.out
              rw [← HR2.out, ← HR3.out] at h1
              exact h1, by
              have h1 := HR4.out
              rw [← HR5.out, ← HR6.out] at h1
              exact h1⟩
          clear HR1 HR2 HR3 HR4 HR5 HR6 HDK HEK HVK
          have a0 := HS.out.k9.cells 0 _ rfl
          have a1 := HS.out.k9.cells 1 _ rfl
          have a2 := HS.out.k9.cells 2 _ rfl
          have a3 := HS.out.k9.cells 3 _ rfl
          have a4 := HS.out.k9.cells 4 _ rfl
          have a5 := HS.out.k9.cells 5 _ rfl
          have a6 := HS.out.k9.cells 6 _ rfl
          have c0 := HS.out.k8.cells 0 _ rfl
          have c1 := HS.out.k8.cells 1 _ rfl
          have c2 := HS.out.k8.cells 2 _ rfl
          have c3 := HS.out.k8.cells 3 _ rfl
          have c4 := HS.out.k8.cells 4 _ rfl
          have c5 := HS.out.k8.cells 5 _ rfl
          have c6 := HS.out.k8.cells 6 _ rfl
          have g0 := HS.out.k8.free 0
          have g1 := HS.out.k8.free 1
          have g2 := HS.out.k8.free 2
          have g3 := HS.out.k8.free 3
          have g4 := HS.out.k8.free 4
          have g5 := HS.out.k8.free 5
          have g6 := HS.out.k8.free 6
          have q9 := HS.out.k9.lt
          have q8 := HS.out.k8.lt
          go_wp2_with fail
          have B8' := ((((((HS.out.k8.set (j := 0) (by simp) (.int .i64 (kib : Nat))).set (j := 1) (by simp) (.int .i64 im)).set (j := 2) (by simp) (.int .i64 r27)).set (j := 3) (by simp) (.int .i64 (kob : Nat))).set (j := 4) (by simp) (.int .i64 om)).set (j := 5) (by simp) (.int .i64 ro)).set (j := 6) (by simp) (.int .i64 mud)
          have hgl := HS.out.gl
          have hl4 := HS.out.l4
          have hl5 := HS.out.l5
          have hl8 := HS.out.l8
          have hk8 : ∀ (x : World) (o : Nat) (v : Value), w.grownBy x (some g) ∧ ChE x g L c zs → w.grownBy (x.setCell ⟨b8, o, none⟩ v) (some g) ∧ ChE (x.setCell ⟨b8, o, none⟩ v) g L c zs := fun x o v h => ⟨grown_new h.1 (grownBy_setCell _ _ _ _) (by omega), h.2.keep (by simp [World.setCell]) fun k hk => heap_far (by omega)⟩
          have hz := hk8 _ 6 (.int .i64 mud) (hk8 _ 5 (.int .i64 ro) (hk8 _ 4 (.int .i64 om) (hk8 _ 3 (.int .i64 (kob : Nat)) (hk8 _ 2 (.int .i64 r27) (hk8 _ 1 (.int .i64 im) (hk8 _ 0 (.int .i64 (kib : Nat)) ⟨HS.out.gr, HS.out.ch⟩))))))
          generalize (World.setCell _ ⟨b8, 6, none⟩ _) = Z at B8' hz ⊢
          have r0 := B8'.cells 0 _ rfl
          have r1 := B8'.cells 1 _ rfl
          have r2 := B8'.cells 2 _ rfl
          have r3 := B8'.cells 3 _ rfl
          have r4 := B8'.cells 4 _ rfl
          have r5 := B8'.cells 5 _ rfl
          have r6 := B8'.cells 6 _ rfl
          exact bodyPost_ret (v := trV ⟨(kib : Nat), im, r27, (kob : Nat), om, ro, mud⟩) (by simp [results, Tryz.results73, go_sem, trV, r0, r1, r2, r3, r4, r5, r6]) rfl ⟨_, rfl, HMT.out, hz.2, hz.1⟩
end Go.Proofs.YtcdjoegihmfanaaGreat
