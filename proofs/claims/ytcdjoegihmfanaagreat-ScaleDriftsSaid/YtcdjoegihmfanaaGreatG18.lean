/- MadeDrift. proved: a proof of a bridge that has a drift. Driven: a trip with a net. -/
import Derived.Test.YtcdjoegihmfanaaGreatG17
import Derived.Test.YtcdjoegihmfanaaGreatG4
import Derived.Deep.QuietTactic
import Derived.BigQuiet
namespace Go.Proofs.YtcdjoegihmfanaaGreat
open Go.RowKit
set_option linter.unusedVariables false
theorem own_far {w : World} {B n b o : Nat} {E : TypeId} {size : Nat} {v : Value} {xs : List Value} {u : Value} (h : w.ownsRow B E size v n xs) (hb : b < B) : (w.setCell ⟨b, o, none⟩ u).ownsRow B E size v n xs := by
  refine h.kept (grownBy_setCell _ _ _ _) (.inr fun e => ?_)
  have := (h.lt b e).1
  omega
theorem pairs_appd (t : List (Int × Int)) (x : Int × Int) : pairs (t ++ [x]) = pairs t ++ [.int .i64 x.1, .int .i64 x.2] := by simp [pairs]
/-- Where MadeDrift stands: the drift lies in block B5, its changes so far are a row of the call's own. -/
structure MDs (W wr : World) (g : Nat) (L : Option Addr) (c : Nat) (zs : List Int) (B5 : Nat) (f : Int) (t : List (Int × Int)) (v : Value) : Prop where
  own : wr.ownsRow (B5 + 1) 82 2 v t.length (pairs t)
  ch : ChE wr g L c zs
  gr : W.grownBy wr (some g)
  gW : g < W.heap.size
  bW : W.heap.size < B5
  b : Blk wr B5 [.int .i64 f, v]
  r : Blk wr W.heap.size [.int .i64 0, .slice none 0 0]
section
variable {W wr w1 : World} {g : Nat} {L : Option Addr} {c : Nat} {zs : List Int} {B5 : Nat} {f : Int} {t : List (Int × Int)} {v : Value}
theorem MDs.pull (h : MDs W wr g L c zs B5 f t v) (hg : wr.grownBy w1 (some g)) (hC : ChE w1 g L c zs) : MDs W w1 g L c zs B5 f t v := by
  have k1 := h.gW
  have k2 := h.bW
  refine ⟨h.own.kept hg (.inr fun e => ?_), hC, grownBy_trans h.gr hg, k1, k2, h.b.grown hg (by intro e; injection e; omega), h.r.grown hg (by intro e; injection e; omega)⟩
  have := (h.own.lt g e).1
  omega
theorem MDs.alloc (h : MDs W wr g L c zs B5 f t v) (o : Obj) : MDs W (wr.alloc o) g L c zs B5 f t v := by
  have hb := below_new wr o
  refine ⟨h.own.kept (grown_below (grownBy_self wr none) hb) ?_, h.ch.below hb, grown_below h.gr hb, h.gW, h.bW, h.b.below hb, h.r.below hb⟩
  cases hv : v.ownBlock with
  | none => exact .inl rfl
  | some x => exact .inr (by intro e; cases e)
theorem MDs.drewN (h : MDs W wr g L c zs B5 f t v) (n : Nat) : MDs W (wr.drewN n) g L c zs B5 f t v := ⟨h.own, h.ch.drewN n, only_drewN h.gr n, h.gW, h.bW, h.b.drewN n, h.r.drewN n⟩
/-- Behind the append, ahead of the store. -/
structure MDMid (W w1 : World) (g : Nat) (L : Option Addr) (c : Nat) (zs : List Int) (B5 : Nat) (f : Int) (t' : List (Int × Int)) (v1 : Value) : Prop where
  o1 : ∃ u, w1.cell? ⟨B5, 1, none⟩ = some u
  of : w1.frozen? ⟨B5, 1, none⟩ = false
  st : MDs W (w1.setCell ⟨B5, 1, none⟩ v1) g L c zs B5 f t' v1
theorem MDs.app (h : MDs W wr g L c zs B5 f t v) {v1 : Value} {x : Int × Int} (ho : w1.ownsRow (B5 + 1) 82 2 v1 (t.length + 1) (pairs t ++ [.int .i64 x.1, .int .i64 x.2])) (hg : wr.grownBy w1 v.ownBlock) : MDMid W w1 g L c zs B5 f (t ++ [x]) v1 := by
  have k1 := h.gW
  have k2 := h.bW
  have k3 := h.b.lt
  have hz := hg.size
  have hne : ∀ b, b < B5 + 1 → some b ≠ v.ownBlock := fun b hb e => by have := (h.own.lt b e.symm).1; omega
  have hC : ChE w1 g L c zs := h.ch.keep hz fun k hk => hg.block k (by omega) (hne k (by omega))
  have hgr : W.grownBy w1 (some g) := grown_row h.gr hg fun x e => by have := (h.own.lt x e).1; omega
  have hb := h.b.grown hg (hne B5 (by omega))
  have hr := h.r.grown hg (hne _ (by omega))
  refine ⟨⟨_, hb.cells 1 _ rfl⟩, hb.free 1, ⟨?_, hC.keep (by simp [World.setCell]) fun k hk => heap_far (by omega), grown_new hgr (grownBy_setCell w1 B5 1 v1) (by omega), k1, k2, hb.set (j := 1) (by simp) v1, hr.far (by omega)⟩⟩
  rw [pairs_appd, List.length_append]
  exact own_far ho (by omega)
end
theorem md_start {w w1 : World} {g : Nat} {L : Option Addr} {c : Nat} {zs : List Int} {f : Int} {t1 t2 : TypeId} (gl : g < w.heap.size) (hg : (w.alloc (.cells #[.int .i64 0, .slice none 0 0] t1)).grownBy w1 (some g)) (hC : ChE w1 g L c zs) :
    MDs w (w1.alloc (.cells #[.int .i64 f, .slice none 0 0] t2)) g L c zs w1.heap.size f [] (.slice none 0 0) := by
  have hz := hg.size
  simp at hz
  have hb := below_new w1 (.cells #[.int .i64 f, .slice none 0 0] t2)
  have hr := (Blk.new w [.int .i64 0, .slice none 0 0] t1).grown hg (by intro e; injection e; omega)
  have hg0 : w.grownBy w1 (some g) := grownBy_trans (only_allocg (grownBy_self _ _) _) hg
  exact ⟨World.ownsRow_nil _ _ _ _, hC.below hb, only_allocg hg0 _, gl, by omega, Blk.new w1 [.int .i64 f, .slice none 0 0] t2, hr.below hb⟩
def MadeDPost (g : Nat) (L : Option Addr) (c : Nat) (zs : List Int) (q : Int) (W : World) (e : Ending) (w' : World) : Prop :=
  ∃ f cs v, e = .returned (drV f v) ∧ MdD q f cs ∧ w'.ownsRow W.heap.size 82 2 v cs.length (pairs cs) ∧ ChE w' g L c zs ∧ W.grownBy w' (some g)
theorem own_base {w : World} {base base' : Nat} {E : TypeId} {size n : Nat} {v : Value} {xs : List Value} (h : w.ownsRow base E size v n xs) (hb : base' ≤ base) : w.ownsRow base' E size v n xs := h.base_ hb
set_option maxRecDepth 100000 in
set_option maxHeartbeats 4000000 in
theorem madeDrift_any (g : Nat) (L : Option Addr) (c : Nat) (zs : List Int) (q : Int) (w : World) (hC : ChE w g L c zs) (hq : 0 ≤ q ∧ q ≤ 10) :
    Calls Tryz.prog 38 #[.pointer (some ⟨g, 0, none⟩), .int .i64 q] w (MadeDPost g L c zs q w) := by
  obtain ⟨i0, hi, hz0, hz1, hz2⟩ := info_parts infoChange
  obtain ⟨hq0, hq1⟩ := hq
  have gl := hC.lt
  go_enter Tryz.func38, Tryz.ntmps38
  go_wp2_with fail
  refine (betweenE_any g L c zs (-9) 9 _ (hC.below (below_new _ _)) (by omega) (by omega) (by omega)).mono ?_
  rintro e w1 ⟨f, rfl, f0, f1, hC1, hg1⟩
  have M0 := Lib.hid (md_start (f := f) (t2 := 61) gl hg1 hC1)
  have D0 := Lib.hid (DM.start ⟨f0, f1⟩)
  clear hC1 hg1 hC
  have lz1 := M0.out.b.lt
  go_wp2_with fail
  generalize World.alloc w1 _ = W1 at M0 lz1 ⊢
  generalize w1.heap.size = B5 at M0 lz1 ⊢
  have y0 := M0.out.b.cells 0 _ rfl
  go_quiet (fail)
  generalize hW2 : World.drewN W1 _ = W2
  have M1 : Hid (MDs w W2 g L c zs B5 f [] (.slice none 0 0)) := Lib.hid (by rw [← hW2]; exact M0.out.drewN _)
  clear M0 y0 lz1 hW2
  go_wp2_with fail
  refine (pullE_any g L c zs _ _ M1.out.ch (by omega)).mono ?_
  rintro e w2 ⟨nn, rfl, hn0, hn1, hC2, hg2⟩
  have hnn : 0 ≤ nn ∧ nn ≤ q := by omega
  obtain ⟨n0, n1⟩ := hnn
  have M2 := Lib.hid (M1.out.pull hg2 hC2)
  clear M1 hn0 hn1 hC2 hg2
  go_wp2_with fail
  go_loopw [6, 7, 8, 18] (fun ms ls _ iv wr => ∃ (k : Nat) (mi la : Int) (t : List (Int × Int)) (v : Value), iv = .int .i64 (k : Nat) ∧ (k : Int) ≤ nn ∧ ms = .int .i64 mi ∧ ls = .int .i64 la ∧ (t.length : Int) ≤ k ∧ (0 ≤ mi ∧ mi ≤ 30 * (k : Int)) ∧ (-9 ≤ la ∧ la ≤ 9) ∧ Hid (DM f t mi la) ∧ Hid (MDs w wr g L c zs B5 f t v)) (fun _ _ _ i _ => nn.toNat - (intOf i).toNat)
  case atStart => exact ⟨0, 0, f, [], _, rfl, by omega, rfl, rfl, by simp, by omega, by omega, D0, M2⟩
  case round =>
    obtain ⟨k, mi, la, t, v, rfl, hk, rfl, rfl, ht, ⟨hm0, hm1⟩, ⟨hl0, hl1⟩, HD, HM⟩ := hrel
    by_cases hlt : (k : Int) < nn
    · go_wp2_with fail
      refine (betweenE_any g L c zs 5 30 _ HM.out.ch (by omega) (by omega) (by omega)).mono ?_
      rintro e w3 ⟨d, rfl, d0, d1, hC3, hg3⟩
      have HM3 := Lib.hid (HM.out.pull hg3 hC3)
      clear hC3 hg3 HM
      go_wp2_with fail
      refine (betweenE_any g L c zs (-9) 9 _ HM3.out.ch (by omega) (by omega) (by omega)).mono ?_
      rintro e w4 ⟨u, rfl, u0, u1, hC4, hg4⟩
      have HM4 := Lib.hid (HM3.out.pull hg4 hC4)
      clear hC4 hg4 HM3
      by_cases hu : u = la
      · have hu' : (u == la) = true := by simpa using hu
        have hu'' : (u != la) = false := by simpa using hu
        have HD2 := Lib.hid (HD.out.later (d := d) (by omega))
        have HU := Lib.hid hu
        clear hu HD
        go_wp2_with fail
        go_roundw
        case rel => exact ⟨k + 1, mi + d, la, t, v, by go_num, by omega, rfl, rfl, by omega, by omega, by omega, HD2, HM4⟩
        case measure => simp [intOf]; omega
      · have hu' : (u == la) = false := by simpa using hu
        have hu'' : (u != la) = true := by simpa using hu
        have HD2 := Lib.hid (HD.out.snoc (d := d) (v := u) (by omega) ⟨u0, u1⟩ hu)
        clear hu HD
        have b1 := HM4.out.b.cells 1 _ rfl
        have bl := HM4.out.b.lt
        have HA := Lib.hid (HM4.out.alloc (.cells #[.int .i64 (mi + d), .int .i64 u] 82))
        have hz4 := HM4.out.b.lt
        go_wp2_with (at_builtin; refine wpList_append_own_at _ rfl _ _ 59 rfl (B5 + 1) 82 i0 _ 2 16 Tryz.underlying59 hi hz0 hz1 hz2 rfl (by decide) _ _ _ rfl HA.out.own ⟨w4.heap.size, 0, none⟩ 1 1 [.int .i64 (mi + d), .int .i64 u] rfl rfl (news_new _ _ _ rfl) (by simp [Value.oneCell']) (by simp only [maxLen]; omega) (by omega) (by simp; omega) ?_; intro v1 w8 hown1 hgrow1 _ hat1; obtain ⟨B1, cc1, rfl, _, _⟩ := own_slice hown1; have M := HA.out.app (x := (mi + d, u)) hown1 hgrow1; obtain ⟨u1', m1⟩ := M.o1; have m2 := M.of; have M2 := Lib.hid M.st; have hl8 : B5 < w8.heap.size := Nat.lt_of_lt_of_le HA.out.b.lt hgrow1.size; clear M hown1 hgrow1 hat1)
        go_roundw
        case rel => exact ⟨k + 1, mi + d, u, t ++ [(mi + d, u)], _, by go_num, by omega, rfl, rfl, by rw [List.length_append]; simp; omega, by omega, by omega, HD2, by first | exact M2 | (rw [List.length_append]; exact M2)⟩
        case measure => simp [intOf]; omega
    · have hlen : (k : Int) = nn := by omega
      have b0 := HM.out.b.cells 0 _ rfl
      have b1 := HM.out.b.cells 1 _ rfl
      have r0 := HM.out.r.cells 0 _ rfl
      have r1 := HM.out.r.cells 1 _ rfl
      have f0 := HM.out.r.free 0
      have f1 := HM.out.r.free 1
      have lz := HM.out.b.lt
      have lr := HM.out.r.lt
      have nBw : ¬ B5 = w.heap.size := by have := HM.out.bW; omega
      have nwB : ¬ w.heap.size = B5 := by have := HM.out.bW; omega
      obtain ⟨A1, c1, rfl, _, _⟩ := own_slice HM.out.own
      have HL := Lib.hid hlen
      have HLT := Lib.hid ht
      clear hlen ht
      go_wp2_with fail
      have hHM := HM.out
      have hbw := hHM.bW
      refine bodyPost_ret (v := drV f (.slice A1 t.length c1)) (by simp [results, Tryz.results38, go_sem, drV, r0, r1]) rfl ⟨f, t, _, rfl, HD.out.made (by have := HL.out; omega) (by have := HL.out; have := HLT.out; omega) hq1, ?_, ?_, ?_⟩
      · exact (own_far (own_far hHM.own (by omega)) (by omega)).base_ (by omega)
      · exact (hHM.ch.keep (by simp [World.setCell]) fun k hk => heap_far (by have := hHM.gW; omega)).keep (by simp [World.setCell]) fun k hk => heap_far (by have := hHM.gW; omega)
      · exact grown_new (grown_new hHM.gr (grownBy_setCell _ _ _ _) (Nat.le_refl _)) (grownBy_setCell _ _ _ _) (Nat.le_refl _)
end Go.Proofs.YtcdjoegihmfanaaGreat
namespace Go.Proofs.YtcdjoegihmfanaaGreat
open Go.RowKit
set_option linter.unusedVariables false
theorem grown_at {a w : World} {g b o : Nat} {v : Value} (hg : a.grownBy w (some g)) (hb : b < a.heap.size) (hn : b ≠ g) (hc : a.cell? ⟨b, o, none⟩ = some v) : w.cell? ⟨b, o, none⟩ = some v :=
  (World.grownBy.cell_far hg ⟨b, o, none⟩ hb (by intro e; injection e with e; exact hn e)).trans hc
theorem RdI.grown {a w : World} {g : Nat} {A : Option Addr} {xs : List Value} (h : RdI a (g + 1) a.heap.size A xs) (hg : a.grownBy w (some g)) : RdI w (g + 1) w.heap.size A xs := fun hn => by
  obtain ⟨b, off, e, h1, h2, hc⟩ := (h.keep (w' := w) fun b h1 h2 => hg.block b h2 (by intro e; injection e; omega)) hn
  exact ⟨b, off, e, h1, Nat.lt_of_lt_of_le h2 hg.size, hc⟩
theorem RdI.below' {a w : World} {g : Nat} {A : Option Addr} {xs : List Value} (h : RdI a (g + 1) a.heap.size A xs) (hb : Below a.heap.size a w) : RdI w (g + 1) w.heap.size A xs := h.grown (grown_below (grownBy_self _ _) hb)
structure PvS (W x : World) (g : Nat) (L : Option Addr) (c : Nat) (zs : List Int) (b5 b8 : Nat) (x5 : List Value) (QA : Option Addr) (xs : List Value) : Prop where
  ch : ChE x g L c zs
  gr : W.grownBy x (some g)
  k5 : Blk x b5 x5
  k8 : Blk x b8 [.int .i64 0, .int .i64 0, .int .i64 0, .int .i64 0]
  rq : RdI x (g + 1) x.heap.size QA xs
  l5 : g < b5
  l8 : b5 < b8
theorem PvS.pull {W x y : World} {g : Nat} {L : Option Addr} {c : Nat} {zs : List Int} {b5 b8 : Nat} {x5 : List Value} {QA : Option Addr} {xs : List Value} (h : PvS W x g L c zs b5 b8 x5 QA xs) (hg : x.grownBy y (some g)) (hC : ChE y g L c zs) : PvS W y g L c zs b5 b8 x5 QA xs :=
  ⟨hC, grownBy_trans h.gr hg, h.k5.grown hg (by intro e; injection e; have := h.l5; omega), h.k8.grown hg (by intro e; injection e; have := h.l5; have := h.l8; omega), h.rq.grown hg, h.l5, h.l8⟩
theorem PvS.alloc {W x : World} {g : Nat} {L : Option Addr} {c : Nat} {zs : List Int} {b5 b8 : Nat} {x5 : List Value} {QA : Option Addr} {xs : List Value} (h : PvS W x g L c zs b5 b8 x5 QA xs) (o : Obj) : PvS W (x.alloc o) g L c zs b5 b8 x5 QA xs :=
  h.pull (only_allocg (grownBy_self _ _) o) (h.ch.below (below_new _ _))
def ProvedPost (g : Nat) (L : Option Addr) (c : Nat) (zs : List Int) (n er : Int) (f : Int) (cs : List (Int × Int)) (W : World) (e : Ending) (w' : World) : Prop :=
  ∃ p : Pr, e = .returned (prV p) ∧ p.b = n ∧ (0 ≤ p.m ∧ p.m ≤ 99) ∧ (0 ≤ p.k ∧ p.k ≤ 800) ∧ (-er ≤ p.r - p.k - valueD f cs p.m ∧ p.r - p.k - valueD f cs p.m ≤ er) ∧ ChE w' g L c zs ∧ W.grownBy w' (some g)
set_option maxRecDepth 100000 in
set_option maxHeartbeats 4000000 in
theorem proved_any (g : Nat) (L : Option Addr) (c : Nat) (zs : List Int) (f : Int) (QA : Option Addr) (cq : Nat) (cs : List (Int × Int)) (n er : Int) (w : World) (hC : ChE w g L c zs) (hQ : RdI w (g + 1) w.heap.size QA (pairs cs)) (hql : cs.length ≤ 1000) (hv : ∀ m, -50 ≤ valueD f cs m ∧ valueD f cs m ≤ 50) (he : 0 ≤ er ∧ er ≤ 50) :
    Calls Tryz.prog 32 #[.pointer (some ⟨g, 0, none⟩), drV f (.slice QA cs.length cq), .int .i64 n, .int .i64 er] w (ProvedPost g L c zs n er f cs w) := by
  have gl := hC.lt
  obtain ⟨he0, he1⟩ := he
  unfold drV
  go_enter Tryz.func32, Tryz.ntmps32
  go_wp2_with fail
  obtain ⟨W2, hW2⟩ : ∃ W2, (w.alloc (.cells #[.int .i64 f, .slice QA cs.length cq] 61)).alloc (.cells #[.int .i64 0, .int .i64 0, .int .i64 0, .int .i64 0] 57) = W2 := ⟨_, rfl⟩
  have hS : PvS w W2 g L c zs w.heap.size (w.heap.size + 1) [.int .i64 f, .slice QA cs.length cq] QA (pairs cs) := by
    rw [← hW2]
    have b1 := below_new w (.cells #[.int .i64 f, .slice QA cs.length cq] 61)
    have b2 := below_new (w.alloc (.cells #[.int .i64 f, .slice QA cs.length cq] 61)) (.cells #[.int .i64 0, .int .i64 0, .int .i64 0, .int .i64 0] 57)
    have k := Blk.new (w.alloc (.cells #[.int .i64 f, .slice QA cs.length cq] 61)) [.int .i64 0, .int .i64 0, .int .i64 0, .int .i64 0] 57
    rw [show (w.alloc (.cells #[.int .i64 f, .slice QA cs.length cq] 61)).heap.size = w.heap.size + 1 by simp] at k
    exact ⟨(hC.below b1).below b2, only_allocg (only_allocg (grownBy_self _ _) _) _, (Blk.new w [.int .i64 f, .slice QA cs.length cq] _).alloc _, k, (hQ.below' b1).below' b2, gl, by omega⟩
  have HS2 := Lib.hid hS
  have hz2 : W2.heap.size = w.heap.size + 1 + 1 := by rw [← hW2]; simp
  rw [hW2]
  generalize hb5 : w.heap.size = b5 at *
  clear hW2 hS hQ
  refine (pullE_any g L c zs _ _ HS2.out.ch (by omega)).mono ?_
  rintro e w3 ⟨m, rfl, _, hm, hC3, hg3⟩
  obtain ⟨m0, m1⟩ := hm (by omega)
  have HS3 := Lib.hid (HS2.out.pull hg3 hC3)
  clear hm hC3 hg3 HS2
  go_wp2_with fail
  refine (pullE_any g L c zs _ _ HS3.out.ch (by omega)).mono ?_
  rintro e w4 ⟨kk, rfl, _, hm, hC3, hg3⟩
  obtain ⟨k0, k1⟩ := hm (by omega)
  have HS4 := Lib.hid (HS3.out.pull hg3 hC3)
  clear hm hC3 hg3 HS3
  have lb9 : b5 + 1 < w4.heap.size := HS4.out.k8.lt
  go_wp2_with fail
  obtain ⟨k, HK⟩ : ∃ k, Hid (100 * kk = k) := ⟨_, Lib.hid rfl⟩
  have hk0 : 0 ≤ k := by have := HK.out; omega
  have hk1 : k ≤ 800 := by have := HK.out; omega
  simp only [HK.out]
  generalize hW3 : World.alloc w4 _ = W3
  have HS : Hid (PvS w W3 g L c zs b5 (b5 + 1) [.int .i64 f, .slice QA cs.length cq] QA (pairs cs)) := Lib.hid (by rw [← hW3]; exact HS4.out.alloc _)
  have HB9 : Hid (Blk W3 w4.heap.size [.int .i64 n, .int .i64 m, .int .i64 k, .int .i64 0]) := Lib.hid (by rw [← hW3]; exact Blk.new w4 [.int .i64 n, .int .i64 m, .int .i64 k, .int .i64 0] _)
  have hl : W3.heap.size = w4.heap.size + 1 := by rw [← hW3]; simp
  clear hW3 HS4
  generalize w4.heap.size = b9 at *
  obtain ⟨V, HV⟩ : ∃ V, Hid (valueD f cs m = V) := ⟨_, Lib.hid rfl⟩
  have HAT := fun (w5 : World) (hg : W3.grownBy w5 (some g)) => Lib.hid (lat_any f QA cq cs m w5 ((HS.out.rq.grown hg).rd (Nat.le_refl _)) hql)
  rw [HV.out] at HAT
  unfold drV at HAT
  have hv0 := (hv m)
  rw [HV.out] at hv0
  obtain ⟨v0, v1⟩ := hv0
  have hC3 := HS.out.ch
  have y1 := HB9.out.cells 1 _ rfl
  have y2 := HB9.out.cells 2 _ rfl
  have y3 := HB9.out.cells 3 _ rfl
  have d0 := HS.out.k5.cells 0 _ rfl
  have d1 := HS.out.k5.cells 1 _ rfl
  have l9 := HB9.out.lt
  have l5 := HS.out.k5.lt
  have gl5 := HS.out.l5
  have n9 : b9 ≠ g := by omega
  have n5 : b5 ≠ g := by omega
  have n89 : b5 + 1 ≠ b9 := by omega
  have n8 : b5 + 1 ≠ g := by omega
  clear hv hz2 hC
  refine wp_inv 13 (by kernel_rfl) (by kernel_rfl) (by kernel_rfl) (by decide) (FL [PEq (.pointer (some ⟨b9, 2, none⟩)), PEq (.int .i64 k), PEq (.agg #[.int .i64 f, .slice QA cs.length cq]), PEq (.pointer (some ⟨b9, 1, none⟩)), PEq (.int .i64 m), PEq (.int .i64 V), PEq (.int .i64 (k + V)), PEq (.pointer (some ⟨g, 0, none⟩)), PEq (.int .i64 er), PEq (.int .i64 (-er)), PEq (.int .i64 er), PNum (-er) er, PNum (k + V - er) (k + V + er)])
    (fun x => W3.grownBy x (some g) ∧ ChE x g L c zs) (fun x y => x.grownBy y (some g)) (FL.keep (g := g) (by simp [stb_eq, stb_num])) ⟨only_drewN (grownBy_self _ _) 1, hC3.drewN 1⟩ ?_ ?_
  · intro iq o hi' ho listed vals a w5 hdep hM hAt K hK
    have HI := Lib.hid hM.inv
    match iq, hi' with
    | 0, _ =>
      injection ho with ho
      subst ho
      obtain ⟨e9, e9'⟩ := hAt.slot 9 (by kernel_rfl) (by rfl)
      go_simp
      exact hK _ w5 (grownBy_self _ _) HI.out rfl
    | 1, _ =>
      injection ho with ho
      subst ho
      have l0 := hdep ⟨0, .data⟩ (by simp) rfl
      obtain ⟨x0, x0'⟩ := hAt.dep 0 (d := 17) (by omega) l0 (by rfl) (hM.fact 0 (by omega) l0)
      have q0 := grown_at HI.out.1 l9 n9 y2
      go_simp
      exact hK _ w5 (grownBy_self _ _) HI.out rfl
    | 2, _ =>
      injection ho with ho
      subst ho
      obtain ⟨e5, e5'⟩ := hAt.slot 5 (by kernel_rfl) (by rfl)
      have q0 := grown_at HI.out.1 l5 n5 d0
      have q1 := grown_at HI.out.1 l5 n5 d1
      go_simp
      exact hK _ w5 (grownBy_self _ _) HI.out rfl
    | 3, _ =>
      injection ho with ho
      subst ho
      obtain ⟨e9, e9'⟩ := hAt.slot 9 (by kernel_rfl) (by rfl)
      go_simp
      exact hK _ w5 (grownBy_self _ _) HI.out rfl
    | 4, _ =>
      injection ho with ho
      subst ho
      have l3 := hdep ⟨3, .data⟩ (by simp) rfl
      obtain ⟨x3, x3'⟩ := hAt.dep 3 (d := 20) (by omega) l3 (by rfl) (hM.fact 3 (by omega) l3)
      have q0 := grown_at HI.out.1 l9 n9 y1
      go_simp
      exact hK _ w5 (grownBy_self _ _) HI.out rfl
    | 5, _ =>
      injection ho with ho
      subst ho
      have l2 := hdep ⟨2, .data⟩ (by simp) rfl
      obtain ⟨x2, x2'⟩ := hAt.dep 2 (d := 19) (by omega) l2 (by rfl) (hM.fact 2 (by omega) l2)
      have l4 := hdep ⟨4, .data⟩ (by simp) rfl
      obtain ⟨x4, x4'⟩ := hAt.dep 4 (d := 21) (by omega) l4 (by rfl) (hM.fact 4 (by omega) l4)
      go_simp
      refine ((HAT w5 HI.out.1).out).mono ?_
      rintro e w6 ⟨rfl, hb6⟩
      exact hK _ w6 (grown_below (grownBy_self _ _) hb6) ⟨grown_below HI.out.1 hb6, HI.out.2.below hb6⟩ rfl
    | 6, _ =>
      injection ho with ho
      subst ho
      have l1 := hdep ⟨1, .data⟩ (by simp) rfl
      obtain ⟨x1, x1'⟩ := hAt.dep 1 (d := 18) (by omega) l1 (by rfl) (hM.fact 1 (by omega) l1)
      have l5 := hdep ⟨5, .data⟩ (by simp) rfl
      obtain ⟨x5, x5'⟩ := hAt.dep 5 (d := 22) (by omega) l5 (by rfl) (hM.fact 5 (by omega) l5)
      have hw : IntKind.i64.wrap (k + V) = k + V := IntWalk.i64_in _ (by omega)
      go_simp
      exact hK _ w5 (grownBy_self _ _) HI.out rfl
    | 7, _ =>
      injection ho with ho
      subst ho
      obtain ⟨e0, e0'⟩ := hAt.slot 0 (by kernel_rfl) (by rfl)
      go_simp
      exact hK _ w5 (grownBy_self _ _) HI.out rfl
    | 8, _ =>
      injection ho with ho
      subst ho
      obtain ⟨e3, e3'⟩ := hAt.slot 3 (by kernel_rfl) (by rfl)
      go_simp
      exact hK _ w5 (grownBy_self _ _) HI.out rfl
    | 9, _ =>
      injection ho with ho
      subst ho
      have l8 := hdep ⟨8, .data⟩ (by simp) rfl
      obtain ⟨x8, x8'⟩ := hAt.dep 8 (d := 25) (by omega) l8 (by rfl) (hM.fact 8 (by omega) l8)
      have hw : IntKind.i64.wrap (-er) = -er := IntWalk.i64_in _ (by omega)
      go_simp
      exact hK _ w5 (grownBy_self _ _) HI.out rfl
    | 10, _ =>
      injection ho with ho
      subst ho
      obtain ⟨e3, e3'⟩ := hAt.slot 3 (by kernel_rfl) (by rfl)
      go_simp
      exact hK _ w5 (grownBy_self _ _) HI.out rfl
    | 11, _ =>
      injection ho with ho
      subst ho
      have l7 := hdep ⟨7, .data⟩ (by simp) rfl
      obtain ⟨x7, x7'⟩ := hAt.dep 7 (d := 24) (by omega) l7 (by rfl) (hM.fact 7 (by omega) l7)
      have l9 := hdep ⟨9, .data⟩ (by simp) rfl
      obtain ⟨x9, x9'⟩ := hAt.dep 9 (d := 26) (by omega) l9 (by rfl) (hM.fact 9 (by omega) l9)
      have l10 := hdep ⟨10, .data⟩ (by simp) rfl
      obtain ⟨x10, x10'⟩ := hAt.dep 10 (d := 27) (by omega) l10 (by rfl) (hM.fact 10 (by omega) l10)
      go_simp
      refine (betweenE_any g L c zs (-er) er w5 HI.out.2 (by omega) (by omega) (by omega)).mono ?_
      rintro e w6 ⟨r6, rfl, r61, r62, hC6, hg6⟩
      exact hK _ w6 hg6 ⟨grownBy_trans HI.out.1 hg6, hC6⟩ ⟨r6, rfl, r61, r62⟩
    | 12, _ =>
      injection ho with ho
      subst ho
      have l6 := hdep ⟨6, .data⟩ (by simp) rfl
      obtain ⟨x6, x6'⟩ := hAt.dep 6 (d := 23) (by omega) l6 (by rfl) (hM.fact 6 (by omega) l6)
      have l11 := hdep ⟨11, .data⟩ (by simp) rfl
      obtain ⟨r11, f11, r1, r2⟩ := hM.fact 11 (by omega) l11
      obtain ⟨x11, x11'⟩ := hAt.dep 11 (d := 28) (by omega) l11 (by rfl) f11
      go_simp
      have hw : IntKind.i64.wrap (k + V + r11) = k + V + r11 := IntWalk.i64_in _ (by omega)
      exact hK _ w5 (grownBy_self _ _) HI.out ⟨k + V + r11, by rw [hw], by omega, by omega⟩
    | jq + 13, hq => exact absurd hq (by omega)
  · intro vals w5 hM
    have HI := Lib.hid hM.inv
    have f0 : vals 0 = .pointer (some ⟨b9, 2, none⟩) := hM.all (by decide) 0 (by omega)
    have f1 : vals 1 = .int .i64 k := hM.all (by decide) 1 (by omega)
    have f2 : vals 2 = .agg #[.int .i64 f, .slice QA cs.length cq] := hM.all (by decide) 2 (by omega)
    have f3 : vals 3 = .pointer (some ⟨b9, 1, none⟩) := hM.all (by decide) 3 (by omega)
    have f4 : vals 4 = .int .i64 m := hM.all (by decide) 4 (by omega)
    have f5 : vals 5 = .int .i64 V := hM.all (by decide) 5 (by omega)
    have f6 : vals 6 = .int .i64 (k + V) := hM.all (by decide) 6 (by omega)
    have f7 : vals 7 = .pointer (some ⟨g, 0, none⟩) := hM.all (by decide) 7 (by omega)
    have f8 : vals 8 = .int .i64 er := hM.all (by decide) 8 (by omega)
    have f9 : vals 9 = .int .i64 (-er) := hM.all (by decide) 9 (by omega)
    have f10 : vals 10 = .int .i64 er := hM.all (by decide) 10 (by omega)
    obtain ⟨r11, f11, r1, r2⟩ := hM.all (by decide) 11 (by omega)
    obtain ⟨r12, f12, r3, r4⟩ := hM.all (by decide) 12 (by omega)
    clear hM
    simp only [putAll, List.range, List.range.loop, List.foldl_cons, List.foldl_nil, f0, f1, f2, f3, f4, f5, f6, f7, f8, f9, f10, f11, f12]
    clear f0 f1 f2 f3 f4 f5 f6 f7 f8 f9 f10 f11 f12
    change wpAny _ _ _ _ _ _ (Act.put (Act.put (Act.put (Act.put (Act.put (Act.put (Act.put (Act.put (Act.put (Act.put (Act.put (Act.put (Act.put _ (some 17) _) (some 18) _) (some 19) _) (some 20) _) (some 21) _) (some 22) _) (some 23) _) (some 24) _) (some 25) _) (some 26) _) (some 27) _) (some 28) _) (some 29) _) _
    simp only [Act.put, List.setIfInBounds_toArray, List.set_cons_zero, List.set_cons_succ]
    have z9 := grown_at HI.out.1 l9 n9 y3
    have zf := Blk.grown HB9.out HI.out.1 (by intro e; injection e with e; exact n9 e)
    have z8 := Blk.grown HS.out.k8 HI.out.1 (by intro e; injection e with e; exact n8 e)
    refine tail_step 13 _ (by kernel_rfl) rfl rfl (fun K' hK => ?_)
    go_simp
    refine hK _ _ ?_
    clear hK K'
    refine tail_step 14 _ (by kernel_rfl) rfl rfl (fun K' hK => ?_)
    have zff := zf.free 3
    go_simp
    refine hK _ _ ?_
    clear hK K'
    refine wpAny_done (by kernel_rfl) ?_ _
    have B9 := zf.set (j := 3) (by simp) (.int .i64 r12)
    have B8 := z8.far (c := b9) (o := 3) (v := .int .i64 r12) n89
    have hg1 : w.grownBy (w5.setCell ⟨b9, 3, none⟩ (.int .i64 r12)) (some g) := grown_new (grownBy_trans HS.out.gr HI.out.1) (grownBy_setCell _ _ _ _) (by omega)
    have hC9 : ChE (w5.setCell ⟨b9, 3, none⟩ (.int .i64 r12)) g L c zs := HI.out.2.keep (by simp [World.setCell]) fun k hk => heap_far (by omega)
    generalize w5.setCell ⟨b9, 3, none⟩ (.int .i64 r12) = W9 at *
    have a0 := B9.cells 0 _ rfl
    have a1 := B9.cells 1 _ rfl
    have a2 := B9.cells 2 _ rfl
    have a3 := B9.cells 3 _ rfl
    have c0 := B8.cells 0 _ rfl
    have c1 := B8.cells 1 _ rfl
    have c2 := B8.cells 2 _ rfl
    have c3 := B8.cells 3 _ rfl
    have g0 := B8.free 0
    have g1 := B8.free 1
    have g2 := B8.free 2
    have g3 := B8.free 3
    have q9 := B9.lt
    have q8 := B8.lt
    have HR3 := Lib.hid r3
    have HR4 := Lib.hid r4
    clear r1 r2 r3 r4 y1 y2 y3 d0 d1 z9 zf z8 zff HAT HI B9 HB9
    go_wp2_with fail
    have B8' := (((B8.set (j := 0) (by simp) (.int .i64 n)).set (j := 1) (by simp) (.int .i64 m)).set (j := 2) (by simp) (.int .i64 k)).set (j := 3) (by simp) (.int .i64 r12)
    have hgz : w.grownBy ((((W9.setCell ⟨b5 + 1, 0, none⟩ (.int .i64 n)).setCell ⟨b5 + 1, 1, none⟩ (.int .i64 m)).setCell ⟨b5 + 1, 2, none⟩ (.int .i64 k)).setCell ⟨b5 + 1, 3, none⟩ (.int .i64 r12)) (some g) := grown_new (grown_new (grown_new (grown_new hg1 (grownBy_setCell _ _ _ _) (by omega)) (grownBy_setCell _ _ _ _) (by omega)) (grownBy_setCell _ _ _ _) (by omega)) (grownBy_setCell _ _ _ _) (by omega)
    have hCz : ChE ((((W9.setCell ⟨b5 + 1, 0, none⟩ (.int .i64 n)).setCell ⟨b5 + 1, 1, none⟩ (.int .i64 m)).setCell ⟨b5 + 1, 2, none⟩ (.int .i64 k)).setCell ⟨b5 + 1, 3, none⟩ (.int .i64 r12)) g L c zs := ChE.keep (ChE.keep (ChE.keep (ChE.keep hC9 (by simp [World.setCell]) fun k hk => heap_far (by omega)) (by simp [World.setCell]) fun k hk => heap_far (by omega)) (by simp [World.setCell]) fun k hk => heap_far (by omega)) (by simp [World.setCell]) fun k hk => heap_far (by omega)
    generalize (((W9.setCell _ _).setCell _ _).setCell _ _).setCell _ _ = Z at *
    have r0 := B8'.cells 0 _ rfl
    have r1 := B8'.cells 1 _ rfl
    have r2 := B8'.cells 2 _ rfl
    have r3 := B8'.cells 3 _ rfl
    exact bodyPost_ret (v := prV ⟨n, m, k, r12⟩) (by simp [results, Tryz.results32, go_sem, prV, r0, r1, r2, r3]) rfl ⟨⟨n, m, k, r12⟩, rfl, rfl, ⟨m0, by show m ≤ 99; omega⟩, ⟨hk0, hk1⟩, by rw [show valueD f cs _ = V from HV.out]; show -er ≤ r12 - k - V ∧ r12 - k - V ≤ er; have := HR3.out; have := HR4.out; omega, hCz, hgz⟩
end Go.Proofs.YtcdjoegihmfanaaGreat
namespace Go.Proofs.YtcdjoegihmfanaaGreat
open Go.RowKit
set_option linter.unusedVariables false
def PAny (v : Value) (w : World) : Prop := True
theorem stb_any (g : Nat) : Stb g PAny := fun _ _ _ _ _ => trivial
set_option maxRecDepth 100000 in
set_option maxHeartbeats 4000000 in
/-- The error of a bridge, drawn. -/
theorem drvErr_any (g : Nat) (L : Option Addr) (c : Nat) (zs : List Int) (b4 b5 n : Nat) (e : Int) (w : World) (hC : ChE w g L c zs) (y4 : w.cell? ⟨b4, 0, none⟩ = some (.pointer (some ⟨g, 0, none⟩))) (y5 : w.cell? ⟨b5, n, none⟩ = some (.int .i64 e)) (l4 : b4 < w.heap.size) (l5 : b5 < w.heap.size) (n4 : b4 ≠ g) (n5 : b5 ≠ g) (hn : n < 2) (he : 0 ≤ e ∧ e ≤ 50) :
    Calls Tryz.prog 144 #[.int .i64 (n : Nat), .pointer (some ⟨b4, 0, none⟩), .pointer (some ⟨b5, 0, none⟩)] w (fun z w' => ∃ r : Int, z = .returned (.int .i64 r) ∧ -e ≤ r ∧ r ≤ e ∧ ChE w' g L c zs ∧ w.grownBy w' (some g)) := by
  obtain ⟨he0, he1⟩ := he
  go_enter Tryz.func144, Tryz.ntmps144
  go_wp2_with fail
  refine wp_inv 12 (by kernel_rfl) (by kernel_rfl) (by kernel_rfl) (by decide) (FL [PEq (.pointer (some ⟨g, 0, none⟩)), PEq (.int .i64 (n : Nat)), PEq (.pointer (some ⟨b5, 0, none⟩)), PEq (.pointer (some ⟨b5, n, none⟩)), PEq (.int .i64 e), PEq (.int .i64 (-e)), PEq (.int .i64 (n : Nat)), PEq (.pointer (some ⟨b5, 0, none⟩)), PEq (.pointer (some ⟨b5, n, none⟩)), PEq (.int .i64 e), PNum (-e) e, PNum (-e) e])
    (fun x => w.grownBy x (some g) ∧ ChE x g L c zs) (fun x y => x.grownBy y (some g)) (FL.keep (g := g) (by simp [stb_eq, stb_num])) ⟨only_drewN (grownBy_self _ _) 1, hC.drewN 1⟩ ?_ ?_
  · intro iq o hi' ho listed vals a w5 hdep hM hAt K hK
    have HI := Lib.hid hM.inv
    match iq, hi' with
    | 0, _ =>
      injection ho with ho
      subst ho
      obtain ⟨e1, e1'⟩ := hAt.slot 1 (by kernel_rfl) (by rfl)
      have q0 := grown_at HI.out.1 l4 n4 y4
      go_simp
      exact hK _ w5 (grownBy_self _ _) HI.out rfl
    | 1, _ =>
      injection ho with ho
      subst ho
      obtain ⟨e0, e0'⟩ := hAt.slot 0 (by kernel_rfl) (by rfl)
      go_simp
      exact hK _ w5 (grownBy_self _ _) HI.out rfl
    | 2, _ =>
      injection ho with ho
      subst ho
      obtain ⟨e2, e2'⟩ := hAt.slot 2 (by kernel_rfl) (by rfl)
      go_simp
      exact hK _ w5 (grownBy_self _ _) HI.out rfl
    | 3, _ =>
      injection ho with ho
      subst ho
      have l2 := hdep ⟨2, .data⟩ (by simp) rfl
      obtain ⟨x2, x2'⟩ := hAt.dep 2 (d := 7) (by omega) l2 (by rfl) (hM.fact 2 (by omega) l2)
      have l1 := hdep ⟨1, .data⟩ (by simp) rfl
      obtain ⟨x1, x1'⟩ := hAt.dep 1 (d := 6) (by omega) l1 (by rfl) (hM.fact 1 (by omega) l1)
      have n0 : (0 : Int) ≤ (n : Int) := by omega
      have n1 : (n : Int) < 2 := by omega
      go_simp
      exact hK _ w5 (grownBy_self _ _) HI.out rfl
    | 4, _ =>
      injection ho with ho
      subst ho
      have l3 := hdep ⟨3, .data⟩ (by simp) rfl
      obtain ⟨x3, x3'⟩ := hAt.dep 3 (d := 8) (by omega) l3 (by rfl) (hM.fact 3 (by omega) l3)
      have q0 := grown_at HI.out.1 l5 n5 y5
      go_simp
      exact hK _ w5 (grownBy_self _ _) HI.out rfl
    | 5, _ =>
      injection ho with ho
      subst ho
      have l4 := hdep ⟨4, .data⟩ (by simp) rfl
      obtain ⟨x4, x4'⟩ := hAt.dep 4 (d := 9) (by omega) l4 (by rfl) (hM.fact 4 (by omega) l4)
      have hw : IntKind.i64.wrap (-e) = -e := IntWalk.i64_in _ (by omega)
      go_simp
      exact hK _ w5 (grownBy_self _ _) HI.out rfl
    | 6, _ =>
      injection ho with ho
      subst ho
      obtain ⟨e0, e0'⟩ := hAt.slot 0 (by kernel_rfl) (by rfl)
      go_simp
      exact hK _ w5 (grownBy_self _ _) HI.out rfl
    | 7, _ =>
      injection ho with ho
      subst ho
      obtain ⟨e2, e2'⟩ := hAt.slot 2 (by kernel_rfl) (by rfl)
      go_simp
      exact hK _ w5 (grownBy_self _ _) HI.out rfl
    | 8, _ =>
      injection ho with ho
      subst ho
      have l7 := hdep ⟨7, .data⟩ (by simp) rfl
      obtain ⟨x7, x7'⟩ := hAt.dep 7 (d := 12) (by omega) l7 (by rfl) (hM.fact 7 (by omega) l7)
      have l6 := hdep ⟨6, .data⟩ (by simp) rfl
      obtain ⟨x6, x6'⟩ := hAt.dep 6 (d := 11) (by omega) l6 (by rfl) (hM.fact 6 (by omega) l6)
      have n0 : (0 : Int) ≤ (n : Int) := by omega
      have n1 : (n : Int) < 2 := by omega
      go_simp
      exact hK _ w5 (grownBy_self _ _) HI.out rfl
    | 9, _ =>
      injection ho with ho
      subst ho
      have l8 := hdep ⟨8, .data⟩ (by simp) rfl
      obtain ⟨x8, x8'⟩ := hAt.dep 8 (d := 13) (by omega) l8 (by rfl) (hM.fact 8 (by omega) l8)
      have q0 := grown_at HI.out.1 l5 n5 y5
      go_simp
      exact hK _ w5 (grownBy_self _ _) HI.out rfl
    | 10, _ =>
      injection ho with ho
      subst ho
      have l0 := hdep ⟨0, .data⟩ (by simp) rfl
      obtain ⟨x0, x0'⟩ := hAt.dep 0 (d := 5) (by omega) l0 (by rfl) (hM.fact 0 (by omega) l0)
      have l5 := hdep ⟨5, .data⟩ (by simp) rfl
      obtain ⟨x5, x5'⟩ := hAt.dep 5 (d := 10) (by omega) l5 (by rfl) (hM.fact 5 (by omega) l5)
      have l9 := hdep ⟨9, .data⟩ (by simp) rfl
      obtain ⟨x9, x9'⟩ := hAt.dep 9 (d := 14) (by omega) l9 (by rfl) (hM.fact 9 (by omega) l9)
      go_simp
      refine (betweenE_any g L c zs (-e) e w5 HI.out.2 (by omega) (by omega) (by omega)).mono ?_
      rintro e w6 ⟨r6, rfl, r61, r62, hC6, hg6⟩
      exact hK _ w6 hg6 ⟨grownBy_trans HI.out.1 hg6, hC6⟩ ⟨r6, rfl, r61, r62⟩
    | 11, _ =>
      injection ho with ho
      subst ho
      have l10 := hdep ⟨10, .data⟩ (by simp) rfl
      obtain ⟨r10, f10, r1, r2⟩ := hM.fact 10 (by omega) l10
      obtain ⟨x10, x10'⟩ := hAt.dep 10 (d := 15) (by omega) l10 (by rfl) f10
      go_simp
      exact hK _ w5 (grownBy_self _ _) HI.out ⟨r10, rfl, r1, r2⟩
    | jq + 12, hq => exact absurd hq (by omega)
  · intro vals w5 hM
    have HI := Lib.hid hM.inv
    have f0 : vals 0 = .pointer (some ⟨g, 0, none⟩) := hM.all (by decide) 0 (by omega)
    have f1 : vals 1 = .int .i64 (n : Nat) := hM.all (by decide) 1 (by omega)
    have f2 : vals 2 = .pointer (some ⟨b5, 0, none⟩) := hM.all (by decide) 2 (by omega)
    have f3 : vals 3 = .pointer (some ⟨b5, n, none⟩) := hM.all (by decide) 3 (by omega)
    have f4 : vals 4 = .int .i64 e := hM.all (by decide) 4 (by omega)
    have f5 : vals 5 = .int .i64 (-e) := hM.all (by decide) 5 (by omega)
    have f6 : vals 6 = .int .i64 (n : Nat) := hM.all (by decide) 6 (by omega)
    have f7 : vals 7 = .pointer (some ⟨b5, 0, none⟩) := hM.all (by decide) 7 (by omega)
    have f8 : vals 8 = .pointer (some ⟨b5, n, none⟩) := hM.all (by decide) 8 (by omega)
    have f9 : vals 9 = .int .i64 e := hM.all (by decide) 9 (by omega)
    obtain ⟨r10, f10, r1, r2⟩ := hM.all (by decide) 10 (by omega)
    obtain ⟨r11, f11, r3, r4⟩ := hM.all (by decide) 11 (by omega)
    clear hM
    simp only [putAll, List.range, List.range.loop, List.foldl_cons, List.foldl_nil, f0, f1, f2, f3, f4, f5, f6, f7, f8, f9, f10, f11]
    clear f0 f1 f2 f3 f4 f5 f6 f7 f8 f9 f10 f11
    change wpAny _ _ _ _ _ _ (Act.put (Act.put (Act.put (Act.put (Act.put (Act.put (Act.put (Act.put (Act.put (Act.put (Act.put (Act.put _ (some 5) _) (some 6) _) (some 7) _) (some 8) _) (some 9) _) (some 10) _) (some 11) _) (some 12) _) (some 13) _) (some 14) _) (some 15) _) (some 4) _) _
    simp only [Act.put, List.setIfInBounds_toArray, List.set_cons_zero, List.set_cons_succ]
    refine wpAny_done (by kernel_rfl) ?_ _
    have HG := Lib.hid HI.out
    clear HI y4 y5
    go_wp2_with fail
    go_ret
    exact ⟨r11, rfl, r3, r4, HG.out.2, HG.out.1⟩
end Go.Proofs.YtcdjoegihmfanaaGreat
