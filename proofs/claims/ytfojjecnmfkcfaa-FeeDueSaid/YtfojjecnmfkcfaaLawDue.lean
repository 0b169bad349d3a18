/- FeeDue returns true, whatever the numbers and the day; what is passed in reads as it did. No condition. -/
import Derived.Test.YtfojjecnmfkcfaaP22
import Derived.Test.YtfojjecnmfkcfaaFresh
import Derived.Test.YtfojjecnmfkcfaaDueM
import Derived.Test.YtfojjecnmfkcfaaP17
import Derived.Deep.DeepCutAuto
import Derived.Deep.AppendLies
namespace Go.Proofs.Ytfojjecnmfkcfaa
open Go.RowKit
set_option linter.unusedVariables false
theorem av_new {w w1 : World} {base : Nat} {v u : Value} {cs ps : List (Int × Int)} {g l : Int} {t : TypeId} (hv : w.ownsRow base 80 2 v cs.length (pairs cs)) (hu : w.ownsRow base 80 2 u ps.length (pairs ps)) (hap : v.ownBlock = none ∨ v.ownBlock ≠ u.ownBlock) (hW : w.alloc (.cells #[v, u, .int .i64 g, .int .i64 l] t) = w1) : AV w.heap.size g l cs ps v u w1 := by
  subst hW
  have nb := below_new w (.cells #[v, u, .int .i64 g, .int .i64 l] t)
  have nw := news_new w [v, u, .int .i64 g, .int .i64 l] t rfl
  exact ⟨by simp, nw 0 _ rfl, nw 1 _ rfl, nw 2 _ rfl, nw 3 _ rfl, by simp, own_keep (hv.base_ (Nat.zero_le _)) nb, own_keep (hu.base_ (Nat.zero_le _)) nb, hap, fun e => by have := (hv.lt _ e).2; omega, fun e => by have := (hu.lt _ e).2; omega⟩
theorem AV.next {b : Nat} {g l : Int} {cs ps : List (Int × Int)} {v u : Value} {w w' : World} (h : AV b g l cs ps v u w) (hb : Below w.heap.size w w') : AV b g l cs ps v u w' := (h.keeps.below hb).now
theorem allOf_le {cs : List (Int × Int)} {q : Int} (h : ∀ e ∈ cs, e.2 ≤ q) : ∀ k, k ≤ cs.length → allOf cs k ≤ q * k
  | 0, _ => by simp [allOf]
  | k + 1, hk => by
    rw [allOf_succ cs k (by omega)]
    have h1 := allOf_le h k (by omega)
    have h2 := h cs[k] (List.getElem_mem _)
    have : q * ((k + 1 : Nat) : Int) = q * k + q := by rw [Int.natCast_add, Int.mul_add]; simp
    omega
theorem due_le {cs : List (Int × Int)} {g day p : Int} (hc : ∀ e ∈ cs, 0 ≤ e.1 ∧ 1 ≤ e.2) (hcs : Up cs) (hg : 0 ≤ g) (h0 : 0 ≤ p) : dueK cs g day p cs.length ≤ allOf cs cs.length := by
  have hc2 : ∀ e ∈ cs, 0 ≤ e.2 := fun e he => by have := hc e he; omega
  have h00 := allOf_mono hc2 (Nat.zero_le cs.length) (Nat.le_refl _)
  have hz : allOf cs 0 = 0 := by simp [allOf]
  rcases due_is (day := day) hc hcs hg h0 cs.length (Nat.le_refl _) with ⟨h, _⟩ | ⟨i, hi, _, _, h3, h4, _⟩
  · omega
  · have := allOf_mono hc2 (show i + 1 ≤ cs.length by omega) (Nat.le_refl _); omega
/-- What FeeDue's account has: charges whose last days lie ahead of the last day that is tried, and what is due at most. -/
structure DueMade (cs ps : List (Int × Int)) (g : Int) : Prop where
  pos : ∀ e ∈ cs, 0 ≤ e.1 ∧ 1 ≤ e.2
  up : Up cs
  far : ∀ i (hi : i < cs.length), cs[i].1 + g < 140
  all : allOf cs cs.length ≤ 450
  due : ∀ day p, 0 ≤ p → 0 ≤ dueK cs g day p cs.length ∧ dueK cs g day p cs.length ≤ 450
theorem due_made {cs ps : List (Int × Int)} {g l x : Int} (ho : AccOk cs ps g l) (hE : EM 14 90 cs x) (g0 : 0 ≤ g) (g1 : g ≤ 11) (hl : (cs.length : Int) ≤ 5) : DueMade cs ps g := by
  have hpos : ∀ e ∈ cs, 0 ≤ e.1 ∧ 1 ≤ e.2 := fun e he => by have := hE.all e he; omega
  have hup := up_of hE.rise
  have hall : allOf cs cs.length ≤ 450 := by
    have := allOf_le (q := 90) (fun e he => (hE.all e he).2.2.2) cs.length (Nat.le_refl _)
    omega
  refine ⟨hpos, hup, fun i hi => ?_, hall, fun day p h0 => ⟨due_nonneg hpos hup g0 h0, Int.le_trans (due_le hpos hup g0 h0) hall⟩⟩
  have h1 := hE.all cs[i] (List.getElem_mem _)
  have h2 := hE.u1
  omega
/-- The account whose payments are made day by day. -/
structure DV (W0 : World) (go : Nat) (A : Option Addr) (cA : Nat) (cs : List (Int × Int)) (gr la : Int) (u : Value) (qs : List (Int × Int)) (wr : World) : Prop where
  bel : Below W0.heap.size W0 wr
  g0 : W0.heap.size ≤ go
  lt : go < wr.heap.size
  b0 : wr.cell? ⟨go, 0, none⟩ = some (.slice A cs.length cA)
  b1 : wr.cell? ⟨go, 1, none⟩ = some u
  b2 : wr.cell? ⟨go, 2, none⟩ = some (.int .i64 gr)
  b3 : wr.cell? ⟨go, 3, none⟩ = some (.int .i64 la)
  bf : wr.frozen? ⟨go, 1, none⟩ = false
  ou : wr.ownsRow (go + 1) 80 2 u qs.length (pairs qs)
section
variable {W0 wr w1 : World} {go : Nat} {A : Option Addr} {cA : Nat} {cs qs : List (Int × Int)} {gr la : Int} {u : Value}
theorem DV.below (h : DV W0 go A cA cs gr la u qs wr) (hb : Below wr.heap.size wr w1) : DV W0 go A cA cs gr la u qs w1 :=
  ⟨h.bel.trans (hb.mono h.bel.size), h.g0, Nat.lt_of_lt_of_le h.lt hb.size, hb.at_ h.lt h.b0, hb.at_ h.lt h.b1, hb.at_ h.lt h.b2, hb.at_ h.lt h.b3, (hb.frozen (p := ⟨go, 1, none⟩) h.lt).trans h.bf, own_keep h.ou hb⟩
theorem DV.app (h : DV W0 go A cA cs gr la u qs wr) {r n cp : Nat} {x : Int × Int} (ho : w1.ownsRow (go + 1) 80 2 (.slice (some ⟨r, 0, none⟩) n cp) (qs.length + 1) (pairs qs ++ [.int .i64 x.1, .int .i64 x.2])) (hg : wr.grownBy w1 u.ownBlock) :
    w1.cell? ⟨go, 1, none⟩ = some u ∧ w1.frozen? ⟨go, 1, none⟩ = false ∧ go < w1.heap.size ∧ DV W0 go A cA cs gr la (.slice (some ⟨r, 0, none⟩) n cp) (qs ++ [x]) (w1.setCell ⟨go, 1, none⟩ (.slice (some ⟨r, 0, none⟩) n cp)) := by
  have hne : some go ≠ u.ownBlock := fun e => by have := (h.ou.lt go e.symm).1; omega
  have hk := hg.block go h.lt hne
  have cc : ∀ o y, wr.cell? ⟨go, o, none⟩ = some y → w1.cell? ⟨go, o, none⟩ = some y := fun o y hy => (World.cell?_of_block (a := ⟨go, o, none⟩) hk).trans hy
  have hf : w1.frozen? ⟨go, 1, none⟩ = false := (World.frozen?_of_block (a := ⟨go, 1, none⟩) hk).trans h.bf
  have hlt := Nat.lt_of_lt_of_le h.lt hg.size
  have c1 := cc 1 _ h.b1
  have hb : Below W0.heap.size W0 w1 := h.bel.grown hg h.bel.size fun q hq => by have := (h.ou.lt q hq).1; have := h.g0; omega
  have hpx : pairs (qs ++ [x]) = pairs qs ++ [.int .i64 x.1, .int .i64 x.2] := by unfold pairs; rw [List.flatMap_append]; rfl
  refine ⟨c1, hf, hlt, hb.setCell (p := ⟨go, 1, none⟩) h.g0 _, h.g0, by simpa [World.setCell] using hlt, ?_, World.cell?_setCell_same' _ _ _ (by rw [c1]; rfl), ?_, ?_, by rw [World.frozen?_setCell]; exact hf, ?_⟩
  · rw [cell_far' (by omega)]; exact cc 0 _ h.b0
  · rw [cell_far' (by omega)]; exact cc 2 _ h.b2
  · rw [cell_far' (by omega)]; exact cc 3 _ h.b3
  · have h1 := own_far (b := go) (o := 1) (u := .slice (some ⟨r, 0, none⟩) n cp) ho (show go < go + 1 by omega)
    rw [List.length_append, hpx]
    exact h1
end
theorem duly_ok {cs ps qs : List (Int × Int)} {g l : Int} {t : Nat} (h : AccOk cs ps g l) (hm : DueMade cs ps g) (hd : Duly cs qs g t) : AccOk cs qs g l := by
  have hle := hd.le
  have hlen := hd.len
  have hcl := h.clen
  refine ⟨h.clen, by omega, h.grace, h.late, h.call, fun e he => ?_, h.crise, rises_up hd.up⟩
  obtain ⟨i, hi, e1⟩ := hd.past e he
  have h1 := hm.far i hi
  have h2 := hd.all e he
  have h3 := hm.all
  omega
theorem duly_full {cs ps qs : List (Int × Int)} {g : Int} (hd : Duly cs qs g cs.length) (hm : DueMade cs ps g) (g0 : 0 ≤ g) : uptoF cs 140 = uptoF qs 140 := by
  have h1 : uptoF qs 140 = allOf cs cs.length := by
    rw [uptoF_full fun e he => ?_, hd.sum]
    obtain ⟨i, hi, e1⟩ := hd.past e he
    have := hm.far i hi; omega
  have h2 : uptoF cs 140 = allOf cs cs.length := by
    have h3 : uptoF (cs.take cs.length) 140 = allOf cs cs.length := by
      rw [uptoF_full fun e he => ?_, ← allOf_take]
      obtain ⟨i, hi, rfl⟩ := List.mem_iff_getElem.1 (List.mem_of_mem_take he)
      have := hm.far i hi; omega
    rwa [List.take_length] at h3
  rw [h1, h2]
theorem any_fresh {cs ps qs : List (Int × Int)} {g day : Int} : (lateK cs qs g (day + 1) cs.length).any (freshB (lateK cs ps g day cs.length)) = true ↔ Fresh cs ps qs g day := by
  rw [List.any_eq_true]
  constructor
  · rintro ⟨i, h1, h2⟩
    obtain ⟨k, rfl, hk, hl⟩ := lateK_mem.1 h1
    refine ⟨k, hk, hl, ?_⟩
    cases hx : lateB cs ps g day k with
    | false => rfl
    | true =>
      unfold freshB at h2
      have : (lateK cs ps g day cs.length).any (fun z => (k : Int) == z) = true := List.any_eq_true.2 ⟨(k : Int), lateK_mem.2 ⟨k, rfl, hk, hx⟩, by simp⟩
      rw [this] at h2; simp at h2
  · rintro ⟨k, hk, h1, h2⟩
    refine ⟨k, lateK_mem.2 ⟨k, rfl, hk, h1⟩, ?_⟩
    unfold freshB
    cases hx : (lateK cs ps g day cs.length).any (fun z => (k : Int) == z) with
    | false => rfl
    | true =>
      obtain ⟨z, hz, he⟩ := List.any_eq_true.1 hx
      obtain ⟨j, rfl, hj, hl⟩ := lateK_mem.1 hz
      have : k = j := by have h3 := eq_of_beq he; omega
      subst this
      rw [hl] at h2; cases h2
set_option maxRecDepth 100000 in
set_option maxHeartbeats 16000000 in
theorem feeDue_walk (A1 : Option Addr) (c1 : Nat) (zs1 : List Int) (when_ : Int) (w : World) (h1 : Bytes w A1 zs1) :
    Calls Try.prog 14 #[.slice A1 zs1.length c1, .int .i64 when_] w fun e w' => e = .returned (.bool true) ∧ Below w.heap.size w w' := by
  obtain ⟨i0, hi0, hz0, hz1, hz2⟩ := info_parts infoEntry
  go_enter Try.func14, Try.ntmps14
  go_wp2_with fail
  refine (fill_any A1 c1 zs1 w h1).mono ?_
  rintro e w1 ⟨g1, rfl, hg1, hC1, hb1⟩
  go_wp2_with fail
  refine (madeAccount_any g1 A1 c1 zs1 5 5 w1 ⟨_, _, hC1⟩ (by omega) (by omega)).mono ?_
  rintro e w2 ⟨gr, la, cs, ps, v, u, x, y, rfl, hgr, hla, hcl, hpl, hEC, hEP, hov, hou, hC2, hg2⟩
  obtain ⟨A, cA, rfl, hEA⟩ := ent_of_own hov
  obtain ⟨B, cB, rfl, hEB⟩ := ent_of_own hou
  have hAcc : Acc w2 A B cA cB cs ps gr la := ⟨hEA, hEB, made_acc hgr hla (by omega) (by omega) hEC hEP⟩
  have b2 : Below w.heap.size w w2 := hb1.grown hg2 hb1.size (fun k hk => by injection hk; omega)
  obtain ⟨W, hW⟩ : ∃ W, W = w2.alloc (.cells #[.slice A cs.length cA, .slice B ps.length cB, .int .i64 gr, .int .i64 la] 76) := ⟨_, rfl⟩
  have nw := news_new w2 [.slice A cs.length cA, .slice B ps.length cB, .int .i64 gr, .int .i64 la] 76 rfl
  have hbw := below_new w2 (.cells #[.slice A cs.length cA, .slice B ps.length cB, .int .i64 gr, .int .i64 la] 76)
  have hlb : w2.heap.size < W.heap.size := by rw [hW]; simp
  have x0 : W.cell? ⟨w2.heap.size, 0, none⟩ = some (.slice A cs.length cA) := by rw [hW]; exact nw 0 _ rfl
  have x1 : W.cell? ⟨w2.heap.size, 1, none⟩ = some (.slice B ps.length cB) := by rw [hW]; exact nw 1 _ rfl
  have x2 : W.cell? ⟨w2.heap.size, 2, none⟩ = some (.int .i64 gr) := by rw [hW]; exact nw 2 _ rfl
  have x3 : W.cell? ⟨w2.heap.size, 3, none⟩ = some (.int .i64 la) := by rw [hW]; exact nw 3 _ rfl
  have HA : Hid (Acc W A B cA cB cs ps gr la) := by rw [hW]; exact hAcc.next hbw
  have HB : Hid (Below w.heap.size w W) := by rw [hW]; exact b2.trans (hbw.mono b2.size)
  have HEC := Lib.hid hEC
  have HEP := Lib.hid hEP
  clear nw hbw b2 hAcc hEA hEB hov hou hC1 hC2 hg1 hg2 hb1 h1 hEC hEP
  obtain ⟨gr0, gr1⟩ := hgr
  go_wp2_with fail
  rw [← hW]
  generalize w2.heap.size = b at x0 x1 x2 x3 hlb ⊢
  clear hW
  have HC4 : Hid (C4 W b (.slice A cs.length cA) (.slice B ps.length cB) gr la) := ⟨hlb, x0, x1, x2, x3⟩
  have HMD := Lib.hid (due_made HA.out.ok HEC.out gr0 gr1 hcl)
  clear x0 x1 x2 x3 hlb
  refine (wrapV_any when_ 120 W (by omega) (by omega)).mono ?_
  rintro e w4 ⟨rfl, rfl⟩
  obtain ⟨day0, day1⟩ := wrapV_bd when_ 120 (by omega)
  generalize wrapV when_ 120 = day at day0 day1 ⊢
  obtain ⟨lb, y0, y1, y2, y3⟩ := HC4.out
  go_wp2_with fail
  refine (dueG_any HA.out (by omega) (by omega)).mono ?_
  rintro e w5 ⟨rfl, hb5⟩
  have HA5 := Lib.hid (HA.out.next hb5)
  have HC5 := Lib.hid (HC4.out.next hb5)
  have HB5 := Lib.hid (HB.out.trans (hb5.mono HB.out.size))
  obtain ⟨due0, due1⟩ := HMD.out.due day _ (uptoF_nonneg HA.out.ok.p0 day)
  clear HA HC4 HB hb5 lb y0 y1 y2 y3
  generalize hdue : dueK cs gr day (uptoF ps day) cs.length = due at due0 due1 ⊢
  have HDUE := Lib.hid hdue
  clear hdue
  obtain ⟨lb, y0, y1, y2, y3⟩ := HC5.out
  go_wp2_with fail
  refine (lateG_any HA5.out (by omega) (by omega)).mono ?_
  rintro e w6 ⟨vl, rfl, hol, hb6⟩
  obtain ⟨L, cL, rfl, hcL, hL⟩ := own_slice hol
  have HL := Lib.hid hL
  have HA6 := Lib.hid (HA5.out.next hb6)
  have HC6 := Lib.hid (HC5.out.next hb6)
  have HB6 := Lib.hid (HB5.out.trans (hb6.mono HB5.out.size))
  clear hol hL HA5 HC5 HB5 hb6 lb y0 y1 y2 y3
  go_wp2_with fail
  generalize hW7 : World.alloc w6 _ = W7
  generalize hW8 : World.alloc W7 _ = W8
  have e7 : W7.heap.size = w6.heap.size + 1 := by rw [← hW7]; simp
  have b7 : Below w6.heap.size w6 W7 := by rw [← hW7]; exact below_new _ _
  have b8 : Below W7.heap.size W7 W8 := by rw [← hW8]; exact below_new _ _
  have l7 : W7.heap.size < W8.heap.size := by rw [← hW8]; simp
  have k0 : W8.cell? ⟨w6.heap.size, 0, none⟩ = some (.slice L (lateK cs ps gr day cs.length).length cL) := b8.at_ (by omega) (by rw [← hW7]; exact news_new w6 [.slice L (lateK cs ps gr day cs.length).length cL] _ rfl 0 _ rfl)
  have k1 : W8.cell? ⟨w6.heap.size + 1, 0, none⟩ = some (.int .i64 due) := by rw [← e7, ← hW8]; exact news_new W7 [.int .i64 due, .int .i64 (due - 1)] _ rfl 0 _ rfl
  have k2 : W8.cell? ⟨w6.heap.size + 1, 1, none⟩ = some (.int .i64 (due - 1)) := by rw [← e7, ← hW8]; exact news_new W7 [.int .i64 due, .int .i64 (due - 1)] _ rfl 1 _ rfl
  have b68 := b7.trans (b8.mono b7.size)
  have HA8 := Lib.hid (HA6.out.next b68)
  have HL8 := Lib.hid (HL.out.next b68)
  have HC8 := Lib.hid (HC6.out.next b68)
  have HB8 := Lib.hid (HB6.out.trans (b68.mono HB6.out.size))
  have hz8 : w6.heap.size + 1 < W8.heap.size := by omega
  clear hW7 hW8 e7 b7 b8 l7 b68 HA6 HL HC6 HB6
  generalize w6.heap.size = g6 at k0 k1 k2 hz8 ⊢
  have HN8 : Hid (∀ k : Nat, k < 2 → ∃ n : Int, W8.cell? ⟨g6 + 1, k, none⟩ = some (.int .i64 n) ∧ (n = due ∨ n = due - 1)) := by
    show ∀ k : Nat, _
    intro k hk
    match k, hk with
    | 0, _ => exact ⟨_, k1, .inl rfl⟩
    | 1, _ => exact ⟨_, k2, .inr rfl⟩
  have HK0 := Lib.hid k0
  clear k0 k1 k2
  go_wp2_with fail
  go_loopw [13, 14, 15, 16, 17, 18, 61] (fun _ _ _ _ _ _ iv wr => ∃ k : Nat, iv = .int .i64 k ∧ k ≤ 2 ∧ Hid (Below W8.heap.size W8 wr)) (fun _ _ _ _ _ _ iv _ => 2 - (intOf iv).toNat)
  case atStart => exact ⟨0, rfl, by omega, Below.refl _ _⟩
  case round =>
    obtain ⟨k, rfl, hk2, HX⟩ := hrel
    by_cases hlt : k < 2
    · obtain ⟨n, cn, hn⟩ := HN8.out k hlt
      have cn := HX.out.at_ hz8 cn
      have ln := Nat.lt_of_lt_of_le hz8 HX.out.size
      have hkz : (k : Int) < 2 := by omega
      have hk0 : (0 : Int) ≤ (k : Int) := by omega
      have HAr := Lib.hid (HA8.out.next HX.out)
      have HLr := Lib.hid (HL8.out.next HX.out)
      have HCr := Lib.hid (HC8.out.next HX.out)
      have HKr := Lib.hid (HX.out.at_ (show g6 < W8.heap.size by omega) HK0.out)
      obtain ⟨lb, y0, y1, y2, y3⟩ := HCr.out
      go_wp2_with fail
      refine (ownAcc_any A B cA cB cs ps gr la wr HAr.out.ea HAr.out.eb (by omega) (by omega)).mono ?_
      rintro e w9 ⟨v9, u9, rfl, hv9, hu9, hap9, hb9⟩
      obtain ⟨V9, cV, rfl, _, _⟩ := own_slice hv9
      obtain ⟨U9, cU, rfl, _, _⟩ := own_slice hu9
      have HP9 := Lib.hid hap9
      clear hap9
      have HV9 := Lib.hid hv9
      have HU9 := Lib.hid hu9
      have HL9 := Lib.hid (HLr.out.next hb9)
      have HK9 := Lib.hid (hb9.at_ (show g6 < wr.heap.size by omega) HKr.out)
      have HX9 := Lib.hid (HX.out.trans (hb9.mono HX.out.size))
      have HZ9 := Lib.hid hb9.size
      clear HAr HLr HCr HKr hv9 hu9 hb9 lb y0 y1 y2 y3 cn
      have hcase : 0 < n ∨ n ≤ 0 := by omega
      rcases hcase with hn0 | hn0
      · go_upto_region 12 with fail
        generalize hW10 : World.alloc w9 _ = W10
        have HAV := Lib.hid (av_new HV9.out HU9.out HP9.out hW10)
        have hb10 : Below w9.heap.size w9 W10 := by rw [← hW10]; exact below_new _ _
        have HL10 := Lib.hid (HL9.out.next hb10)
        have HK10 := Lib.hid (hb10.at_ (show g6 < w9.heap.size by have := HZ9.out; omega) HK9.out)
        have HX10 := Lib.hid (HX9.out.trans (hb10.mono HX9.out.size))
        have hzz : W8.heap.size ≤ w9.heap.size := Nat.le_trans HX.out.size HZ9.out
        have hzu : ∀ q, (Value.slice U9 ps.length cU).ownBlock = some q → W8.heap.size ≤ q := fun q hq => Nat.le_trans HX.out.size (HU9.out.lt q hq).1
        have HZU := Lib.hid hzu
        clear hW10 hb10 HV9 HU9 HP9 HL9 HK9 HX9 HZ9 hzu
        generalize w9.heap.size = go at HAV hzz ⊢
        have a1 := HAV.out.b1
        have al := HAV.out.lt
        have hnd : n ≤ 450 ∧ -1 ≤ n := by omega
        go_wp2_with (at_builtin; refine wpList_append_lies _ rfl _ _ 74 rfl 0 80 i0 _ 2 16 Try.underlying74 hi0 hz0 hz1 hz2 rfl (by decide) _ ps.length (pairs ps) rfl (own_keep HAV.out.ou (below_new _ _)) ⟨W10.heap.size, 0, none⟩ 1 1 [.int .i64 day, .int .i64 n] rfl rfl (news_new _ _ _ rfl) (by simp [Value.oneCell']) (by omega) (by simp only [maxLen]; omega) (by omega) (Nat.zero_le _) _ rfl ?_; intro r11 cp11 w11 hown1 hgrow1 hat hlt8; obtain ⟨⟨my, m1⟩, m2, m3⟩ := (HAV.out.next (below_new _ _)).appU (x := (day, n)) hown1 hgrow1 hat; have ml := (Nat.lt_of_lt_of_le (Nat.lt_of_lt_of_le al (below_new _ _).size) hgrow1.size); have HAV2 := Lib.hid m3; have HG11 := Lib.hid hgrow1; have HAT := Lib.hid hat; clear m3 hown1 hgrow1 hat hlt8 HAV)
        generalize hW12 : World.setCell w11 _ _ = W12 at HAV2 ⊢
        have hr11 : W8.heap.size ≤ r11 := by
          rcases HAT.out with h | h
          · exact HZU.out _ h
          · have h2 : r11 = (W10.alloc (.cells #[.int .i64 day, .int .i64 n] 80)).heap.size := h
            have := HX10.out.size
            rw [h2]; simp; omega
        have HX12 : Hid (Below W8.heap.size W8 W12) := by
          rw [← hW12]
          exact ((HX10.out.alloc HX10.out.size _).grown HG11.out (by have := HX10.out.size; simp; omega) (fun q hq => HZU.out q hq)).setCell (p := ⟨go, 1, none⟩) hzz _
        clear hW12 HG11 HAT HX10 HL10 HK10 m1 m2 ml a1 al HZU
        have HAX := Lib.hid HAV2.out.ax
        have hsort := sortD1_any r11 cp11 (ps ++ [(day, n)]) W12 HAX.out.ru.erow (by simp) (by simp; omega) (fun z hz => by
          rcases List.mem_append.1 hz with hz | hz
          · have := HEP.out.all z hz; have := HEP.out.u1; omega
          · simp at hz; subst hz; show 0 ≤ day ∧ day ≤ 1000; omega)
        rw [show (ps ++ [(day, n)]).length = ps.length + 1 by simp] at hsort
        have HSO := Lib.hid hsort
        clear hsort
        refine HSO.out.mono ?_
        rintro e w13 ⟨qs, rfl, hperm, hup, her, hg13⟩
        have hlen : qs.length = ps.length + 1 := by rw [hperm.length_eq]; simp
        have HX13 := Lib.hid (HX12.out.grown hg13 HX12.out.size (fun q hq => by injection hq; omega))
        have hax := HAX.out.setU (r := r11) rfl hperm.length_eq hg13.size (fun k hk hne => hg13.block k hk (by intro e; injection e; omega)) her
        obtain ⟨Aq, cq, eq1, hev⟩ := hax.rv.ent
        obtain ⟨Bq, dq, eq2, heu⟩ := hax.ru.ent
        injection eq1 with eq11 eq12 eq13
        injection eq2 with eq21 eq22 eq23
        clear eq12 eq22
        subst eq11 eq13 eq21 eq23
        have hsoon : SoonG ps qs := soon_more hperm hup (fun z hz => by have := HA8.out.ok.pall z hz; omega) (by show 0 ≤ day ∧ day ≤ 400 ∧ 1 ≤ n ∧ n ≤ 10000; omega)
        have hok := ok_soon HA8.out.ok hsoon (by omega)
        have HAC : Hid (Acc w13 V9 (some ⟨r11, 0, none⟩) cV cp11 cs qs gr la) := ⟨hev, heu, hok⟩
        have hfr : (lateK cs qs gr (day + 1) cs.length).any (freshB (lateK cs ps gr day cs.length)) = decide (n < due) := by
          rw [Bool.eq_iff_iff, any_fresh, decide_eq_true_iff, fresh_iff HMD.out.pos HMD.out.up gr0 (up_of HA8.out.ok.prise) HA8.out.ok.p0 hup (fun z hz => by have := hsoon.all z hz; omega) (show 0 ≤ n by omega) (fun d => by rw [uptoF_perm hperm, uptoF_app, uptoF_cons, uptoF_nil]; split <;> (simp; done)), HDUE.out]
        have z0 := hax.b0
        have z1 := hax.b1
        have z2 := hax.b2
        have z3 := hax.b3
        have zl := hax.lt
        clear hax her hg13 hperm hup hev heu hok hsoon HAX HSO HX12 HAV2
        have hlg := lateG_any (day := day + 1) HAC.out (by omega) (by omega)
        rw [hlen] at hlg
        have HLG := Lib.hid hlg
        have HFR := Lib.hid hfr
        clear hlg hlen hfr
        go_wp2_with fail
        refine HLG.out.mono ?_
        rintro e w14 ⟨vn, rfl, hoN, hb14⟩
        clear z0 z1 z2 z3 zl HLG HAC
        obtain ⟨Ln, cn2, rfl, _, hLn⟩ := own_slice hoN
        have HLn := Lib.hid hLn
        have HX14 := Lib.hid (HX13.out.trans (hb14.mono HX13.out.size))
        clear hoN hLn hb14
        have hcd := containsDue_any (a := ⟨g6, 0, none⟩) Ln cn2 (lateK cs qs gr (day + 1) cs.length) w14 (HX14.out.at_ (show g6 < W8.heap.size by omega) HK0.out) (show g6 < w14.heap.size by have := HX14.out.size; omega) (HL8.out.next HX14.out) (by have := lateK_len cs ps gr day cs.length; omega) HLn.out (by have := lateK_len cs qs gr (day + 1) cs.length; omega)
        unfold G_Due at hcd
        rw [HFR.out] at hcd
        have HCD := Lib.hid hcd
        clear hcd HFR
        go_wp2_with fail
        refine HCD.out.mono ?_
        rintro e w15 ⟨rfl, hb15⟩
        have HX15 := Lib.hid (HX14.out.trans (hb15.mono HX14.out.size))
        clear hb15 HCD
        go_wp2_with fail
        go_roundw
        case rel => exact ⟨k + 1, by go_num, by omega, HX15⟩
        case measure => simp [intOf]; omega
      · go_upto_region 14 with fail
        generalize hW10 : World.alloc w9 _ = W10
        have HAV := Lib.hid (av_new HV9.out HU9.out HP9.out hW10)
        have hb10 : Below w9.heap.size w9 W10 := by rw [← hW10]; exact below_new _ _
        have HX13 := Lib.hid (HX9.out.trans (hb10.mono HX9.out.size))
        clear hW10 hb10 HV9 HU9 HP9 HL9 HK9 HX9 HZ9
        generalize w9.heap.size = go at HAV ⊢
        obtain ⟨Aq, cq, eq1, hev⟩ := ent_of_own HAV.out.ov
        obtain ⟨Bq, dq, eq2, heu⟩ := ent_of_own HAV.out.ou
        injection eq1 with eq11 eq12 eq13
        injection eq2 with eq21 eq22 eq23
        clear eq12 eq22
        subst eq11 eq13 eq21 eq23
        have HAC : Hid (Acc W10 V9 U9 cV cU cs ps gr la) := ⟨hev, heu, HA8.out.ok⟩
        have hfr : (lateK cs ps gr (day + 1) cs.length).any (freshB (lateK cs ps gr day cs.length)) = decide (0 < due) := by
          rw [Bool.eq_iff_iff, any_fresh, decide_eq_true_iff, fresh_iff HMD.out.pos HMD.out.up gr0 (up_of HA8.out.ok.prise) HA8.out.ok.p0 (up_of HA8.out.ok.prise) HA8.out.ok.p0 (Int.le_refl 0) (fun d => by simp), HDUE.out]
        have z0 := HAV.out.b0
        have z1 := HAV.out.b1
        have z2 := HAV.out.b2
        have z3 := HAV.out.b3
        have zl := HAV.out.lt
        clear HAV hev heu
        have HLG := Lib.hid (lateG_any (day := day + 1) HAC.out (by omega) (by omega))
        have HFR := Lib.hid hfr
        clear hfr
        go_wp2_with fail
        refine HLG.out.mono ?_
        rintro e w14 ⟨vn, rfl, hoN, hb14⟩
        clear z0 z1 z2 z3 zl HLG HAC
        obtain ⟨Ln, cn2, rfl, _, hLn⟩ := own_slice hoN
        have HLn := Lib.hid hLn
        have HX14 := Lib.hid (HX13.out.trans (hb14.mono HX13.out.size))
        clear hoN hLn hb14
        have hcd := containsDue_any (a := ⟨g6, 0, none⟩) Ln cn2 (lateK cs ps gr (day + 1) cs.length) w14 (HX14.out.at_ (show g6 < W8.heap.size by omega) HK0.out) (show g6 < w14.heap.size by have := HX14.out.size; omega) (HL8.out.next HX14.out) (by have := lateK_len cs ps gr day cs.length; omega) HLn.out (by have := lateK_len cs ps gr (day + 1) cs.length; omega)
        unfold G_Due at hcd
        rw [HFR.out] at hcd
        have HCD := Lib.hid hcd
        clear hcd HFR
        go_wp2_with fail
        refine HCD.out.mono ?_
        rintro e w15 ⟨rfl, hb15⟩
        have HX15 := Lib.hid (HX14.out.trans (hb15.mono HX14.out.size))
        clear hb15 HCD
        have hnc : n = 0 ∨ n < 0 := by omega
        rcases hnc with rfl | hneg
        · go_wp2_with fail
          go_roundw
          case rel => exact ⟨k + 1, by go_num, by omega, HX15⟩
          case measure => simp [intOf]; omega
        · go_wp2_with fail
          go_roundw
          case rel => exact ⟨k + 1, by go_num, by omega, HX15⟩
          case measure => simp [intOf]; omega
    · have HA9 := Lib.hid (HA8.out.next HX.out)
      have HC9 := Lib.hid (HC8.out.next HX.out)
      have HB9 := Lib.hid (HB8.out.trans (HX.out.mono HB8.out.size))
      clear HA8 HC8 HB8 HL8 HN8 HK0
      obtain ⟨lb, y0, y1, y2, y3⟩ := HC9.out
      have hkz : ¬ (k : Int) < 2 := by omega
      clear hlt hk2
      go_upto_region 22 with fail
      generalize hWG : World.alloc wr _ = WG
      have hDV : DV wr wr.heap.size A cA cs gr la (.slice none 0 0) [] WG := by
        subst hWG
        have nw := news_new wr [.slice A cs.length cA, .slice none 0 0, .int .i64 gr, .int .i64 la] 76 rfl
        exact ⟨below_new _ _, Nat.le_refl _, by simp, nw 0 _ rfl, nw 1 _ rfl, nw 2 _ rfl, nw 3 _ rfl, by simp, World.ownsRow_nil _ _ _ _⟩
      have HDV := Lib.hid hDV
      have HD0 : Hid (Duly cs [] gr 0) := duly_none
      obtain ⟨W9, hW9⟩ : ∃ x, x = wr := ⟨_, rfl⟩
      subst hW9
      have HEE : Hid (∀ w', Below W9.heap.size W9 w' → Ent w' A cA cs) := fun w' hb => HA9.out.ea.next hb
      have HOK : Hid (AccOk cs ps gr la) := HA9.out.ok
      clear hDV hWG lb y0 y1 y2 y3 HC9 HA9 HX hkz
      generalize W9.heap.size = go at HDV ⊢
      go_wp2_with fail
      go_loopw [20, 21, 22, 23, 110] (fun _ _ _ _ iv wr => ∃ (j t : Nat) (u : Value) (qs : List (Int × Int)), iv = .int .i64 j ∧ j ≤ 8 ∧ j ≤ t ∧ Hid (DV W9 go A cA cs gr la u qs wr) ∧ Hid (Duly cs qs gr t)) (fun _ _ _ _ iv _ => 8 - (intOf iv).toNat)
      case atStart => exact ⟨0, 0, _, _, rfl, by omega, by omega, HDV, HD0⟩
      case round =>
        clear HDV HD0
        obtain ⟨j, t, u, qs, rfl, hj8, hjt, HV, HD⟩ := hrel
        have ht5 := HD.out.le
        by_cases hj : j < 8
        · have hjz : (j : Int) < 8 := by omega
          go_wp2_with fail
          go_loopw [20, 21, 22, 23] (fun pv dv _ _ wr => ∃ (pd : Bool) (dy : Int) (t : Nat) (u : Value) (qs : List (Int × Int)), pv = .bool pd ∧ dv = .int .i64 dy ∧ 0 ≤ dy ∧ dy ≤ 140 ∧ Hid (DV W9 go A cA cs gr la u qs wr) ∧ Hid (Duly cs qs gr t) ∧ Hid (pd = true → j + 1 ≤ t) ∧ Hid (pd = false → j ≤ t ∧ ∀ i (hi : i < cs.length), t ≤ i → dy ≤ cs[i].1 + gr)) (fun _ dv _ _ _ => 140 - (intOf dv).toNat)
          case atStart => exact ⟨false, 0, t, u, qs, rfl, rfl, by omega, by omega, HV, HD, fun h => (by cases h), fun _ => ⟨hjt, fun i hi _ => by have := (HMD.out.pos cs[i] (List.getElem_mem _)).1; omega⟩⟩
          case round =>
            clear HV HD hjt ht5
            obtain ⟨pd, dy, t, u, qs, rfl, rfl, d0, d1, HV, HD, HT1, HT2⟩ := hrel
            cases pd with
            | true =>
              have ht := HT1.out rfl
              by_cases hd : dy < 140
              all_goals
                go_wp2_with fail
                go_roundw
                case rel => exact ⟨j + 1, t, u, qs, by go_num, by omega, ht, HV, HD⟩
                case measure => simp [intOf]; omega
            | false =>
              obtain ⟨ht, hfar⟩ := HT2.out rfl
              by_cases hd : dy < 140
              · have hp := HD.out
                have hq0 : ∀ e ∈ qs, 0 ≤ e.2 := fun e he => by have := hp.all e he; omega
                have hlen := hp.len
                have hle := hp.le
                have hq8 : (qs.length : Int) < 8 := by omega
                obtain ⟨U, cU, rfl, eU⟩ := ent_of_own HV.out.ou
                have HAC : Hid (Acc wr A U cA cU cs qs gr la) := ⟨HEE.out wr HV.out.bel, eU, duly_ok HOK.out HMD.out hp⟩
                have hdu := HMD.out.due dy (uptoF qs dy) (uptoF_nonneg hq0 dy)
                have HDG := Lib.hid (dueG_any (day := dy) HAC.out d0 (by omega))
                have HPAY := Lib.hid (fun (h : 0 < dueK cs gr dy (uptoF qs dy) cs.length) => hp.pay (day := dy) HMD.out.pos HMD.out.up gr0 h hfar)
                have HZERO := Lib.hid (fun (h : dueK cs gr dy (uptoF qs dy) cs.length ≤ 0) => hp.zero (day := dy) HMD.out.pos HMD.out.up gr0 h hfar)
                clear hp hq0 eU HAC hfar
                generalize dueK cs gr dy (uptoF qs dy) cs.length = due2 at hdu HDG HPAY HZERO
                obtain ⟨q0, q1⟩ := hdu
                have z0 := HV.out.b0
                have z1 := HV.out.b1
                have z2 := HV.out.b2
                have z3 := HV.out.b3
                have zl := HV.out.lt
                go_wp2_with fail
                refine HDG.out.mono ?_
                rintro e w10 ⟨rfl, hb10⟩
                have HV10 := Lib.hid (HV.out.below hb10)
                clear HV hb10 HDG z0 z1 z2 z3 zl
                by_cases hpos : 0 < due2
                · obtain ⟨t2, ht2, hD2⟩ := HPAY.out hpos
                  have HD2 := Lib.hid hD2
                  have z1 := HV10.out.b1
                  have zl := HV10.out.lt
                  clear hD2 HPAY HZERO
                  go_wp2_with (at_builtin; refine wpList_append_lies _ rfl _ _ 74 rfl (go + 1) 80 i0 _ 2 16 Try.underlying74 hi0 hz0 hz1 hz2 rfl (by decide) _ qs.length (pairs qs) rfl (own_keep HV10.out.ou (below_new _ _)) ⟨w10.heap.size, 0, none⟩ 1 1 [.int .i64 dy, .int .i64 due2] rfl rfl (news_new _ _ _ rfl) (by simp [Value.oneCell']) (by omega) (by simp only [maxLen]; omega) (by omega) (by have := HV10.out.lt; simp; omega) _ rfl ?_; intro r11 cp11 w11 hown1 hgrow1 hat hlt8; obtain ⟨m1, m2, m3, m4⟩ := (HV10.out.below (below_new _ _)).app (x := (dy, due2)) hown1 hgrow1; have HV11 := Lib.hid m4; clear m4 hown1 hgrow1 hat hlt8)
                  go_roundw
                  case rel => exact ⟨true, dy + 1, t2, _, _, rfl, by go_num, by omega, by omega, HV11, HD2, fun _ => by omega, fun h => (by cases h)⟩
                  case measure => simp [intOf]; omega
                · have hz := HZERO.out (by omega)
                  have HZ := Lib.hid hz
                  clear hz HPAY HZERO
                  go_wp2_with fail
                  go_roundw
                  case rel => exact ⟨false, dy + 1, t, _, qs, rfl, by go_num, by omega, by omega, HV10, HD, HT1, fun _ => ⟨ht, HZ.out⟩⟩
                  case measure => simp [intOf]; omega
              · obtain rfl : dy = 140 := by omega
                obtain rfl : t = cs.length := HD.out.done (day := 140) HMD.out.far hfar
                have hp := HD.out
                have hlen := hp.len
                obtain ⟨U, cU, rfl, eU⟩ := ent_of_own HV.out.ou
                have HAC : Hid (Acc wr A U cA cU cs qs gr la) := ⟨HEE.out wr HV.out.bel, eU, duly_ok HOK.out HMD.out hp⟩
                have HFU := Lib.hid (duly_full hp HMD.out gr0)
                obtain ⟨hlk, hlc⟩ := hp.late (day := 140) (l := la) HMD.out.pos gr0 cs.length (Nat.le_refl _)
                have hlg := fun w' hb => lateG_any (day := 140) (HAC.out.next (w' := w') hb) (by omega) (by omega)
                have how := fun w' hb => owingG_any (day := 140) (HAC.out.next (w' := w') hb) (by omega) (by omega)
                rw [hlk, hlc] at hlg
                rw [HFU.out] at how
                simp only [Int.sub_self, Int.max_self] at how
                have HLG := Lib.hid hlg
                have HOW := Lib.hid how
                clear hlk hlc hlg how eU hp hfar HT1 HT2 HAC
                have z0 := HV.out.b0
                have z1 := HV.out.b1
                have z2 := HV.out.b2
                have z3 := HV.out.b3
                have zl := HV.out.lt
                go_wp2_with fail
                refine (HLG.out _ (Below.refl _ _)).mono ?_
                rintro e w10 ⟨vn, rfl, hoN, hb10⟩
                obtain ⟨Ln, cn2, rfl, _, _⟩ := own_slice hoN
                have z0 := hb10.at_ zl z0
                have z1 := hb10.at_ zl z1
                have z2 := hb10.at_ zl z2
                have z3 := hb10.at_ zl z3
                have zl := Nat.lt_of_lt_of_le zl hb10.size
                have HV10 := Lib.hid (HV.out.below hb10)
                have HOW2 := Lib.hid (HOW.out _ hb10)
                clear HV hb10 hoN HOW HLG
                go_wp2_with fail
                refine HOW2.out.mono ?_
                rintro e w11 ⟨rfl, hb11⟩
                have HV11 := Lib.hid (HV10.out.below hb11)
                clear HV10 hb11 z0 z1 z2 z3 zl HOW2
                go_wp2_with fail
                refine (awake_any w11).mono ?_
                rintro e w12 ⟨rfl, hb12⟩
                go_wp2_with fail
                go_ret
                have hx := HB9.out.trans (HV11.out.bel.mono HB9.out.size)
                exact ⟨rfl, hx.trans (hb12.mono hx.size)⟩
        · exfalso
          omega
end Go.Proofs.Ytfojjecnmfkcfaa
