/- checked, Value: a drift in form, its value. The desk's proofs; exclude: whether two proofs do so. Trip.written, Check, opened, asked. opened, asked, fitting's ranges: a book at work, or the errors. Copies of lists, in blocks of their own: Copy at each type, and slices.Clone at proofs. -/
import Derived.Test.YtcdjoegihmfanaaGreatG3
import Derived.Test.YtcdjoegihmfanaaGreatG2
import Derived.Deep.QuietTactic
import Derived.BigQuiet
import Derived.Lib.SliceRun
namespace Go.Proofs.YtcdjoegihmfanaaGreat
open Go.RowKit
set_option linter.unusedVariables false
/-- A change is in range. -/
def chOk (c : Int × Int) : Bool := inB c.1 1 10000 && inB c.2 (-50) 50
theorem rngD_eq (f : Int) (cs : List (Int × Int)) : rngD f cs = (inB f (-50) 50 && cs.all chOk) := by
  unfold rngD
  congr 1
  · rw [Bool.eq_iff_iff]; simp only [decide_eq_true_eq, inB_iff]
  · congr 1
    funext c
    rw [Bool.eq_iff_iff]; simp only [decide_eq_true_eq, chOk, Bool.and_eq_true, inB_iff]; omega
theorem predChange (t : List (Int × Int)) (w : World) : Decides 161 #[] itV chOk t w := by
  intro W x hx hb
  obtain ⟨m, v⟩ := x
  show Calls Tryz.prog 161 #[itV (m, v)] W _
  unfold itV
  go_enter Tryz.func161, Tryz.ntmps161
  go_wp2_with (go_at_call 88; refine (in_any _ _ _ _).mono ?_; rintro e w' ⟨rfl, rfl⟩)
  all_goals
    go_ret
    exact ⟨ret_bool (by simp [chOk, *]), by go_grown⟩
/-- Minutes get greater, from one on. -/
def incF : Int → List (Int × Int) → Bool
  | _, [] => true
  | m, c :: t => decide (m < c.1) && incF c.1 t
theorem incF_cons (a : Int × Int) : ∀ t : List (Int × Int), incF a.1 t = incD (a :: t)
  | [] => rfl
  | b :: t => by simp only [incF, incD]; rw [incF_cons b t]
theorem incF_zero {cs : List (Int × Int)} (h : ∀ c ∈ cs, 1 ≤ c.1) : incF 0 cs = incD cs := by
  match cs, h with
  | [], _ => rfl
  | a :: t, h =>
    have := h a (by simp)
    rw [incF, incF_cons a t, decide_eq_true (by omega), Bool.true_and]
theorem incF_drop {cs : List (Int × Int)} {m : Int} {k : Nat} (h : k < cs.length) : incF m (cs.drop k) = (decide (m < cs[k].1) && incF cs[k].1 (cs.drop (k + 1))) := by
  rw [List.drop_eq_getElem_cons h, incF]
theorem difD_drop {cs : List (Int × Int)} {f : Int} {k : Nat} (h : k < cs.length) : difD f (cs.drop k) = (decide (cs[k].2 ≠ f) && difD cs[k].2 (cs.drop (k + 1))) := by
  rw [List.drop_eq_getElem_cons h, difD]
theorem ckD_long {f : Int} {cs : List (Int × Int)} (h : 10 < cs.length) : ckD f cs = 3 := if_pos h
theorem ckD_rng {f : Int} {cs : List (Int × Int)} (h : ¬ 10 < cs.length) (k : (inB f (-50) 50 && cs.all chOk) = false) : ckD f cs = 4 := by unfold ckD; rw [if_neg h, rngD_eq, if_pos k]
theorem ckD_rest {f : Int} {cs : List (Int × Int)} (h : ¬ 10 < cs.length) (k1 : inB f (-50) 50 = true) (k2 : cs.all chOk = true) : ckD f cs = if incF 0 cs = false then 6 else if difD f cs = false then 8 else 0 := by
  have e : incF 0 cs = incD cs := incF_zero fun c hc => by
    have := List.all_eq_true.1 k2 c hc
    simp only [chOk, Bool.and_eq_true, inB_iff] at this
    omega
  unfold ckD
  rw [if_neg h, rngD_eq, k1, k2, if_neg (by simp), e]
set_option maxRecDepth 100000 in
set_option maxHeartbeats 2000000 in
theorem checked_any (f : Int) (A : Option Addr) (c : Nat) (cs : List (Int × Int)) (w : World) (hr : Rd w w.heap.size A (pairs cs)) (hl : cs.length ≤ 1000) :
    Calls Tryz.prog 113 #[drV f (.slice A cs.length c)] w fun e w' => e = .returned (.int .i64 (ckD f cs)) ∧ Below w.heap.size w w' := by
  have HR := fun (W : World) (hb : Below w.heap.size w W) => Lib.hid (hr.next hb)
  have HE := fun (W : World) (hb : Below w.heap.size w W) => Lib.hid (everyChange_any A c cs 161 #[] (enters_of Tryz.func161 (by kernel_rfl) rfl) chOk W (hr.next hb) hl (predChange cs W))
  clear hr
  unfold drV
  by_cases hlen : 10 < cs.length
  · have HCK := Lib.hid (ckD_long (f := f) hlen)
    have hlen' : (10 : Int) < (cs.length : Int) := by omega
    go_enter Tryz.func113, Tryz.ntmps113
    go_wp2_with fail
    go_ret
    exact ⟨ret_int HCK.out.symm, by go_grown⟩
  have HRST := fun k1 k2 => Lib.hid (ckD_rest (f := f) hlen k1 k2)
  have HRNG := fun k => Lib.hid (ckD_rng (f := f) hlen k)
  have hlen' : ¬ (10 : Int) < (cs.length : Int) := by omega
  go_enter Tryz.func113, Tryz.ntmps113
  go_wp2_with fail
  refine (in_any _ _ _ _).mono ?_
  rintro e w1 ⟨rfl, rfl⟩
  cases h1 : inB f (-50) 50
  · have HCK := HRNG (by rw [h1]; rfl)
    clear h1
    go_wp2_with fail
    go_ret
    exact ⟨ret_int HCK.out.symm, by go_grown⟩
  have B1 := Blk.new w [.int .i64 f, .slice A cs.length c] 61
  have bl := below_new w (.cells #[.int .i64 f, .slice A cs.length c] 61)
  go_wp2_with fail
  refine (HE _ bl).out.mono ?_
  rintro e w2 ⟨rfl, hb2⟩
  have B2 := B1.below hb2
  have hbw : Below w.heap.size w w2 := bl.trans (hb2.mono bl.size)
  have c0 := B2.cells 0 _ rfl
  have c1 := B2.cells 1 _ rfl
  have lt := B2.lt
  have HBW := Lib.hid hbw
  clear bl hb2 hbw B1
  cases h2 : cs.all chOk
  · have HCK := HRNG (by rw [h1, h2]; rfl)
    clear h1 h2
    go_wp2_with fail
    go_ret
    exact ⟨ret_int HCK.out.symm, HBW.out⟩
  have HCK := HRST h1 h2
  clear h1 h2 HRNG HRST HE
  have hs2 := HBW.out.size
  go_wp2_with fail
  go_loopw [5, 30] (fun _ i wr => ∃ (k : Nat) (lm lv : Int), k ≤ cs.length ∧ i = .int .i64 (k : Nat) ∧ Hid (incF 0 cs = incF lm (cs.drop k)) ∧ Hid (Blk wr w2.heap.size [.int .i64 lm, .int .i64 lv]) ∧ Hid (Below w2.heap.size w2 wr)) (fun _ i _ => cs.length - (intOf i).toNat)
  case atStart => exact ⟨0, 0, f, Nat.zero_le _, rfl, Lib.hid rfl, Lib.hid (Blk.new w2 _ _), Lib.hid (below_new _ _)⟩
  case round =>
    obtain ⟨k, lm, lv, hk, rfl, HI, HL, HBR⟩ := hrel
    have l0 := HL.out.cells 0 _ rfl
    have l1 := HL.out.cells 1 _ rfl
    have f0 := HL.out.free 0
    have f1 := HL.out.free 1
    have ll := HL.out.lt
    have hs3 := HBR.out.size
    have c0r := HBR.out.at_ lt c0
    have c1r := HBR.out.at_ lt c1
    have ltr : w.heap.size < wr.heap.size := Nat.lt_of_lt_of_le lt hs3
    by_cases hlt : k < cs.length
    · obtain ⟨b, off, rfl, hbb, x0, x1⟩ := (HR wr (HBW.out.trans (HBR.out.mono hs2))).out.pair hlt
      have hd := incF_drop (m := lm) hlt
      generalize cs[k] = q at x0 x1 hd
      obtain ⟨q1, q2⟩ := q
      have k0 : (0 : Int) ≤ (k : Int) := by omega
      have k1 : (k : Int) < (cs.length : Int) := by omega
      by_cases hq : q1 ≤ lm
      · have HIN : Hid (incF 0 cs = false) := Lib.hid (by rw [HI.out, hd, decide_eq_false (by simpa using hq)]; rfl)
        clear hd
        go_wp2_with fail
        go_ret
        exact ⟨ret_int (by rw [HCK.out, if_pos HIN.out]), (HBW.out.trans (HBR.out.mono hs2)).alloc (by omega) _⟩
      · have HIN : Hid (incF 0 cs = incF q1 (cs.drop (k + 1))) := Lib.hid (by rw [HI.out, hd, decide_eq_true (by simp; omega), Bool.true_and])
        clear hd
        go_wp2_with fail
        go_roundw
        case rel =>
          refine ⟨k + 1, q1, q2, hlt, by go_num, HIN, Lib.hid ?_, Lib.hid ?_⟩
          · exact ((HL.out.set (j := 0) (by simp) (.int .i64 q1)).set (j := 1) (by simp) (.int .i64 q2)).alloc _
          · exact ((HBR.out.setCell (p := ⟨w2.heap.size, 0, none⟩) (Nat.le_refl _) _).setCell (p := ⟨w2.heap.size, 1, none⟩) (Nat.le_refl _) _).alloc (by simp [World.setCell]; omega) _
        case measure => simp [intOf]; omega
    · have HIN : Hid (incF 0 cs = true) := Lib.hid (by rw [HI.out, List.drop_of_length_le (by omega)]; rfl)
      go_wp2_with fail
      have HL2 := Lib.hid ((HL.out.set (j := 0) (by simp) (.int .i64 0)).set (j := 1) (by simp) (.int .i64 f))
      have HB2 := Lib.hid ((HBR.out.setCell (p := ⟨w2.heap.size, 0, none⟩) (Nat.le_refl _) (.int .i64 0)).setCell (p := ⟨w2.heap.size, 1, none⟩) (Nat.le_refl _) (.int .i64 f))
      generalize (wr.setCell _ _).setCell _ _ = W4 at HL2 HB2 ⊢
      clear HL HBR l0 l1 f0 f1 ll hs3 c0r c1r ltr HI hlt hk
      go_loopw [7, 47] (fun _ i wr => ∃ (k : Nat) (lm lv : Int), k ≤ cs.length ∧ i = .int .i64 (k : Nat) ∧ Hid (difD f cs = difD lv (cs.drop k)) ∧ Hid (Blk wr w2.heap.size [.int .i64 lm, .int .i64 lv]) ∧ Hid (Below w2.heap.size w2 wr)) (fun _ i _ => cs.length - (intOf i).toNat)
      case atStart => exact ⟨0, 0, f, Nat.zero_le _, rfl, Lib.hid rfl, HL2, HB2⟩
      case round =>
        obtain ⟨k, lm, lv, hk, rfl, HI, HL, HBR⟩ := hrel
        have l0 := HL.out.cells 0 _ rfl
        have l1 := HL.out.cells 1 _ rfl
        have f0 := HL.out.free 0
        have f1 := HL.out.free 1
        have ll := HL.out.lt
        have hs3 := HBR.out.size
        have c0r := HBR.out.at_ lt c0
        have c1r := HBR.out.at_ lt c1
        have ltr : w.heap.size < wr.heap.size := Nat.lt_of_lt_of_le lt hs3
        by_cases hlt : k < cs.length
        · obtain ⟨b, off, rfl, hbb, x0, x1⟩ := (HR wr (HBW.out.trans (HBR.out.mono hs2))).out.pair hlt
          have hd := difD_drop (f := lv) hlt
          generalize cs[k] = q at x0 x1 hd
          obtain ⟨q1, q2⟩ := q
          have k0 : (0 : Int) ≤ (k : Int) := by omega
          have k1 : (k : Int) < (cs.length : Int) := by omega
          by_cases hq : q2 = lv
          · have HDI : Hid (difD f cs = false) := Lib.hid (by rw [HI.out, hd, decide_eq_false (by simpa using hq)]; rfl)
            clear hd
            go_wp2_with fail
            go_ret
            exact ⟨ret_int (by rw [HCK.out, HIN.out, HDI.out]; simp), (HBW.out.trans (HBR.out.mono hs2)).alloc (by omega) _⟩
          · have HDI : Hid (difD f cs = difD q2 (cs.drop (k + 1))) := Lib.hid (by rw [HI.out, hd, decide_eq_true (by simpa using hq), Bool.true_and])
            clear hd
            go_wp2_with fail
            refine ⟨⟨k + 1, q1, q2, hlt, by go_num, HDI, Lib.hid ?_, Lib.hid ?_⟩, by simp [intOf]; omega⟩
            · exact ((HL.out.set (j := 0) (by simp) (.int .i64 q1)).set (j := 1) (by simp) (.int .i64 q2)).alloc _
            · exact ((HBR.out.setCell (p := ⟨w2.heap.size, 0, none⟩) (Nat.le_refl _) _).setCell (p := ⟨w2.heap.size, 1, none⟩) (Nat.le_refl _) _).alloc (by simp [World.setCell]; omega) _
        · have HDI : Hid (difD f cs = true) := Lib.hid (by rw [HI.out, List.drop_of_length_le (by omega)]; rfl)
          go_wp2_with fail
          go_ret
          exact ⟨ret_int (by rw [HCK.out, HIN.out, HDI.out]; simp), HBW.out.trans (HBR.out.mono hs2)⟩
end Go.Proofs.YtcdjoegihmfanaaGreat
namespace Go.Proofs.YtcdjoegihmfanaaGreat
open Go.RowKit
set_option linter.unusedVariables false
/-- A desk with its proofs, in a right book. -/
structure GdI (w : World) (g : Nat) (e0 e1 : Int) (pb off c : Nat) (ps : List Pr) (vt : Value) : Prop where
  bk : Bk w g e0 e1 (.slice (some ⟨pb, off, none⟩) ps.length c) vt
  rp : Rd w w.heap.size (some ⟨pb, off, none⟩) (prs ps)
  h0 : 0 ≤ e0 ∧ e0 ≤ 50
  h1 : 0 ≤ e1 ∧ e1 ≤ 50
  pr : ∀ p ∈ ps, (0 ≤ p.m ∧ p.m ≤ 10000) ∧ (0 ≤ p.k ∧ p.k ≤ 20000) ∧ (-100 ≤ p.r ∧ p.r ≤ 20000) ∧ (p.b = 0 ∨ p.b = 1)
theorem GdI.below {w w' : World} {g : Nat} {e0 e1 : Int} {pb off c : Nat} {ps : List Pr} {vt : Value} (h : GdI w g e0 e1 pb off c ps vt) (hb : Below w.heap.size w w') : GdI w' g e0 e1 pb off c ps vt := ⟨h.bk.below hb, h.rp.next hb, h.h0, h.h1, h.pr⟩
/-- A block, new. -/
def PBlk (B : Nat) (xs : List Value) (v : Value) (w : World) : Prop := ∃ k, v = .pointer (some ⟨k, 0, none⟩) ∧ B ≤ k ∧ Blk w k xs
theorem stbB_blk (B : Nat) (xs : List Value) : StbB (PBlk B xs) := by
  rintro v w w' ⟨k, e, h1, h2⟩ hb
  exact ⟨k, e, h1, h2.below hb⟩
theorem span_at {w : World} {g : Nat} {e0 e1 : Int} {pb off c : Nat} {ps : List Pr} {vt : Value} (h : GdI w g e0 e1 pb off c ps vt) {i : Nat} (hi : i < ps.length) :
    Calls Tryz.prog 115 #[.pointer (some ⟨g, 0, none⟩), .agg #[.int .i64 ps[i].b, .int .i64 ps[i].m, .int .i64 ps[i].k, .int .i64 ps[i].r]] w fun e w' => e = .returned (.agg #[.int .i64 (spI e0 e1 ps i).1, .int .i64 (spI e0 e1 ps i).2]) ∧ Below w.heap.size w w' := by
  have hp := h.pr _ (List.getElem_mem hi)
  have := span_any g e0 e1 _ vt ps[i] w h.bk hp.2.2.2 h.h0 h.h1 hp.2.1 hp.2.2.1
  unfold spI
  rw [pAt_eq hi]
  exact this
theorem spI_bounds {e0 e1 : Int} {ps : List Pr} (h0 : 0 ≤ e0 ∧ e0 ≤ 50) (h1 : 0 ≤ e1 ∧ e1 ≤ 50) (i : Nat) : -50 ≤ (spI e0 e1 ps i).1 ∧ (spI e0 e1 ps i).2 ≤ 50 := by
  unfold spI spanP; simp only; omega
set_option maxRecDepth 100000 in
set_option maxHeartbeats 2000000 in
theorem exclude_any (g : Nat) (e0 e1 : Int) (pb off c : Nat) (ps : List Pr) (vt : Value) (i k : Nat) (W : World) (hG : GdI W g e0 e1 pb off c ps vt) (hi : i < ps.length) (hk : k < ps.length) :
    Calls Tryz.prog 134 #[.pointer (some ⟨g, 0, none⟩), .int .i64 (i : Nat), .int .i64 (k : Nat)] W fun e w' => e = .returned (.bool (decide (min (spI e0 e1 ps i).2 (spI e0 e1 ps k).2 < max (spI e0 e1 ps i).1 (spI e0 e1 ps k).1))) ∧ Below W.heap.size W w' := by
  have HG := Lib.hid hG
  have i0 : (0 : Int) ≤ (i : Int) := by omega
  have i1 : (i : Int) < (ps.length : Int) := by omega
  have k0 : (0 : Int) ≤ (k : Int) := by omega
  have k1 : (k : Int) < (ps.length : Int) := by omega
  clear hG
  go_enter Tryz.func134, Tryz.ntmps134
  go_wp2_with fail
  refine wp_inv 22 (by kernel_rfl) (by kernel_rfl) (by kernel_rfl) (by decide) (FL [PEq (.pointer (some ⟨g, 0, none⟩)), PEq (.pointer (some ⟨g, 0, none⟩)), PEq (.pointer (some ⟨g, 0, none⟩)), PEq (.pointer (some ⟨g, 0, none⟩)), PEq (.pointer (some ⟨g, 2, none⟩)), PEq (.slice (some ⟨pb, off, none⟩) ps.length c), PEq (.int .i64 (i : Nat)), PEq (.pointer (some ⟨pb, off + i * 4, none⟩)), PEq (.agg #[.int .i64 ps[i].b, .int .i64 ps[i].m, .int .i64 ps[i].k, .int .i64 ps[i].r]), PEq (.agg #[.int .i64 (spI e0 e1 ps i).1, .int .i64 (spI e0 e1 ps i).2]), PEq (.pointer (some ⟨g, 0, none⟩)), PEq (.pointer (some ⟨g, 0, none⟩)), PEq (.pointer (some ⟨g, 0, none⟩)), PEq (.pointer (some ⟨g, 0, none⟩)), PEq (.pointer (some ⟨g, 2, none⟩)), PEq (.slice (some ⟨pb, off, none⟩) ps.length c), PEq (.int .i64 (k : Nat)), PEq (.pointer (some ⟨pb, off + k * 4, none⟩)), PEq (.agg #[.int .i64 ps[k].b, .int .i64 ps[k].m, .int .i64 ps[k].k, .int .i64 ps[k].r]), PEq (.agg #[.int .i64 (spI e0 e1 ps k).1, .int .i64 (spI e0 e1 ps k).2]), PEq (.agg #[.int .i64 (max (spI e0 e1 ps i).1 (spI e0 e1 ps k).1), .int .i64 (min (spI e0 e1 ps i).2 (spI e0 e1 ps k).2)]), PBlk W.heap.size [.int .i64 0, .int .i64 0]])
    (fun x => Below W.heap.size W x) (fun x y => Below x.heap.size x y) (FL.keepB (by simp [stbB_blk, stbB_eq])) (below_drew W) ?_ ?_
  · intro iq o hi' ho listed vals a w5 hdep hM hAt K hK
    have HI := Lib.hid hM.inv
    match iq, hi' with
    | 0, _ =>
      injection ho with ho
      subst ho
      obtain ⟨e0, e0'⟩ := hAt.slot 0 (by kernel_rfl) (by rfl)
      go_simp
      exact hK _ w5 (Below.refl _ _) HI.out rfl
    | 1, _ =>
      injection ho with ho
      subst ho
      obtain ⟨e0, e0'⟩ := hAt.slot 0 (by kernel_rfl) (by rfl)
      go_simp
      exact hK _ w5 (Below.refl _ _) HI.out rfl
    | 2, _ =>
      injection ho with ho
      subst ho
      have l1 := hdep ⟨1, .data⟩ (by simp) rfl
      obtain ⟨x1, x1'⟩ := hAt.dep 1 (d := 9) (by omega) l1 (by rfl) (hM.fact 1 (by omega) l1)
      go_simp
      exact hK _ w5 (Below.refl _ _) HI.out rfl
    | 3, _ =>
      injection ho with ho
      subst ho
      have l2 := hdep ⟨2, .data⟩ (by simp) rfl
      obtain ⟨x2, x2'⟩ := hAt.dep 2 (d := 10) (by omega) l2 (by rfl) (hM.fact 2 (by omega) l2)
      go_simp
      exact hK _ w5 (Below.refl _ _) HI.out rfl
    | 4, _ =>
      injection ho with ho
      subst ho
      have l3 := hdep ⟨3, .data⟩ (by simp) rfl
      obtain ⟨x3, x3'⟩ := hAt.dep 3 (d := 11) (by omega) l3 (by rfl) (hM.fact 3 (by omega) l3)
      go_simp
      exact hK _ w5 (Below.refl _ _) HI.out rfl
    | 5, _ =>
      injection ho with ho
      subst ho
      have l4 := hdep ⟨4, .data⟩ (by simp) rfl
      obtain ⟨x4, x4'⟩ := hAt.dep 4 (d := 12) (by omega) l4 (by rfl) (hM.fact 4 (by omega) l4)
      have q0 := (HG.out.below HI.out).bk.c2
      go_simp
      exact hK _ w5 (Below.refl _ _) HI.out rfl
    | 6, _ =>
      injection ho with ho
      subst ho
      obtain ⟨e1, e1'⟩ := hAt.slot 1 (by kernel_rfl) (by rfl)
      go_simp
      exact hK _ w5 (Below.refl _ _) HI.out rfl
    | 7, _ =>
      injection ho with ho
      subst ho
      have l5 := hdep ⟨5, .data⟩ (by simp) rfl
      obtain ⟨x5, x5'⟩ := hAt.dep 5 (d := 13) (by omega) l5 (by rfl) (hM.fact 5 (by omega) l5)
      have l6 := hdep ⟨6, .data⟩ (by simp) rfl
      obtain ⟨x6, x6'⟩ := hAt.dep 6 (d := 14) (by omega) l6 (by rfl) (hM.fact 6 (by omega) l6)
      go_simp
      exact hK _ w5 (Below.refl _ _) HI.out rfl
    | 8, _ =>
      injection ho with ho
      subst ho
      have l7 := hdep ⟨7, .data⟩ (by simp) rfl
      obtain ⟨x7, x7'⟩ := hAt.dep 7 (d := 15) (by omega) l7 (by rfl) (hM.fact 7 (by omega) l7)
      obtain ⟨p0, p1, p2, p3⟩ := (HG.out.below HI.out).rp.proof' hi
      go_simp
      exact hK _ w5 (Below.refl _ _) HI.out rfl
    | 9, _ =>
      injection ho with ho
      subst ho
      have l0 := hdep ⟨0, .data⟩ (by simp) rfl
      obtain ⟨x0, x0'⟩ := hAt.dep 0 (d := 8) (by omega) l0 (by rfl) (hM.fact 0 (by omega) l0)
      have l8 := hdep ⟨8, .data⟩ (by simp) rfl
      obtain ⟨x8, x8'⟩ := hAt.dep 8 (d := 16) (by omega) l8 (by rfl) (hM.fact 8 (by omega) l8)
      go_simp
      refine (span_at (HG.out.below HI.out) hi).mono ?_
      rintro e w6 ⟨rfl, hb6⟩
      exact hK _ w6 hb6 (HI.out.trans (hb6.mono HI.out.size)) rfl
    | 10, _ =>
      injection ho with ho
      subst ho
      obtain ⟨e0, e0'⟩ := hAt.slot 0 (by kernel_rfl) (by rfl)
      go_simp
      exact hK _ w5 (Below.refl _ _) HI.out rfl
    | 11, _ =>
      injection ho with ho
      subst ho
      obtain ⟨e0, e0'⟩ := hAt.slot 0 (by kernel_rfl) (by rfl)
      go_simp
      exact hK _ w5 (Below.refl _ _) HI.out rfl
    | 12, _ =>
      injection ho with ho
      subst ho
      have l11 := hdep ⟨11, .data⟩ (by simp) rfl
      obtain ⟨x11, x11'⟩ := hAt.dep 11 (d := 19) (by omega) l11 (by rfl) (hM.fact 11 (by omega) l11)
      go_simp
      exact hK _ w5 (Below.refl _ _) HI.out rfl
    | 13, _ =>
      injection ho with ho
      subst ho
      have l12 := hdep ⟨12, .data⟩ (by simp) rfl
      obtain ⟨x12, x12'⟩ := hAt.dep 12 (d := 20) (by omega) l12 (by rfl) (hM.fact 12 (by omega) l12)
      go_simp
      exact hK _ w5 (Below.refl _ _) HI.out rfl
    | 14, _ =>
      injection ho with ho
      subst ho
      have l13 := hdep ⟨13, .data⟩ (by simp) rfl
      obtain ⟨x13, x13'⟩ := hAt.dep 13 (d := 21) (by omega) l13 (by rfl) (hM.fact 13 (by omega) l13)
      go_simp
      exact hK _ w5 (Below.refl _ _) HI.out rfl
    | 15, _ =>
      injection ho with ho
      subst ho
      have l14 := hdep ⟨14, .data⟩ (by simp) rfl
      obtain ⟨x14, x14'⟩ := hAt.dep 14 (d := 22) (by omega) l14 (by rfl) (hM.fact 14 (by omega) l14)
      have q0 := (HG.out.below HI.out).bk.c2
      go_simp
      exact hK _ w5 (Below.refl _ _) HI.out rfl
    | 16, _ =>
      injection ho with ho
      subst ho
      obtain ⟨e2, e2'⟩ := hAt.slot 2 (by kernel_rfl) (by rfl)
      go_simp
      exact hK _ w5 (Below.refl _ _) HI.out rfl
    | 17, _ =>
      injection ho with ho
      subst ho
      have l15 := hdep ⟨15, .data⟩ (by simp) rfl
      obtain ⟨x15, x15'⟩ := hAt.dep 15 (d := 23) (by omega) l15 (by rfl) (hM.fact 15 (by omega) l15)
      have l16 := hdep ⟨16, .data⟩ (by simp) rfl
      obtain ⟨x16, x16'⟩ := hAt.dep 16 (d := 24) (by omega) l16 (by rfl) (hM.fact 16 (by omega) l16)
      go_simp
      exact hK _ w5 (Below.refl _ _) HI.out rfl
    | 18, _ =>
      injection ho with ho
      subst ho
      have l17 := hdep ⟨17, .data⟩ (by simp) rfl
      obtain ⟨x17, x17'⟩ := hAt.dep 17 (d := 25) (by omega) l17 (by rfl) (hM.fact 17 (by omega) l17)
      obtain ⟨p0, p1, p2, p3⟩ := (HG.out.below HI.out).rp.proof' hk
      go_simp
      exact hK _ w5 (Below.refl _ _) HI.out rfl
    | 19, _ =>
      injection ho with ho
      subst ho
      have l10 := hdep ⟨10, .data⟩ (by simp) rfl
      obtain ⟨x10, x10'⟩ := hAt.dep 10 (d := 18) (by omega) l10 (by rfl) (hM.fact 10 (by omega) l10)
      have l18 := hdep ⟨18, .data⟩ (by simp) rfl
      obtain ⟨x18, x18'⟩ := hAt.dep 18 (d := 26) (by omega) l18 (by rfl) (hM.fact 18 (by omega) l18)
      go_simp
      refine (span_at (HG.out.below HI.out) hk).mono ?_
      rintro e w6 ⟨rfl, hb6⟩
      exact hK _ w6 hb6 (HI.out.trans (hb6.mono HI.out.size)) rfl
    | 20, _ =>
      injection ho with ho
      subst ho
      have l9 := hdep ⟨9, .data⟩ (by simp) rfl
      obtain ⟨x9, x9'⟩ := hAt.dep 9 (d := 17) (by omega) l9 (by rfl) (hM.fact 9 (by omega) l9)
      have l19 := hdep ⟨19, .data⟩ (by simp) rfl
      obtain ⟨x19, x19'⟩ := hAt.dep 19 (d := 27) (by omega) l19 (by rfl) (hM.fact 19 (by omega) l19)
      go_simp
      refine (meet_any (spI e0 e1 ps i) (spI e0 e1 ps k) w5).mono ?_
      rintro e w6 ⟨rfl, hb6⟩
      exact hK _ w6 hb6 (HI.out.trans (hb6.mono HI.out.size)) rfl
    | 21, _ =>
      injection ho with ho
      subst ho
      go_simp
      exact hK _ _ (below_new _ _) (HI.out.alloc HI.out.size _) ⟨w5.heap.size, rfl, HI.out.size, Blk.new w5 [.int .i64 0, .int .i64 0] _⟩
    | jq + 22, hq => exact absurd hq (by omega)
  · intro vals w5 hM
    have HI := Lib.hid hM.inv
    have f0 : vals 0 = .pointer (some ⟨g, 0, none⟩) := hM.all (by decide) 0 (by omega)
    have f1 : vals 1 = .pointer (some ⟨g, 0, none⟩) := hM.all (by decide) 1 (by omega)
    have f2 : vals 2 = .pointer (some ⟨g, 0, none⟩) := hM.all (by decide) 2 (by omega)
    have f3 : vals 3 = .pointer (some ⟨g, 0, none⟩) := hM.all (by decide) 3 (by omega)
    have f4 : vals 4 = .pointer (some ⟨g, 2, none⟩) := hM.all (by decide) 4 (by omega)
    have f5 : vals 5 = .slice (some ⟨pb, off, none⟩) ps.length c := hM.all (by decide) 5 (by omega)
    have f6 : vals 6 = .int .i64 (i : Nat) := hM.all (by decide) 6 (by omega)
    have f7 : vals 7 = .pointer (some ⟨pb, off + i * 4, none⟩) := hM.all (by decide) 7 (by omega)
    have f8 : vals 8 = .agg #[.int .i64 ps[i].b, .int .i64 ps[i].m, .int .i64 ps[i].k, .int .i64 ps[i].r] := hM.all (by decide) 8 (by omega)
    have f9 : vals 9 = .agg #[.int .i64 (spI e0 e1 ps i).1, .int .i64 (spI e0 e1 ps i).2] := hM.all (by decide) 9 (by omega)
    have f10 : vals 10 = .pointer (some ⟨g, 0, none⟩) := hM.all (by decide) 10 (by omega)
    have f11 : vals 11 = .pointer (some ⟨g, 0, none⟩) := hM.all (by decide) 11 (by omega)
    have f12 : vals 12 = .pointer (some ⟨g, 0, none⟩) := hM.all (by decide) 12 (by omega)
    have f13 : vals 13 = .pointer (some ⟨g, 0, none⟩) := hM.all (by decide) 13 (by omega)
    have f14 : vals 14 = .pointer (some ⟨g, 2, none⟩) := hM.all (by decide) 14 (by omega)
    have f15 : vals 15 = .slice (some ⟨pb, off, none⟩) ps.length c := hM.all (by decide) 15 (by omega)
    have f16 : vals 16 = .int .i64 (k : Nat) := hM.all (by decide) 16 (by omega)
    have f17 : vals 17 = .pointer (some ⟨pb, off + k * 4, none⟩) := hM.all (by decide) 17 (by omega)
    have f18 : vals 18 = .agg #[.int .i64 ps[k].b, .int .i64 ps[k].m, .int .i64 ps[k].k, .int .i64 ps[k].r] := hM.all (by decide) 18 (by omega)
    have f19 : vals 19 = .agg #[.int .i64 (spI e0 e1 ps k).1, .int .i64 (spI e0 e1 ps k).2] := hM.all (by decide) 19 (by omega)
    have f20 : vals 20 = .agg #[.int .i64 (max (spI e0 e1 ps i).1 (spI e0 e1 ps k).1), .int .i64 (min (spI e0 e1 ps i).2 (spI e0 e1 ps k).2)] := hM.all (by decide) 20 (by omega)
    obtain ⟨k21, f21, g21, h21⟩ := hM.all (by decide) 21 (by omega)
    clear hM
    simp only [putAll, List.range, List.range.loop, List.foldl_cons, List.foldl_nil, f0, f1, f2, f3, f4, f5, f6, f7, f8, f9, f10, f11, f12, f13, f14, f15, f16, f17, f18, f19, f20, f21]
    clear f0 f1 f2 f3 f4 f5 f6 f7 f8 f9 f10 f11 f12 f13 f14 f15 f16 f17 f18 f19 f20 f21
    change wpAny _ _ _ _ _ _ (Act.put (Act.put (Act.put (Act.put (Act.put (Act.put (Act.put (Act.put (Act.put (Act.put (Act.put (Act.put (Act.put (Act.put (Act.put (Act.put (Act.put (Act.put (Act.put (Act.put (Act.put (Act.put _ (some 8) _) (some 9) _) (some 10) _) (some 11) _) (some 12) _) (some 13) _) (some 14) _) (some 15) _) (some 16) _) (some 17) _) (some 18) _) (some 19) _) (some 20) _) (some 21) _) (some 22) _) (some 23) _) (some 24) _) (some 25) _) (some 26) _) (some 27) _) (some 28) _) (some 7) _) _
    simp only [Act.put, List.setIfInBounds_toArray, List.set_cons_zero, List.set_cons_succ]
    refine tail_step 22 _ (by kernel_rfl) rfl rfl (fun K' hK => ?_)
    have q0 := h21.cells 0 _ rfl
    have q1 := h21.cells 1 _ rfl
    have q2 := h21.free 0
    have q3 := h21.free 1
    have q4 := h21.lt
    go_simp
    refine hK _ _ ?_
    clear hK K'
    refine wpAny_done (by kernel_rfl) ?_ _
    have B4 := (h21.set (j := 0) (by decide) (.int .i64 (max (spI e0 e1 ps i).1 (spI e0 e1 ps k).1))).set (j := 1) (by simp) (.int .i64 (min (spI e0 e1 ps i).2 (spI e0 e1 ps k).2))
    have bl : Below W.heap.size W _ := (HI.out.setCell (p := ⟨k21, 0, none⟩) g21 (.int .i64 (max (spI e0 e1 ps i).1 (spI e0 e1 ps k).1))).setCell (p := ⟨k21, 1, none⟩) g21 (.int .i64 (min (spI e0 e1 ps i).2 (spI e0 e1 ps k).2))
    generalize (w5.setCell _ _).setCell _ _ = W9 at B4 bl ⊢
    have r0 := B4.cells 0 _ rfl
    have r1 := B4.cells 1 _ rfl
    go_wp2_with fail
    go_ret
    exact ⟨rfl, bl⟩
end Go.Proofs.YtcdjoegihmfanaaGreat
namespace Go.Proofs.YtcdjoegihmfanaaGreat
open Go.RowKit Go.Shelf
set_option linter.unusedVariables false
set_option maxHeartbeats 1000000 in
theorem predWritten (t : List Tr) (w : World) : Decides 123 #[] trV trRng t w := by
  intro W x hx hB
  clear hx hB
  unfold trV
  show Calls Tryz.prog 123 #[_] W fun e w' => e = .returned (.bool (trRng x)) ∧ Below W.heap.size W w'
  have H := fun (W1 : World) k (hr : Rd W1 W1.heap.size (some ⟨k, 0, none⟩) (trips [(x.ib, x.im, x.ir), (x.ob, x.om, x.or)])) => Lib.hid (everySlip_any (some ⟨k, 0, none⟩) 2 [(x.ib, x.im, x.ir), (x.ob, x.om, x.or)] 176 #[] (enters_of Tryz.func176 (by kernel_rfl) rfl) slOk W1 hr (by simp) (predSlip _ _))
  have he : [(x.ib, x.im, x.ir), (x.ob, x.om, x.or)].all slOk = (slOk (x.ib, x.im, x.ir) && slOk (x.ob, x.om, x.or)) := by simp
  rw [he] at H
  have hR : trRng x = ((slOk (x.ib, x.im, x.ir) && slOk (x.ob, x.om, x.or)) && inB x.mud 0 200) := rfl
  have HR := Lib.hid hR
  clear he hR
  generalize (slOk (x.ib, x.im, x.ir) && slOk (x.ob, x.om, x.or)) = r at H HR
  go_enter Tryz.func123, Tryz.ntmps123
  go_wp2_with fail
  refine (H _ _ ?_).out.mono ?_
  · exact Rd.new _ (trips [(x.ib, x.im, x.ir), (x.ob, x.om, x.or)]) _ (by simp)
  · rintro e w1 ⟨rfl, hb1⟩
    have bl : Below W.heap.size W w1 := Below.trans (((Below.refl _ _).alloc (Nat.le_refl _) _).alloc (by simp) _) (hb1.mono (by simp; omega))
    have c6 := hb1.at_ (b := W.heap.size) (i := 6) (by simp; omega) (v := .int .i64 x.mud) (by simp)
    have c7 := Nat.lt_of_lt_of_le (show W.heap.size < _ from by simp; omega) hb1.size
    clear hb1
    cases r
    · go_wp2_with fail
      go_ret
      exact ⟨ret_bool (by rw [HR.out]; simp), bl⟩
    · go_wp2_with fail
      refine (in_any _ _ _ _).mono ?_
      rintro e w2 ⟨rfl, rfl⟩
      go_wp2_with fail
      go_ret
      exact ⟨ret_bool (by rw [HR.out]; simp), bl⟩
def twiceUpto (ps : List Pr) (k : Nat) : Bool := (List.range k).any fun i => (ps.take i).any (samePr (pAt ps i))
/-- The error of a book. -/
def ckBook (e0 e1 : Int) (ps : List Pr) (ts : List Tr) : Int :=
  if 10 < ps.length ∨ 4 < ts.length then 3
  else if [e0, e1].all errOk = false then 4
  else if ps.all prRng = false then 4
  else if ts.all trRng = false then 4
  else if ps.all prBr = false ∨ ts.all trBr = false then 2
  else if twiceUpto ps ps.length = true then 5
  else if ts.all trOrd = false then 6
  else 0
theorem twice_succ (ps : List Pr) (k : Nat) : twiceUpto ps (k + 1) = (twiceUpto ps k || (ps.take k).any (samePr (pAt ps k))) := by
  unfold twiceUpto; rw [List.range_succ, List.any_append]; simp
theorem twice_mono {ps : List Pr} {i k : Nat} (h : i ≤ k) (ht : twiceUpto ps i = true) : twiceUpto ps k = true := by
  unfold twiceUpto at *
  rw [List.any_eq_true] at ht ⊢
  obtain ⟨x, hx, h2⟩ := ht
  exact ⟨x, by simp at hx ⊢; omega, h2⟩
theorem Rd.pre {w : World} {B : Nat} {A : Option Addr} {xs ys : List Value} (h : Rd w B A (xs ++ ys)) : Rd w B A xs := fun hn => by
  obtain ⟨b, off, e, hb, hc⟩ := h (by simp [hn])
  exact ⟨b, off, e, hb, fun j u hu => hc j u (by rw [List.getElem?_append_left (List.getElem?_eq_some_iff.1 hu).1]; exact hu)⟩
theorem Rd.takeP {w : World} {B : Nat} {A : Option Addr} {ps : List Pr} (h : Rd w B A (prs ps)) (k : Nat) : Rd w B A (prs (ps.take k)) := by
  have e : prs ps = prs (ps.take k) ++ prs (ps.drop k) := by unfold prs; rw [← rowsOf_append, List.take_append_drop]
  rw [e] at h
  exact h.pre
def bkV (e0 e1 : Int) (vp vt : Value) : Value := .agg #[.int .i64 e0, .int .i64 e1, vp, vt]
set_option maxRecDepth 100000 in
set_option maxHeartbeats 4000000 in
theorem Check_any (e0 e1 : Int) (A B : Option Addr) (c d : Nat) (ps : List Pr) (ts : List Tr) (w : World) (hA : Rd w w.heap.size A (prs ps)) (hB : Rd w w.heap.size B (trs ts)) (hcap : ps.length ≤ c) (hl : ps.length ≤ 1000) (hl2 : ts.length ≤ 1000) :
    Calls Tryz.prog 49 #[bkV e0 e1 (.slice A ps.length c) (.slice B ts.length d)] w fun e w' => e = .returned (.int .i64 (ckBook e0 e1 ps ts)) ∧ Below w.heap.size w w' := by
  have eg := fun (n : Nat) (h : Enters n) => h
  have HE := fun (W : World) (hr : Rd W W.heap.size (some ⟨w.heap.size, 0, none⟩) (ints [e0, e1])) => Lib.hid (everyInt_any (some ⟨w.heap.size, 0, none⟩) 2 [e0, e1] 119 #[] (enters_of Tryz.func119 (by kernel_rfl) rfl) errOk W hr (by simp) (predErr _ _))
  have HP := fun (W : World) (hb : Below w.heap.size w W) => Lib.hid (everyProof_any A c ps 121 #[] (enters_of Tryz.func121 (by kernel_rfl) rfl) prRng W (hA.next hb) hl (predRng _ _))
  have HT := fun (W : World) (hb : Below w.heap.size w W) => Lib.hid (everyTrip_any B d ts 123 #[] (enters_of Tryz.func123 (by kernel_rfl) rfl) trRng W (hB.next hb) hl2 (predWritten _ _))
  have HPB := fun (W : World) (hb : Below w.heap.size w W) => Lib.hid (everyProof_any A c ps 124 #[] (enters_of Tryz.func124 (by kernel_rfl) rfl) prBr W (hA.next hb) hl (predBr _ _))
  have HTB := fun (W : World) (hb : Below w.heap.size w W) => Lib.hid (everyTrip_any B d ts 126 #[] (enters_of Tryz.func126 (by kernel_rfl) rfl) trBr W (hB.next hb) hl2 (predTrBr _ _))
  have HO := fun (W : World) (hb : Below w.heap.size w W) => Lib.hid (everyTrip_any B d ts 128 #[] (enters_of Tryz.func128 (by kernel_rfl) rfl) trOrd W (hB.next hb) hl2 (predOrd _ _))
  clear eg
  have hf : ckBook e0 e1 ps ts = ckBook e0 e1 ps ts := rfl
  have HF := Lib.hid hf
  clear hf
  unfold bkV
  by_cases h0 : 10 < ps.length ∨ 4 < ts.length
  · have e : ckBook e0 e1 ps ts = 3 := by unfold ckBook; rw [if_pos h0]
    rw [e]
    clear HF e
    by_cases h1 : (10 : Int) < ps.length
    · go_enter Tryz.func49, Tryz.ntmps49
      go_wp2_with fail
      go_ret
      exact ⟨rfl, by go_grown⟩
    · have h2 : (4 : Int) < ts.length := by omega
      go_enter Tryz.func49, Tryz.ntmps49
      go_wp2_with fail
      go_ret
      exact ⟨rfl, by go_grown⟩
  · have h1 : ¬ (10 : Int) < ps.length := by omega
    have h2 : ¬ (4 : Int) < ts.length := by omega
    have hf : ckBook e0 e1 ps ts = if [e0, e1].all errOk = false then 4 else if ps.all prRng = false then 4 else if ts.all trRng = false then 4 else if ps.all prBr = false ∨ ts.all trBr = false then 2 else if twiceUpto ps ps.length = true then 5 else if ts.all trOrd = false then 6 else 0 := by unfold ckBook; rw [if_neg h0]
    clear HF h0
    generalize ckBook e0 e1 ps ts = R at hf ⊢
    generalize [e0, e1].all errOk = r1 at hf HE
    generalize ps.all prRng = r2 at hf HP
    generalize ts.all trRng = r3 at hf HT
    generalize ps.all prBr = r4 at hf HPB
    generalize ts.all trBr = r5 at hf HTB
    generalize ts.all trOrd = r6 at hf HO
    have HF := Lib.hid hf
    clear hf
    go_enter Tryz.func49, Tryz.ntmps49
    go_wp2_with fail
    have b0 := below_new w (.cells #[.int .i64 e0, .int .i64 e1, .slice A ps.length c, .slice B ts.length d] 26)
    have B0 := Blk.new w [.int .i64 e0, .int .i64 e1, .slice A ps.length c, .slice B ts.length d] 26
    generalize w.alloc (.cells #[.int .i64 e0, .int .i64 e1, .slice A ps.length c, .slice B ts.length d] 26) = W0 at *
    have K0 : Bk W0 w.heap.size e0 e1 (.slice A ps.length c) (.slice B ts.length d) := ⟨B0.lt, B0.cells 0 _ rfl, B0.cells 1 _ rfl, B0.cells 2 _ rfl, B0.cells 3 _ rfl⟩
    refine (HE _ (fun _ => ⟨w.heap.size, 0, rfl, B0.lt, fun j u hu => ?_⟩)).out.mono ?_
    · match j, hu with
      | 0, hu => simp [ints] at hu; subst hu; exact B0.cells 0 _ rfl
      | 1, hu => simp [ints] at hu; subst hu; exact B0.cells 1 _ rfl
      | j + 2, hu => simp [ints] at hu
    clear B0
    rintro e w1 ⟨rfl, hb1⟩
    have b1 : Below w.heap.size w w1 := b0.trans (hb1.mono b0.size)
    have K1 := K0.below hb1
    have x1l := K1.lt
    have x12 := K1.c2
    have x13 := K1.c3
    clear hb1
    cases r1
    · go_wp2_with fail
      go_ret
      exact ⟨ret_int (by rw [HF.out]; simp), b1⟩
    · go_wp2_with fail
      refine (HP _ b1).out.mono ?_
      rintro e w2 ⟨rfl, hb2⟩
      have b2 : Below w.heap.size w w2 := b1.trans (hb2.mono b1.size)
      have K2 := K1.below hb2
      have x2l := K2.lt
      have x22 := K2.c2
      have x23 := K2.c3
      clear hb2
      cases r2
      · go_wp2_with fail
        go_ret
        exact ⟨ret_int (by rw [HF.out]; simp), b2⟩
      · go_wp2_with fail
        refine (HT _ b2).out.mono ?_
        rintro e w3 ⟨rfl, hb3⟩
        have b3 : Below w.heap.size w w3 := b2.trans (hb3.mono b2.size)
        have K3 := K2.below hb3
        have x3l := K3.lt
        have x32 := K3.c2
        have x33 := K3.c3
        clear hb3
        cases r3
        · go_wp2_with fail
          go_ret
          exact ⟨ret_int (by rw [HF.out]; simp), b3⟩
        · go_wp2_with fail
          refine (HPB _ b3).out.mono ?_
          rintro e w4 ⟨rfl, hb4⟩
          have b4 : Below w.heap.size w w4 := b3.trans (hb4.mono b3.size)
          have K4 := K3.below hb4
          have x4l := K4.lt
          have x42 := K4.c2
          have x43 := K4.c3
          clear hb4
          cases r4
          · go_wp2_with fail
            go_ret
            exact ⟨ret_int (by rw [HF.out]; simp), b4⟩
          · go_wp2_with fail
            refine (HTB _ b4).out.mono ?_
            rintro e w5 ⟨rfl, hb5⟩
            have b5 : Below w.heap.size w w5 := b4.trans (hb5.mono b4.size)
            have K5 := K4.below hb5
            have x5l := K5.lt
            have x52 := K5.c2
            have x53 := K5.c3
            clear hb5
            cases r5
            · go_wp2_with fail
              go_ret
              exact ⟨ret_int (by rw [HF.out]; simp), b5⟩
            · clear HE HP HT HPB HTB x1l x12 x13 x2l x22 x23 x3l x32 x33 x4l x42 x43 K0 K1 K2 K3 K4 b0 b1 b2 b3 b4
              go_wp2_with fail
              have b5l := b5.size
              go_loopw [3, 4, 45] (fun _ _ i wr => ∃ k : Nat, k ≤ ps.length ∧ i = .int .i64 k ∧ Hid (twiceUpto ps k = false) ∧ Below w5.heap.size w5 wr) (fun _ _ i _ => ps.length - (intOf i).toNat)
              case atStart => exact ⟨0, Nat.zero_le _, rfl, (show Hid _ from rfl), Below.refl _ _⟩
              case round =>
                obtain ⟨k, hk, rfl, HN, hbr⟩ := hrel
                have br : Below w.heap.size w wr := b5.trans (hbr.mono b5.size)
                have Kr := K5.below hbr
                have xrl := Kr.lt
                have xr2 := Kr.c2
                have xr3 := Kr.c3
                by_cases hlt : k < ps.length
                · obtain ⟨bp, off, rfl, hbp, hc1, hc2, hc3, hc4⟩ := (hA.next br).proof hlt
                  have hTS := twice_succ ps k
                  have hpk : pAt ps k = ps[k] := pAt_eq hlt
                  rw [hpk, HN.out, Bool.false_or] at hTS
                  have BP := Blk.new wr [.int .i64 ps[k].b, .int .i64 ps[k].m, .int .i64 ps[k].k, .int .i64 ps[k].r] 57
                  have bpn := below_new wr (.cells #[.int .i64 ps[k].b, .int .i64 ps[k].m, .int .i64 ps[k].k, .int .i64 ps[k].r] 57)
                  have HC := containsProof_any (some ⟨bp, off, none⟩) c (ps.take k) 127 #[.pointer (some ⟨wr.heap.size, 0, none⟩)] (enters_of Tryz.func127 (by kernel_rfl) rfl) (samePr ps[k]) (wr.alloc (.cells #[.int .i64 ps[k].b, .int .i64 ps[k].m, .int .i64 ps[k].k, .int .i64 ps[k].r] 57)) (Rd.takeP (hA.next (br.trans (bpn.mono br.size))) k) (by rw [List.length_take]; omega) (predTwice ps[k] wr.heap.size _ _ BP)
                  rw [List.length_take, Nat.min_eq_left (by omega)] at HC
                  generalize (ps.take k).any (samePr ps[k]) = q at hTS HC
                  have HTS := Lib.hid hTS
                  have HCC := Lib.hid HC
                  have hkc : (k : Int) ≤ c := by omega
                  have hk0 : (0 : Int) ≤ (k : Int) := by omega
                  clear hTS HC hpk BP HN
                  cases q
                  · go_wp2_with fail
                    refine HCC.out.mono ?_
                    rintro e w6 ⟨rfl, hb6⟩
                    have br6 : Below w5.heap.size w5 w6 := (hbr.trans (bpn.mono hbr.size)).trans (hb6.mono (Nat.le_trans hbr.size bpn.size))
                    clear hb6
                    go_wp2_with fail
                    go_roundw
                    case rel => exact ⟨k + 1, by omega, by go_num, HTS, br6⟩
                    case measure => simp [intOf]; omega
                  · have ht : twiceUpto ps ps.length = true := twice_mono (by omega) HTS.out
                    have HT2 := Lib.hid ht
                    clear ht
                    go_wp2_with fail
                    refine HCC.out.mono ?_
                    rintro e w6 ⟨rfl, hb6⟩
                    have br6 : Below w.heap.size w w6 := (br.trans (bpn.mono br.size)).trans (hb6.mono (Nat.le_trans br.size bpn.size))
                    clear hb6
                    go_wp2_with fail
                    go_ret
                    exact ⟨ret_int (by rw [HF.out, HT2.out]; simp), br6⟩
                · have hkk : k = ps.length := by omega
                  subst hkk
                  go_wp2_with fail
                  refine (HO _ br).out.mono ?_
                  rintro e w6 ⟨rfl, hb6⟩
                  have b6 : Below w.heap.size w w6 := br.trans (hb6.mono br.size)
                  clear hb6
                  cases r6
                  · go_wp2_with fail
                    go_ret
                    exact ⟨ret_int (by rw [HF.out, HN.out]; simp), b6⟩
                  · go_wp2_with fail
                    go_ret
                    exact ⟨ret_int (by rw [HF.out, HN.out]; simp), b6⟩
end Go.Proofs.YtcdjoegihmfanaaGreat
namespace Go.Proofs.YtcdjoegihmfanaaGreat
open Go.RowKit Go.Shelf
set_option linter.unusedVariables false
/-- What is told of a book: its proofs and its trips. -/
structure BA (w : World) (A B : Option Addr) (c d : Nat) (ps : List Pr) (ts : List Tr) : Prop where
  ra : Rd w w.heap.size A (prs ps)
  rb : Rd w w.heap.size B (trs ts)
  ca : ps.length ≤ c
  cb : ts.length ≤ d
  la : ps.length ≤ 1000
  lb : ts.length ≤ 1000
theorem BA.next {w w' : World} {A B : Option Addr} {c d : Nat} {ps : List Pr} {ts : List Tr} (h : BA w A B c d ps ts) (hb : Below w.heap.size w w') : BA w' A B c d ps ts := ⟨h.ra.next hb, h.rb.next hb, h.ca, h.cb, h.la, h.lb⟩
theorem BA.alloc {w : World} {A B : Option Addr} {c d : Nat} {ps : List Pr} {ts : List Tr} (h : BA w A B c d ps ts) (o : Obj) : BA (w.alloc o) A B c d ps ts := h.next (below_new w o)
theorem BA.drewN {w : World} {A B : Option Addr} {c d : Nat} {ps : List Pr} {ts : List Tr} (h : BA w A B c d ps ts) (n : Nat) : BA (w.drewN n) A B c d ps ts := h.next (below_drewN (Below.refl _ _) n)
/-- A desk that is opened, or an error. -/
def OpenedB (e0 e1 : Int) (vp vt : Value) (W : World) (code : Int) (e : Ending) (w' : World) : Prop :=
  (code = 0 ∧ ∃ g, e = .returned (.tuple #[.pointer (some ⟨g, 0, none⟩), .int .i64 0]) ∧ W.heap.size ≤ g ∧ Bk w' g e0 e1 vp vt ∧ Below W.heap.size W w') ∨
  (code ≠ 0 ∧ e = .returned (.tuple #[.pointer none, .int .i64 code]) ∧ Below W.heap.size W w')
set_option maxHeartbeats 1000000 in
theorem opened_any (e0 e1 : Int) (A B : Option Addr) (c d : Nat) (ps : List Pr) (ts : List Tr) (w : World) (hA : BA w A B c d ps ts) :
    Calls Tryz.prog 129 #[bkV e0 e1 (.slice A ps.length c) (.slice B ts.length d)] w (OpenedB e0 e1 (.slice A ps.length c) (.slice B ts.length d) w (ckBook e0 e1 ps ts)) := by
  have HC := fun w1 (hb : Below w.heap.size w w1) => Lib.hid (Check_any e0 e1 A B c d ps ts w1 (hA.ra.next hb) (hA.rb.next hb) hA.ca hA.la hA.lb)
  clear hA
  unfold bkV at HC ⊢
  generalize ckBook e0 e1 ps ts = R at HC ⊢
  by_cases h0 : R = 0
  · subst h0
    go_enter Tryz.func129, Tryz.ntmps129
    go_wp2_with fail
    refine (HC _ (by go_grown)).out.mono ?_
    rintro e w1 ⟨rfl, hb1⟩
    have B0 := (Blk.new w [.int .i64 e0, .int .i64 e1, .slice A ps.length c, .slice B ts.length d] 26).below hb1
    have hbw : Below w.heap.size w w1 := (below_new _ _).trans (hb1.mono (by simp))
    have c0 := B0.cells 0 _ rfl
    have c1 := B0.cells 1 _ rfl
    have c2 := B0.cells 2 _ rfl
    have c3 := B0.cells 3 _ rfl
    have cl := B0.lt
    clear HC B0 hb1
    go_wp2_with fail
    go_ret2
    have B1 := Blk.new w1 [.int .i64 e0, .int .i64 e1, .slice A ps.length c, .slice B ts.length d] 231
    exact .inl ⟨rfl, w1.heap.size, rfl, hbw.size, ⟨B1.lt, B1.cells 0 _ rfl, B1.cells 1 _ rfl, B1.cells 2 _ rfl, B1.cells 3 _ rfl⟩, by exact hbw.alloc hbw.size _⟩
  · have h0' : (R == 0) = false := by simpa using h0
    have h0'' : (R != 0) = true := by simpa using h0
    have H0 := Lib.hid h0
    clear h0
    go_enter Tryz.func129, Tryz.ntmps129
    go_wp2_with fail
    refine (HC _ (by go_grown)).out.mono ?_
    rintro e w1 ⟨rfl, hb1⟩
    have hbw : Below w.heap.size w w1 := (below_new _ _).trans (hb1.mono (by simp))
    go_wp2_with fail
    go_ret2
    exact .inr ⟨H0.out, rfl, hbw⟩
def askCode (ck n ch : Int) : Int := if ck ≠ 0 then ck else if inB n 0 1 = false then 2 else if inB ch 0 4 = false then 4 else 0
set_option maxHeartbeats 1000000 in
theorem asked_any (e0 e1 : Int) (A B : Option Addr) (c d : Nat) (ps : List Pr) (ts : List Tr) (n ch : Int) (w : World) (hA : BA w A B c d ps ts) :
    Calls Tryz.prog 87 #[bkV e0 e1 (.slice A ps.length c) (.slice B ts.length d), .int .i64 n, .int .i64 ch] w (OpenedB e0 e1 (.slice A ps.length c) (.slice B ts.length d) w (askCode (ckBook e0 e1 ps ts) n ch)) := by
  have HC := fun w1 (hb : Below w.heap.size w w1) => Lib.hid (opened_any e0 e1 A B c d ps ts w1 (hA.next hb))
  clear hA
  unfold bkV at HC ⊢
  generalize ckBook e0 e1 ps ts = R at HC ⊢
  go_enter Tryz.func87, Tryz.ntmps87
  go_wp2_with fail
  refine (HC _ (by go_grown)).out.mono ?_
  rintro e w1 (⟨rfl, g, rfl, hg, hk, hb1⟩ | ⟨h0, rfl, hb1⟩)
  · have hbw : Below w.heap.size w w1 := (below_new _ _).trans (hb1.mono (by simp))
    have hgw : w.heap.size ≤ g := by simp at hg; omega
    have HK := Lib.hid hk
    clear HC hk hb1 hg
    go_wp2_with fail
    refine (bridge_any _ _).mono ?_
    rintro e w2 ⟨rfl, rfl⟩
    cases h1 : inB n 0 1
    · have H1 := Lib.hid h1
      clear h1
      go_wp2_with fail
      go_ret2
      exact .inr ⟨by unfold askCode; rw [H1.out]; simp, by unfold askCode; rw [H1.out]; simp, hbw⟩
    · have H1 := Lib.hid h1
      clear h1
      go_wp2_with fail
      refine (in_any _ _ _ _).mono ?_
      rintro e w2 ⟨rfl, rfl⟩
      cases h2 : inB ch 0 4
      · have H2 := Lib.hid h2
        clear h2
        go_wp2_with fail
        go_ret2
        exact .inr ⟨by unfold askCode; rw [H1.out, H2.out]; simp, by unfold askCode; rw [H1.out, H2.out]; simp, hbw⟩
      · have H2 := Lib.hid h2
        clear h2
        go_wp2_with fail
        go_ret2
        exact .inl ⟨by unfold askCode; rw [H1.out, H2.out]; simp, g, rfl, hgw, HK.out, hbw⟩
  · have hbw : Below w.heap.size w w1 := (below_new _ _).trans (hb1.mono (by simp))
    have h0' : (R == 0) = false := by simpa using h0
    have h0'' : (R != 0) = true := by simpa using h0
    have H0 := Lib.hid h0
    clear HC h0 hb1
    go_wp2_with fail
    go_ret2
    have ha : askCode R n ch = R := by unfold askCode; rw [if_pos H0.out]
    rw [ha]
    exact .inr ⟨H0.out, rfl, hbw⟩
end Go.Proofs.YtcdjoegihmfanaaGreat
namespace Go.Proofs.YtcdjoegihmfanaaGreat
open Go.RowKit
set_option linter.unusedVariables false
theorem infoProof : (Tryz.prog.info? 57).map (fun i => (i.zero, i.size, i.bytes)) = some (some (.agg #[.int .i64 0, .int .i64 0, .int .i64 0, .int .i64 0]), 4, 32) := by kernel_rfl
set_option maxHeartbeats 400000 in
theorem copyProof_any (A : Option Addr) (c : Nat) (t : List (Pr)) (w : World) (hr : Rd w w.heap.size A (prs t)) (hl : t.length ≤ 100000) :
    Calls Tryz.prog 85 #[.slice A t.length c] w (RetOwn 57 4 t.length (prs t) w) := by
  by_cases h0 : t.length = 0
  · have ht : t = [] := List.eq_nil_of_length_eq_zero h0
    subst ht
    go_enter Tryz.func85, Tryz.ntmps85
    go_wp2_with fail
    go_ret
    exact ⟨_, rfl, World.ownsRow_nil _ _ _ _, Below.refl _ _⟩
  · obtain ⟨b, off, rfl, hbb⟩ := hr.addr (k := 0) (by rw [prs_length]; omega)
    have hz : ((t.length : Int) == 0) = false := by rw [beq_eq_false_iff_ne]; omega
    have hne : Hid (0 < t.length) := by show 0 < t.length; omega
    clear h0
    obtain ⟨i0, hi, hz0, hz1, hz2⟩ := info_parts infoProof
    have HN := Lib.hid (hr.alloc (.cells #[] 57)).news
    have HO := Lib.hid (World.ownsRow_made (base := w.heap.size) (e := 57) (size := 4) w #[] 0 (Nat.le_refl _) (by simp [maxLen]) (by simp))
    go_enter Tryz.func85, Tryz.ntmps85
    go_wp2_with (at_builtin; refine wpList_append_own_at _ rfl _ _ 23 rfl w.heap.size 57 i0 _ 4 32 Tryz.underlying23 hi hz0 hz1 hz2 rfl (by decide) _ _ _ rfl HO.out _ t.length c (prs t) rfl (by rw [prs_length]) HN.out (prs_one t) (by simp only [maxLen]; omega) (by omega) (by simp) ?_; intro v1 w1 hown1 hgrow1 _ hat1)
    go_ret
    exact ⟨v1, rfl, by simpa using hown1, (below_new w _).grown hgrow1 (by simp) (fun k hk => by have hk' : some w.heap.size = some k := hk; injection hk' with hk'; omega)⟩
theorem infoTrip : (Tryz.prog.info? 120).map (fun i => (i.zero, i.size, i.bytes)) = some (some (.agg #[.int .i64 0, .int .i64 0, .int .i64 0, .int .i64 0, .int .i64 0, .int .i64 0, .int .i64 0]), 7, 56) := by kernel_rfl
set_option maxHeartbeats 400000 in
theorem copyTrip_any (A : Option Addr) (c : Nat) (t : List (Tr)) (w : World) (hr : Rd w w.heap.size A (trs t)) (hl : t.length ≤ 100000) :
    Calls Tryz.prog 86 #[.slice A t.length c] w (RetOwn 120 7 t.length (trs t) w) := by
  by_cases h0 : t.length = 0
  · have ht : t = [] := List.eq_nil_of_length_eq_zero h0
    subst ht
    go_enter Tryz.func86, Tryz.ntmps86
    go_wp2_with fail
    go_ret
    exact ⟨_, rfl, World.ownsRow_nil _ _ _ _, Below.refl _ _⟩
  · obtain ⟨b, off, rfl, hbb⟩ := hr.addr (k := 0) (by rw [trs_length]; omega)
    have hz : ((t.length : Int) == 0) = false := by rw [beq_eq_false_iff_ne]; omega
    have hne : Hid (0 < t.length) := by show 0 < t.length; omega
    clear h0
    obtain ⟨i0, hi, hz0, hz1, hz2⟩ := info_parts infoTrip
    have HN := Lib.hid (hr.alloc (.cells #[] 120)).news
    have HO := Lib.hid (World.ownsRow_made (base := w.heap.size) (e := 120) (size := 7) w #[] 0 (Nat.le_refl _) (by simp [maxLen]) (by simp))
    go_enter Tryz.func86, Tryz.ntmps86
    go_wp2_with (at_builtin; refine wpList_append_own_at _ rfl _ _ 24 rfl w.heap.size 120 i0 _ 7 56 Tryz.underlying24 hi hz0 hz1 hz2 rfl (by decide) _ _ _ rfl HO.out _ t.length c (trs t) rfl (by rw [trs_length]) HN.out (trs_one t) (by simp only [maxLen]; omega) (by omega) (by simp) ?_; intro v1 w1 hown1 hgrow1 _ hat1)
    go_ret
    exact ⟨v1, rfl, by simpa using hown1, (below_new w _).grown hgrow1 (by simp) (fun k hk => by have hk' : some w.heap.size = some k := hk; injection hk' with hk'; omega)⟩
theorem infoChange : (Tryz.prog.info? 82).map (fun i => (i.zero, i.size, i.bytes)) = some (some (.agg #[.int .i64 0, .int .i64 0]), 2, 16) := by kernel_rfl
set_option maxHeartbeats 400000 in
theorem copyChange_any (A : Option Addr) (c : Nat) (t : List (Int × Int)) (w : World) (hr : Rd w w.heap.size A (pairs t)) (hl : t.length ≤ 100000) :
    Calls Tryz.prog 48 #[.slice A t.length c] w (RetOwn 82 2 t.length (pairs t) w) := by
  by_cases h0 : t.length = 0
  · have ht : t = [] := List.eq_nil_of_length_eq_zero h0
    subst ht
    go_enter Tryz.func48, Tryz.ntmps48
    go_wp2_with fail
    go_ret
    exact ⟨_, rfl, World.ownsRow_nil _ _ _ _, Below.refl _ _⟩
  · obtain ⟨b, off, rfl, hbb⟩ := hr.addr (k := 0) (by rw [pairs_length]; omega)
    have hz : ((t.length : Int) == 0) = false := by rw [beq_eq_false_iff_ne]; omega
    have hne : Hid (0 < t.length) := by show 0 < t.length; omega
    clear h0
    obtain ⟨i0, hi, hz0, hz1, hz2⟩ := info_parts infoChange
    have HN := Lib.hid (hr.alloc (.cells #[] 82)).news
    have HO := Lib.hid (World.ownsRow_made (base := w.heap.size) (e := 82) (size := 2) w #[] 0 (Nat.le_refl _) (by simp [maxLen]) (by simp))
    go_enter Tryz.func48, Tryz.ntmps48
    go_wp2_with (at_builtin; refine wpList_append_own_at _ rfl _ _ 59 rfl w.heap.size 82 i0 _ 2 16 Tryz.underlying59 hi hz0 hz1 hz2 rfl (by decide) _ _ _ rfl HO.out _ t.length c (pairs t) rfl (by rw [pairs_length]) HN.out (pairs_one t) (by simp only [maxLen]; omega) (by omega) (by simp) ?_; intro v1 w1 hown1 hgrow1 _ hat1)
    go_ret
    exact ⟨v1, rfl, by simpa using hown1, (below_new w _).grown hgrow1 (by simp) (fun k hk => by have hk' : some w.heap.size = some k := hk; injection hk' with hk'; omega)⟩
theorem infoPair : (Tryz.prog.info? 99).map (fun i => (i.zero, i.size, i.bytes)) = some (some (.agg #[.int .i64 0, .int .i64 0]), 2, 16) := by kernel_rfl
set_option maxHeartbeats 400000 in
theorem copyPair_any (A : Option Addr) (c : Nat) (t : List (Int × Int)) (w : World) (hr : Rd w w.heap.size A (pairs t)) (hl : t.length ≤ 100000) :
    Calls Tryz.prog 58 #[.slice A t.length c] w (RetOwn 99 2 t.length (pairs t) w) := by
  by_cases h0 : t.length = 0
  · have ht : t = [] := List.eq_nil_of_length_eq_zero h0
    subst ht
    go_enter Tryz.func58, Tryz.ntmps58
    go_wp2_with fail
    go_ret
    exact ⟨_, rfl, World.ownsRow_nil _ _ _ _, Below.refl _ _⟩
  · obtain ⟨b, off, rfl, hbb⟩ := hr.addr (k := 0) (by rw [pairs_length]; omega)
    have hz : ((t.length : Int) == 0) = false := by rw [beq_eq_false_iff_ne]; omega
    have hne : Hid (0 < t.length) := by show 0 < t.length; omega
    clear h0
    obtain ⟨i0, hi, hz0, hz1, hz2⟩ := info_parts infoPair
    have HN := Lib.hid (hr.alloc (.cells #[] 99)).news
    have HO := Lib.hid (World.ownsRow_made (base := w.heap.size) (e := 99) (size := 2) w #[] 0 (Nat.le_refl _) (by simp [maxLen]) (by simp))
    go_enter Tryz.func58, Tryz.ntmps58
    go_wp2_with (at_builtin; refine wpList_append_own_at _ rfl _ _ 96 rfl w.heap.size 99 i0 _ 2 16 Tryz.underlying96 hi hz0 hz1 hz2 rfl (by decide) _ _ _ rfl HO.out _ t.length c (pairs t) rfl (by rw [pairs_length]) HN.out (pairs_one t) (by simp only [maxLen]; omega) (by omega) (by simp) ?_; intro v1 w1 hown1 hgrow1 _ hat1)
    go_ret
    exact ⟨v1, rfl, by simpa using hown1, (below_new w _).grown hgrow1 (by simp) (fun k hk => by have hk' : some w.heap.size = some k := hk; injection hk' with hk'; omega)⟩
theorem infoInt : (Tryz.prog.info? 3).map (fun i => (i.zero, i.size, i.bytes)) = some (some (.int .i64 0), 1, 8) := by kernel_rfl
set_option maxHeartbeats 400000 in
theorem copyInt_any (A : Option Addr) (c : Nat) (t : List (Int)) (w : World) (hr : Rd w w.heap.size A (ints t)) (hl : t.length ≤ 100000) :
    Calls Tryz.prog 47 #[.slice A t.length c] w (RetOwn 3 1 t.length (ints t) w) := by
  by_cases h0 : t.length = 0
  · have ht : t = [] := List.eq_nil_of_length_eq_zero h0
    subst ht
    go_enter Tryz.func47, Tryz.ntmps47
    go_wp2_with fail
    go_ret
    exact ⟨_, rfl, World.ownsRow_nil _ _ _ _, Below.refl _ _⟩
  · obtain ⟨b, off, rfl, hbb⟩ := hr.addr (k := 0) (by rw [ints_length]; omega)
    have hz : ((t.length : Int) == 0) = false := by rw [beq_eq_false_iff_ne]; omega
    have hne : Hid (0 < t.length) := by show 0 < t.length; omega
    clear h0
    obtain ⟨i0, hi, hz0, hz1, hz2⟩ := info_parts infoInt
    have HN := Lib.hid (hr.alloc (.cells #[] 3)).news
    have HO := Lib.hid (World.ownsRow_made (base := w.heap.size) (e := 3) (size := 1) w #[] 0 (Nat.le_refl _) (by simp [maxLen]) (by simp))
    go_enter Tryz.func47, Tryz.ntmps47
    go_wp2_with (at_builtin; refine wpList_append_own_at _ rfl _ _ 41 rfl w.heap.size 3 i0 _ 1 8 Tryz.underlying41 hi hz0 hz1 hz2 rfl (by decide) _ _ _ rfl HO.out _ t.length c (ints t) rfl (by rw [ints_length]; omega) HN.out (ints_one t) (by simp only [maxLen]; omega) (by omega) (by simp) ?_; intro v1 w1 hown1 hgrow1 _ hat1)
    go_ret
    exact ⟨v1, rfl, by simpa using hown1, (below_new w _).grown hgrow1 (by simp) (fun k hk => by have hk' : some w.heap.size = some k := hk; injection hk' with hk'; omega)⟩
set_option maxRecDepth 100000 in
set_option maxHeartbeats 400000 in
theorem cloneProof_any (A : Option Addr) (c : Nat) (t : List Pr) (w : World) (hr : Rd w w.heap.size A (prs t)) (hl : t.length ≤ 100000) (h0 : 0 < t.length) :
    Calls Tryz.prog 163 #[.slice A t.length c] w (RetOwn 57 4 t.length (prs t) w) := by
  obtain ⟨b, off, rfl, hbb⟩ := hr.addr (k := 0) (by rw [prs_length]; omega)
  have hne : Hid (0 < t.length) := h0
  clear h0
  obtain ⟨i0, hi, hz0, hz1, hz2⟩ := info_parts infoProof
  have HN := Lib.hid (hr.alloc (.cells #[] 57)).news
  have HO := Lib.hid (World.ownsRow_made (base := w.heap.size) (e := 57) (size := 4) w #[] 0 (Nat.le_refl _) (by simp [maxLen]) (by simp))
  have q22 : ∀ (w : World) (a : Option Addr) (n c n' c' : Nat), (binOp .eql 23 (.slice a n c) (.slice none n' c')).run Tryz.prog w = .ok (.bool a.isNone) w := fun w a n c n' c' => Lib.run_eql_slice_nil w _ _ a n c n' c' Tryz.underlying23
  go_enter Tryz.func163, Tryz.ntmps163
  go_wp2_with (at_builtin; refine wpList_append_own_at _ rfl _ _ 23 rfl w.heap.size 57 i0 _ 4 32 Tryz.underlying23 hi hz0 hz1 hz2 rfl (by decide) _ _ _ rfl HO.out _ t.length c (prs t) rfl (by rw [prs_length]) HN.out (prs_one t) (by simp only [maxLen]; omega) (by omega) (by simp) ?_; intro v1 w1 hown1 hgrow1 _ hat1)
  go_ret
  exact ⟨v1, rfl, by simpa using hown1, (below_new w _).grown hgrow1 (by simp) (fun k hk => by have hk' : some w.heap.size = some k := hk; injection hk' with hk'; omega)⟩
set_option maxRecDepth 100000 in
theorem cloneNone_any (A : Option Addr) (c : Nat) (w : World) : Calls Tryz.prog 163 #[.slice A 0 c] w fun e w' => (∃ A' c', e = .returned (.slice A' 0 c')) ∧ Below w.heap.size w w' := by
  obtain ⟨i0, hi, hz0, hz1, hz2⟩ := info_parts infoProof
  have q22 : ∀ (w : World) (a : Option Addr) (n c n' c' : Nat), (binOp .eql 23 (.slice a n c) (.slice none n' c')).run Tryz.prog w = .ok (.bool a.isNone) w := fun w a n c n' c' => Lib.run_eql_slice_nil w _ _ a n c n' c' Tryz.underlying23
  cases A with
  | none =>
    go_enter Tryz.func163, Tryz.ntmps163
    go_wp2_with fail
    go_ret
    exact ⟨⟨_, _, rfl⟩, Below.refl _ _⟩
  | some a =>
    have HO := Lib.hid (World.ownsRow_made (base := w.heap.size) (e := 57) (size := 4) w #[] 0 (Nat.le_refl _) (by simp [maxLen]) (by simp))
    go_enter Tryz.func163, Tryz.ntmps163
    go_wp2_with (at_builtin; refine wpList_append_own_at _ rfl _ _ 23 rfl w.heap.size 57 i0 _ 4 32 Tryz.underlying23 hi hz0 hz1 hz2 rfl (by decide) _ _ _ rfl HO.out a 0 c [] rfl rfl (by simp) (by simp) (by simp only [maxLen]; omega) (by omega) (by simp) ?_; intro v1 w1 hown1 hgrow1 _ hat1)
    go_ret
    obtain ⟨A1, c1, e1, _, _⟩ := own_slice hown1
    exact ⟨⟨A1, c1, by rw [e1]; rfl⟩, (below_new w _).grown hgrow1 (by simp) (fun k hk => by have hk' : some w.heap.size = some k := hk; injection hk' with hk'; omega)⟩
end Go.Proofs.YtcdjoegihmfanaaGreat
