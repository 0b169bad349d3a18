/- awake: the examples of the chapter hold. -/
import Derived.Test.YtcdjoegihmfanaaGreatG15
namespace Go.Proofs.YtcdjoegihmfanaaGreat
open Go.RowKit
set_option linter.unusedVariables false
def PRwN (B n : Nat) (xs : List Value) (v : Value) (w : World) : Prop := ∃ k, v = .slice (some ⟨k, 0, none⟩) n n ∧ B ≤ k ∧ Blk w k xs
theorem stbB_rwn (B n : Nat) (xs : List Value) : StbB (PRwN B n xs) := by
  rintro v w w' ⟨k, e, h1, h2⟩ hb
  exact ⟨k, e, h1, h2.below hb⟩
theorem blk_at {w w' : World} {b : Nat} {x : List Value} (h : Hid (Blk w b x)) (hb : Below w.heap.size w w') : Hid (Blk w' b x) := Lib.hid (h.out.below hb)
/-- The book with its trip's other bridge written in. -/
theorem twoU_set {w : World} {A B : Nat} (h : TwoA w A B twoT) (hB : Blk w B [.int .i64 0, .int .i64 20, .int .i64 3000, .int .i64 0, .int .i64 30, .int .i64 1200, .int .i64 10]) (hne : A < B) : TwoA (w.setCell ⟨B, 3, none⟩ (.int .i64 1)) A B twoU := by
  have hs := hB.set (j := 3) (by simp) (.int .i64 1)
  refine ⟨?_, hs.rd, h.ca, Nat.le_refl _, h.la, by decide⟩
  intro hn
  obtain ⟨b, off, e, hb, hc⟩ := h.ra hn
  injection e with e; injection e with e1 e2
  subst e1 e2
  exact ⟨A, 0, rfl, by simpa [World.setCell] using hb, fun j u hu => (cell_far (by omega)).trans (hc j u hu)⟩
set_option maxRecDepth 100000 in
set_option maxHeartbeats 40000000 in
theorem awake_any (w : World) : Calls Tryz.prog 17 #[] w fun e w' => e = .returned (.bool true) ∧ Below w.heap.size w w' := by
  go_enter Tryz.func17, Tryz.ntmps17
  go_wp2_with fail
  refine (Two_any w).mono ?_
  rintro e a1 ⟨⟨A1, B1, rfl, hA1, hB1, hT1, hK1⟩, hb⟩
  have HB := Lib.hid hb
  have hT1 := Lib.hid hT1
  clear hK1
  clear hb
  go_wp2_with fail
  refine (fewX hT1.out).out.mono ?_
  rintro e b1 ⟨rfl, hb⟩
  have HB := Lib.hid (HB.out.trans (hb.mono HB.out.size))
  clear hb
  clear hT1
  go_wp2_with fail
  refine (Two_any b1).mono ?_
  rintro e a2 ⟨⟨A2, B2, rfl, hA2, hB2, hT2, hK2⟩, hb⟩
  have HB := Lib.hid (HB.out.trans (hb.mono HB.out.size))
  have hT2 := Lib.hid hT2
  clear hK2
  clear hb
  go_wp2_with fail
  refine (whenX hT2.out).out.mono ?_
  rintro e b2 ⟨rfl, hb⟩
  have HB := Lib.hid (HB.out.trans (hb.mono HB.out.size))
  clear hb
  clear hT2
  go_wp2_with fail
  have hb := below_new b2 (.cells #[.int .i64 51, .int .i64 90] 36)
  have S3 := Lib.hid (Blk.new b2 [.int .i64 51, .int .i64 90] 36)
  obtain ⟨c2, hc⟩ : ∃ c, b2.alloc (.cells #[.int .i64 51, .int .i64 90] 36) = c := ⟨_, rfl⟩
  obtain ⟨n3, hn⟩ : ∃ n, b2.heap.size = n := ⟨_, rfl⟩
  change Hid (Blk (b2.alloc (.cells #[.int .i64 51, .int .i64 90] 36)) _ _) at S3
  rw [hc] at hb S3 ⊢
  rw [hn] at S3 ⊢
  have HB := Lib.hid (HB.out.trans (hb.mono HB.out.size))
  clear hb hc hn
  refine (Two_any c2).mono ?_
  rintro e a3 ⟨⟨A3, B3, rfl, hA3, hB3, hT3, hK3⟩, hb⟩
  have HB := Lib.hid (HB.out.trans (hb.mono HB.out.size))
  have S3 := blk_at S3 hb
  have hT3 := Lib.hid hT3
  clear hK3
  clear hb
  go_wp2_with fail
  refine (at1X hT3.out).out.mono ?_
  rintro e b3 ⟨rfl, hb⟩
  have HB := Lib.hid (HB.out.trans (hb.mono HB.out.size))
  have S3 := blk_at S3 hb
  clear hb
  clear hT3
  go_wp2_with fail
  have hb := below_new b3 (.cells #[.int .i64 4, .int .i64 5] 36)
  have S5 := Lib.hid (Blk.new b3 [.int .i64 4, .int .i64 5] 36)
  obtain ⟨c3, hc⟩ : ∃ c, b3.alloc (.cells #[.int .i64 4, .int .i64 5] 36) = c := ⟨_, rfl⟩
  obtain ⟨n5, hn⟩ : ∃ n, b3.heap.size = n := ⟨_, rfl⟩
  change Hid (Blk (b3.alloc (.cells #[.int .i64 4, .int .i64 5] 36)) _ _) at S5
  rw [hc] at hb S5 ⊢
  rw [hn] at S5 ⊢
  have HB := Lib.hid (HB.out.trans (hb.mono HB.out.size))
  have S3 := blk_at S3 hb
  clear hb hc hn
  refine (Two_any c3).mono ?_
  rintro e a4 ⟨⟨A4, B4, rfl, hA4, hB4, hT4, hK4⟩, hb⟩
  have HB := Lib.hid (HB.out.trans (hb.mono HB.out.size))
  have S3 := blk_at S3 hb
  have S5 := blk_at S5 hb
  have hT4 := Lib.hid hT4
  clear hK4
  clear hb
  go_wp2_with fail
  refine (at2X hT4.out).out.mono ?_
  rintro e b4 ⟨rfl, hb⟩
  have HB := Lib.hid (HB.out.trans (hb.mono HB.out.size))
  have S3 := blk_at S3 hb
  have S5 := blk_at S5 hb
  clear hb
  clear hT4
  go_wp2_with fail
  have hb := below_new b4 (.cells #[.int .i64 4, .int .i64 8] 36)
  have S7 := Lib.hid (Blk.new b4 [.int .i64 4, .int .i64 8] 36)
  obtain ⟨c4, hc⟩ : ∃ c, b4.alloc (.cells #[.int .i64 4, .int .i64 8] 36) = c := ⟨_, rfl⟩
  obtain ⟨n7, hn⟩ : ∃ n, b4.heap.size = n := ⟨_, rfl⟩
  change Hid (Blk (b4.alloc (.cells #[.int .i64 4, .int .i64 8] 36)) _ _) at S7
  rw [hc] at hb S7 ⊢
  rw [hn] at S7 ⊢
  have HB := Lib.hid (HB.out.trans (hb.mono HB.out.size))
  have S3 := blk_at S3 hb
  have S5 := blk_at S5 hb
  clear hb hc hn
  refine (Two_any c4).mono ?_
  rintro e a5 ⟨⟨A5, B5, rfl, hA5, hB5, hT5, hK5⟩, hb⟩
  have HB := Lib.hid (HB.out.trans (hb.mono HB.out.size))
  have S3 := blk_at S3 hb
  have S5 := blk_at S5 hb
  have S7 := blk_at S7 hb
  have hT5 := Lib.hid hT5
  clear hK5
  clear hb
  go_wp2_with fail
  have hb := below_new a5 (.cells #[.int .i64 0, .int .i64 2] 99)
  have hq := (Blk.new a5 [.int .i64 0, .int .i64 2] 99).rd
  change Rd (a5.alloc (.cells #[.int .i64 0, .int .i64 2] 99)) _ _ _ at hq
  obtain ⟨c5, hc⟩ : ∃ c, a5.alloc (.cells #[.int .i64 0, .int .i64 2] 99) = c := ⟨_, rfl⟩
  rw [hc] at hb hq ⊢
  skip
  have HQ := Lib.hid hq
  have hT5 := Lib.hid (hT5.out.next hb)
  have HB := Lib.hid (HB.out.trans (hb.mono HB.out.size))
  have S3 := blk_at S3 hb
  have S5 := blk_at S5 hb
  have S7 := blk_at S7 hb
  clear hb hc hq
  refine (provX hT5.out HQ.out).out.mono ?_
  rintro e b5 ⟨rfl, hb⟩
  have HB := Lib.hid (HB.out.trans (hb.mono HB.out.size))
  have S3 := blk_at S3 hb
  have S5 := blk_at S5 hb
  have S7 := blk_at S7 hb
  clear hb
  clear hT5 HQ
  go_wp2_with fail
  refine (Two_any b5).mono ?_
  rintro e a6 ⟨⟨A6, B6, rfl, hA6, hB6, hT6, hK6⟩, hb⟩
  have HB := Lib.hid (HB.out.trans (hb.mono HB.out.size))
  have S3 := blk_at S3 hb
  have S5 := blk_at S5 hb
  have S7 := blk_at S7 hb
  have hT6 := Lib.hid hT6
  clear hK6
  clear hb
  go_wp2_with fail
  refine (wrongX hT6.out).out.mono ?_
  rintro e b6 ⟨AW, cW, rfl, hr, hb⟩
  have HB := Lib.hid (HB.out.trans (hb.mono HB.out.size))
  have S3 := blk_at S3 hb
  have S5 := blk_at S5 hb
  have S7 := blk_at S7 hb
  have R7 := Lib.hid hr
  clear hb
  clear hT6 hr
  go_wp2_with fail
  refine (Two_any b6).mono ?_
  rintro e a7 ⟨⟨A7, B7, rfl, hA7, hB7, hT7, hK7⟩, hb⟩
  have HB := Lib.hid (HB.out.trans (hb.mono HB.out.size))
  have S3 := blk_at S3 hb
  have S5 := blk_at S5 hb
  have S7 := blk_at S7 hb
  have R7 := Lib.hid (R7.out.next hb)
  have hT7 := Lib.hid hT7
  clear hK7
  clear hb
  go_wp2_with fail
  refine (clashX hT7.out).out.mono ?_
  rintro e W9 ⟨AC, cC, rfl, hr, hb⟩
  have HB := Lib.hid (HB.out.trans (hb.mono HB.out.size))
  have S3 := blk_at S3 hb
  have S5 := blk_at S5 hb
  have S7 := blk_at S7 hb
  have R7 := Lib.hid (R7.out.next hb)
  have R8 := Lib.hid hr
  clear hb
  clear hT7 hr
  have s30 := S3.out.cells 0 _ rfl
  have s31 := S3.out.cells 1 _ rfl
  have l3 := S3.out.lt
  have s50 := S5.out.cells 0 _ rfl
  have s51 := S5.out.cells 1 _ rfl
  have l5 := S5.out.lt
  have s70 := S7.out.cells 0 _ rfl
  have s71 := S7.out.cells 1 _ rfl
  have l7 := S7.out.lt
  clear S3 S5 S7
  go_wp2_with fail
  refine wp_invT 61 (by kernel_rfl) (by kernel_rfl) (by kernel_rfl) (by decide) (FL [PEq (.int .i64 0), PEq (.bool false), PEq (.bool false), PEq (.int .i64 0), PEq (.bool false), PEq (.bool false), PEq (.bool false), PEq (.int .i64 0), PEq (.bool false), PEq (.bool false), PEq (.bool false), PEq (.int .i64 0), PEq (.bool false), PEq (.bool false), PEq (.bool false), PEq (.int .i64 0), PEq (.bool false), PEq (.bool false), PEq (.bool false), PEq (.int .i64 0), PEq (.bool false), PEq (.bool false), PEq (.bool false), PEq (.int .i64 0), PEq (.bool false), PEq (.bool false), PEq (.bool false), PEq (.int .i64 1), PEq (.bool false), PEq (.bool false), PEq (.bool false), PEq (.agg #[.int .i64 51, .int .i64 90]), PEq (.agg #[.int .i64 51, .int .i64 90]), PEq (.bool false), PEq (.bool false), PEq (.bool false), PEq (.agg #[.int .i64 4, .int .i64 5]), PEq (.agg #[.int .i64 4, .int .i64 5]), PEq (.bool false), PEq (.bool false), PEq (.bool false), PEq (.agg #[.int .i64 4, .int .i64 8]), PEq (.agg #[.int .i64 4, .int .i64 8]), PEq (.bool false), PEq (.bool false), PEq (.bool false), PEq (.bool true), PEq (.bool false), PEq (.bool false), PEq (.bool false), PEq (.slice AW 1 cW), PRwN W9.heap.size 1 [.int .i64 2], PEq (.bool true), PEq (.bool false), PEq (.bool false), PEq (.bool false), PEq (.slice AC 2 cC), PRwN W9.heap.size 2 [.int .i64 1, .int .i64 2], PEq (.bool true), PEq (.bool false), PEq (.bool false)])
    (fun x => Below W9.heap.size W9 x) (fun x y => Below x.heap.size x y) (FL.keepB (by simp [stbB_eq, stbB_rwn])) (below_drew W9) ?_ ?_
  · intro iq o hi' ho listed vals a w5 hdep hM hAt K hK
    have HI := Lib.hid hM.inv
    match iq, hi' with
    | 0, _ =>
      injection ho with ho
      subst ho
      rw [if_pos (wantedN rfl)]
      obtain ⟨e2, e2'⟩ := hAt.slot 2 (by kernel_rfl) (by rfl)
      go_simp
      exact hK _ w5 (Below.refl _ _) HI.out rfl
    | 1, _ =>
      injection ho with ho
      subst ho
      rw [if_pos (wantedN rfl)]
      have l0 := hdep ⟨0, .data⟩ (by simp) rfl
      obtain ⟨x0, x0'⟩ := hAt.dep 0 (d := 57) (by omega) l0 (by rfl) (hM.fact 0 (by omega) l0)
      go_simp
      exact hK _ w5 (Below.refl _ _) HI.out rfl
    | 2, _ =>
      injection ho with ho
      subst ho
      rw [if_pos (wantedN rfl)]
      have l1 := hdep ⟨1, .data⟩ (by simp) rfl
      obtain ⟨x1, x1'⟩ := hAt.dep 1 (d := 58) (by omega) l1 (by rfl) (hM.fact 1 (by omega) l1)
      go_simp
      exact hK _ w5 (Below.refl _ _) HI.out rfl
    | 3, _ =>
      injection ho with ho
      subst ho
      have lg := hdep ⟨2, .guard⟩ (by simp) rfl
      obtain ⟨xg, xg'⟩ := hAt.dep 2 (d := 59) (by omega) lg (by rfl) (hM.fact 2 (by omega) lg)
      rw [if_pos (by rw [wantedG rfl (by rfl) xg]; decide)]
      clear lg xg xg'
      obtain ⟨e4, e4'⟩ := hAt.slot 4 (by kernel_rfl) (by rfl)
      go_simp
      exact hK _ w5 (Below.refl _ _) HI.out rfl
    | 4, _ =>
      injection ho with ho
      subst ho
      have lg := hdep ⟨2, .guard⟩ (by simp) rfl
      obtain ⟨xg, xg'⟩ := hAt.dep 2 (d := 59) (by omega) lg (by rfl) (hM.fact 2 (by omega) lg)
      rw [if_pos (by rw [wantedG rfl (by rfl) xg]; decide)]
      clear lg xg xg'
      have l3 := hdep ⟨3, .data⟩ (by simp) rfl
      obtain ⟨x3, x3'⟩ := hAt.dep 3 (d := 60) (by omega) l3 (by rfl) (hM.fact 3 (by omega) l3)
      go_simp
      exact hK _ w5 (Below.refl _ _) HI.out rfl
    | 5, _ =>
      injection ho with ho
      subst ho
      rw [if_pos (wantedN rfl)]
      have l2 := hdep ⟨2, .data⟩ (by simp) rfl
      obtain ⟨x2, x2'⟩ := hAt.dep 2 (d := 59) (by omega) l2 (by rfl) (hM.fact 2 (by omega) l2)
      have l4 := hdep ⟨4, .data⟩ (by simp) rfl
      obtain ⟨x4, x4'⟩ := hAt.dep 4 (d := 61) (by omega) l4 (by rfl) (hM.fact 4 (by omega) l4)
      go_simp
      exact hK _ w5 (Below.refl _ _) HI.out rfl
    | 6, _ =>
      injection ho with ho
      subst ho
      rw [if_pos (wantedN rfl)]
      have l5 := hdep ⟨5, .data⟩ (by simp) rfl
      obtain ⟨x5, x5'⟩ := hAt.dep 5 (d := 62) (by omega) l5 (by rfl) (hM.fact 5 (by omega) l5)
      go_simp
      exact hK _ w5 (Below.refl _ _) HI.out rfl
    | 7, _ =>
      injection ho with ho
      subst ho
      have lg := hdep ⟨6, .guard⟩ (by simp) rfl
      obtain ⟨xg, xg'⟩ := hAt.dep 6 (d := 63) (by omega) lg (by rfl) (hM.fact 6 (by omega) lg)
      rw [if_pos (by rw [wantedG rfl (by rfl) xg]; decide)]
      clear lg xg xg'
      obtain ⟨e6, e6'⟩ := hAt.slot 6 (by kernel_rfl) (by rfl)
      go_simp
      exact hK _ w5 (Below.refl _ _) HI.out rfl
    | 8, _ =>
      injection ho with ho
      subst ho
      have lg := hdep ⟨6, .guard⟩ (by simp) rfl
      obtain ⟨xg, xg'⟩ := hAt.dep 6 (d := 63) (by omega) lg (by rfl) (hM.fact 6 (by omega) lg)
      rw [if_pos (by rw [wantedG rfl (by rfl) xg]; decide)]
      clear lg xg xg'
      have l7 := hdep ⟨7, .data⟩ (by simp) rfl
      obtain ⟨x7, x7'⟩ := hAt.dep 7 (d := 64) (by omega) l7 (by rfl) (hM.fact 7 (by omega) l7)
      go_simp
      exact hK _ w5 (Below.refl _ _) HI.out rfl
    | 9, _ =>
      injection ho with ho
      subst ho
      rw [if_pos (wantedN rfl)]
      have l6 := hdep ⟨6, .data⟩ (by simp) rfl
      obtain ⟨x6, x6'⟩ := hAt.dep 6 (d := 63) (by omega) l6 (by rfl) (hM.fact 6 (by omega) l6)
      have l8 := hdep ⟨8, .data⟩ (by simp) rfl
      obtain ⟨x8, x8'⟩ := hAt.dep 8 (d := 65) (by omega) l8 (by rfl) (hM.fact 8 (by omega) l8)
      go_simp
      exact hK _ w5 (Below.refl _ _) HI.out rfl
    | 10, _ =>
      injection ho with ho
      subst ho
      rw [if_pos (wantedN rfl)]
      have l9 := hdep ⟨9, .data⟩ (by simp) rfl
      obtain ⟨x9, x9'⟩ := hAt.dep 9 (d := 66) (by omega) l9 (by rfl) (hM.fact 9 (by omega) l9)
      go_simp
      exact hK _ w5 (Below.refl _ _) HI.out rfl
    | 11, _ =>
      injection ho with ho
      subst ho
      have lg := hdep ⟨10, .guard⟩ (by simp) rfl
      obtain ⟨xg, xg'⟩ := hAt.dep 10 (d := 67) (by omega) lg (by rfl) (hM.fact 10 (by omega) lg)
      rw [if_pos (by rw [wantedG rfl (by rfl) xg]; decide)]
      clear lg xg xg'
      obtain ⟨e8, e8'⟩ := hAt.slot 8 (by kernel_rfl) (by rfl)
      go_simp
      exact hK _ w5 (Below.refl _ _) HI.out rfl
    | 12, _ =>
      injection ho with ho
      subst ho
      have lg := hdep ⟨10, .guard⟩ (by simp) rfl
      obtain ⟨xg, xg'⟩ := hAt.dep 10 (d := 67) (by omega) lg (by rfl) (hM.fact 10 (by omega) lg)
      rw [if_pos (by rw [wantedG rfl (by rfl) xg]; decide)]
      clear lg xg xg'
      have l11 := hdep ⟨11, .data⟩ (by simp) rfl
      obtain ⟨x11, x11'⟩ := hAt.dep 11 (d := 68) (by omega) l11 (by rfl) (hM.fact 11 (by omega) l11)
      go_simp
      exact hK _ w5 (Below.refl _ _) HI.out rfl
    | 13, _ =>
      injection ho with ho
      subst ho
      rw [if_pos (wantedN rfl)]
      have l10 := hdep ⟨10, .data⟩ (by simp) rfl
      obtain ⟨x10, x10'⟩ := hAt.dep 10 (d := 67) (by omega) l10 (by rfl) (hM.fact 10 (by omega) l10)
      have l12 := hdep ⟨12, .data⟩ (by simp) rfl
      obtain ⟨x12, x12'⟩ := hAt.dep 12 (d := 69) (by omega) l12 (by rfl) (hM.fact 12 (by omega) l12)
      go_simp
      exact hK _ w5 (Below.refl _ _) HI.out rfl
    | 14, _ =>
      injection ho with ho
      subst ho
      rw [if_pos (wantedN rfl)]
      have l13 := hdep ⟨13, .data⟩ (by simp) rfl
      obtain ⟨x13, x13'⟩ := hAt.dep 13 (d := 70) (by omega) l13 (by rfl) (hM.fact 13 (by omega) l13)
      go_simp
      exact hK _ w5 (Below.refl _ _) HI.out rfl
    | 15, _ =>
      injection ho with ho
      subst ho
      have lg := hdep ⟨14, .guard⟩ (by simp) rfl
      obtain ⟨xg, xg'⟩ := hAt.dep 14 (d := 71) (by omega) lg (by rfl) (hM.fact 14 (by omega) lg)
      rw [if_pos (by rw [wantedG rfl (by rfl) xg]; decide)]
      clear lg xg xg'
      obtain ⟨e10, e10'⟩ := hAt.slot 10 (by kernel_rfl) (by rfl)
      go_simp
      exact hK _ w5 (Below.refl _ _) HI.out rfl
    | 16, _ =>
      injection ho with ho
      subst ho
      have lg := hdep ⟨14, .guard⟩ (by simp) rfl
      obtain ⟨xg, xg'⟩ := hAt.dep 14 (d := 71) (by omega) lg (by rfl) (hM.fact 14 (by omega) lg)
      rw [if_pos (by rw [wantedG rfl (by rfl) xg]; decide)]
      clear lg xg xg'
      have l15 := hdep ⟨15, .data⟩ (by simp) rfl
      obtain ⟨x15, x15'⟩ := hAt.dep 15 (d := 72) (by omega) l15 (by rfl) (hM.fact 15 (by omega) l15)
      go_simp
      exact hK _ w5 (Below.refl _ _) HI.out rfl
    | 17, _ =>
      injection ho with ho
      subst ho
      rw [if_pos (wantedN rfl)]
      have l14 := hdep ⟨14, .data⟩ (by simp) rfl
      obtain ⟨x14, x14'⟩ := hAt.dep 14 (d := 71) (by omega) l14 (by rfl) (hM.fact 14 (by omega) l14)
      have l16 := hdep ⟨16, .data⟩ (by simp) rfl
      obtain ⟨x16, x16'⟩ := hAt.dep 16 (d := 73) (by omega) l16 (by rfl) (hM.fact 16 (by omega) l16)
      go_simp
      exact hK _ w5 (Below.refl _ _) HI.out rfl
    | 18, _ =>
      injection ho with ho
      subst ho
      rw [if_pos (wantedN rfl)]
      have l17 := hdep ⟨17, .data⟩ (by simp) rfl
      obtain ⟨x17, x17'⟩ := hAt.dep 17 (d := 74) (by omega) l17 (by rfl) (hM.fact 17 (by omega) l17)
      go_simp
      exact hK _ w5 (Below.refl _ _) HI.out rfl
    | 19, _ =>
      injection ho with ho
      subst ho
      have lg := hdep ⟨18, .guard⟩ (by simp) rfl
      obtain ⟨xg, xg'⟩ := hAt.dep 18 (d := 75) (by omega) lg (by rfl) (hM.fact 18 (by omega) lg)
      rw [if_pos (by rw [wantedG rfl (by rfl) xg]; decide)]
      clear lg xg xg'
      obtain ⟨e12, e12'⟩ := hAt.slot 12 (by kernel_rfl) (by rfl)
      go_simp
      exact hK _ w5 (Below.refl _ _) HI.out rfl
    | 20, _ =>
      injection ho with ho
      subst ho
      have lg := hdep ⟨18, .guard⟩ (by simp) rfl
      obtain ⟨xg, xg'⟩ := hAt.dep 18 (d := 75) (by omega) lg (by rfl) (hM.fact 18 (by omega) lg)
      rw [if_pos (by rw [wantedG rfl (by rfl) xg]; decide)]
      clear lg xg xg'
      have l19 := hdep ⟨19, .data⟩ (by simp) rfl
      obtain ⟨x19, x19'⟩ := hAt.dep 19 (d := 76) (by omega) l19 (by rfl) (hM.fact 19 (by omega) l19)
      go_simp
      exact hK _ w5 (Below.refl _ _) HI.out rfl
    | 21, _ =>
      injection ho with ho
      subst ho
      rw [if_pos (wantedN rfl)]
      have l18 := hdep ⟨18, .data⟩ (by simp) rfl
      obtain ⟨x18, x18'⟩ := hAt.dep 18 (d := 75) (by omega) l18 (by rfl) (hM.fact 18 (by omega) l18)
      have l20 := hdep ⟨20, .data⟩ (by simp) rfl
      obtain ⟨x20, x20'⟩ := hAt.dep 20 (d := 77) (by omega) l20 (by rfl) (hM.fact 20 (by omega) l20)
      go_simp
      exact hK _ w5 (Below.refl _ _) HI.out rfl
    | 22, _ =>
      injection ho with ho
      subst ho
      rw [if_pos (wantedN rfl)]
      have l21 := hdep ⟨21, .data⟩ (by simp) rfl
      obtain ⟨x21, x21'⟩ := hAt.dep 21 (d := 78) (by omega) l21 (by rfl) (hM.fact 21 (by omega) l21)
      go_simp
      exact hK _ w5 (Below.refl _ _) HI.out rfl
    | 23, _ =>
      injection ho with ho
      subst ho
      have lg := hdep ⟨22, .guard⟩ (by simp) rfl
      obtain ⟨xg, xg'⟩ := hAt.dep 22 (d := 79) (by omega) lg (by rfl) (hM.fact 22 (by omega) lg)
      rw [if_pos (by rw [wantedG rfl (by rfl) xg]; decide)]
      clear lg xg xg'
      obtain ⟨e14, e14'⟩ := hAt.slot 14 (by kernel_rfl) (by rfl)
      go_simp
      exact hK _ w5 (Below.refl _ _) HI.out rfl
    | 24, _ =>
      injection ho with ho
      subst ho
      have lg := hdep ⟨22, .guard⟩ (by simp) rfl
      obtain ⟨xg, xg'⟩ := hAt.dep 22 (d := 79) (by omega) lg (by rfl) (hM.fact 22 (by omega) lg)
      rw [if_pos (by rw [wantedG rfl (by rfl) xg]; decide)]
      clear lg xg xg'
      have l23 := hdep ⟨23, .data⟩ (by simp) rfl
      obtain ⟨x23, x23'⟩ := hAt.dep 23 (d := 80) (by omega) l23 (by rfl) (hM.fact 23 (by omega) l23)
      go_simp
      exact hK _ w5 (Below.refl _ _) HI.out rfl
    | 25, _ =>
      injection ho with ho
      subst ho
      rw [if_pos (wantedN rfl)]
      have l22 := hdep ⟨22, .data⟩ (by simp) rfl
      obtain ⟨x22, x22'⟩ := hAt.dep 22 (d := 79) (by omega) l22 (by rfl) (hM.fact 22 (by omega) l22)
      have l24 := hdep ⟨24, .data⟩ (by simp) rfl
      obtain ⟨x24, x24'⟩ := hAt.dep 24 (d := 81) (by omega) l24 (by rfl) (hM.fact 24 (by omega) l24)
      go_simp
      exact hK _ w5 (Below.refl _ _) HI.out rfl
    | 26, _ =>
      injection ho with ho
      subst ho
      rw [if_pos (wantedN rfl)]
      have l25 := hdep ⟨25, .data⟩ (by simp) rfl
      obtain ⟨x25, x25'⟩ := hAt.dep 25 (d := 82) (by omega) l25 (by rfl) (hM.fact 25 (by omega) l25)
      go_simp
      exact hK _ w5 (Below.refl _ _) HI.out rfl
    | 27, _ =>
      injection ho with ho
      subst ho
      have lg := hdep ⟨26, .guard⟩ (by simp) rfl
      obtain ⟨xg, xg'⟩ := hAt.dep 26 (d := 83) (by omega) lg (by rfl) (hM.fact 26 (by omega) lg)
      rw [if_pos (by rw [wantedG rfl (by rfl) xg]; decide)]
      clear lg xg xg'
      obtain ⟨e1, e1'⟩ := hAt.slot 1 (by kernel_rfl) (by rfl)
      go_simp
      exact hK _ w5 (Below.refl _ _) HI.out rfl
    | 28, _ =>
      injection ho with ho
      subst ho
      have lg := hdep ⟨26, .guard⟩ (by simp) rfl
      obtain ⟨xg, xg'⟩ := hAt.dep 26 (d := 83) (by omega) lg (by rfl) (hM.fact 26 (by omega) lg)
      rw [if_pos (by rw [wantedG rfl (by rfl) xg]; decide)]
      clear lg xg xg'
      have l27 := hdep ⟨27, .data⟩ (by simp) rfl
      obtain ⟨x27, x27'⟩ := hAt.dep 27 (d := 84) (by omega) l27 (by rfl) (hM.fact 27 (by omega) l27)
      go_simp
      exact hK _ w5 (Below.refl _ _) HI.out rfl
    | 29, _ =>
      injection ho with ho
      subst ho
      rw [if_pos (wantedN rfl)]
      have l26 := hdep ⟨26, .data⟩ (by simp) rfl
      obtain ⟨x26, x26'⟩ := hAt.dep 26 (d := 83) (by omega) l26 (by rfl) (hM.fact 26 (by omega) l26)
      have l28 := hdep ⟨28, .data⟩ (by simp) rfl
      obtain ⟨x28, x28'⟩ := hAt.dep 28 (d := 85) (by omega) l28 (by rfl) (hM.fact 28 (by omega) l28)
      go_simp
      exact hK _ w5 (Below.refl _ _) HI.out rfl
    | 30, _ =>
      injection ho with ho
      subst ho
      rw [if_pos (wantedN rfl)]
      have l29 := hdep ⟨29, .data⟩ (by simp) rfl
      obtain ⟨x29, x29'⟩ := hAt.dep 29 (d := 86) (by omega) l29 (by rfl) (hM.fact 29 (by omega) l29)
      go_simp
      exact hK _ w5 (Below.refl _ _) HI.out rfl
    | 31, _ =>
      injection ho with ho
      subst ho
      have lg := hdep ⟨30, .guard⟩ (by simp) rfl
      obtain ⟨xg, xg'⟩ := hAt.dep 30 (d := 87) (by omega) lg (by rfl) (hM.fact 30 (by omega) lg)
      rw [if_pos (by rw [wantedG rfl (by rfl) xg]; decide)]
      clear lg xg xg'
      obtain ⟨e3, e3'⟩ := hAt.slot 3 (by kernel_rfl) (by rfl)
      have q0 := HI.out.at_ l3 s30
      have q1 := HI.out.at_ l3 s31
      go_simp
      exact hK _ w5 (Below.refl _ _) HI.out rfl
    | 32, _ =>
      injection ho with ho
      subst ho
      have lg := hdep ⟨30, .guard⟩ (by simp) rfl
      obtain ⟨xg, xg'⟩ := hAt.dep 30 (d := 87) (by omega) lg (by rfl) (hM.fact 30 (by omega) lg)
      rw [if_pos (by rw [wantedG rfl (by rfl) xg]; decide)]
      clear lg xg xg'
      go_simp
      refine (lspan_any 51 90 w5).mono ?_
      rintro e w6 ⟨rfl, hb6⟩
      exact hK _ w6 hb6 (HI.out.trans (hb6.mono HI.out.size)) rfl
    | 33, _ =>
      injection ho with ho
      subst ho
      have lg := hdep ⟨30, .guard⟩ (by simp) rfl
      obtain ⟨xg, xg'⟩ := hAt.dep 30 (d := 87) (by omega) lg (by rfl) (hM.fact 30 (by omega) lg)
      rw [if_pos (by rw [wantedG rfl (by rfl) xg]; decide)]
      clear lg xg xg'
      have l31 := hdep ⟨31, .data⟩ (by simp) rfl
      obtain ⟨x31, x31'⟩ := hAt.dep 31 (d := 88) (by omega) l31 (by rfl) (hM.fact 31 (by omega) l31)
      have l32 := hdep ⟨32, .data⟩ (by simp) rfl
      obtain ⟨x32, x32'⟩ := hAt.dep 32 (d := 89) (by omega) l32 (by rfl) (hM.fact 32 (by omega) l32)
      go_simp
      exact hK _ w5 (Below.refl _ _) HI.out rfl
    | 34, _ =>
      injection ho with ho
      subst ho
      rw [if_pos (wantedN rfl)]
      have l30 := hdep ⟨30, .data⟩ (by simp) rfl
      obtain ⟨x30, x30'⟩ := hAt.dep 30 (d := 87) (by omega) l30 (by rfl) (hM.fact 30 (by omega) l30)
      have l33 := hdep ⟨33, .data⟩ (by simp) rfl
      obtain ⟨x33, x33'⟩ := hAt.dep 33 (d := 90) (by omega) l33 (by rfl) (hM.fact 33 (by omega) l33)
      go_simp
      exact hK _ w5 (Below.refl _ _) HI.out rfl
    | 35, _ =>
      injection ho with ho
      subst ho
      rw [if_pos (wantedN rfl)]
      have l34 := hdep ⟨34, .data⟩ (by simp) rfl
      obtain ⟨x34, x34'⟩ := hAt.dep 34 (d := 91) (by omega) l34 (by rfl) (hM.fact 34 (by omega) l34)
      go_simp
      exact hK _ w5 (Below.refl _ _) HI.out rfl
    | 36, _ =>
      injection ho with ho
      subst ho
      have lg := hdep ⟨35, .guard⟩ (by simp) rfl
      obtain ⟨xg, xg'⟩ := hAt.dep 35 (d := 92) (by omega) lg (by rfl) (hM.fact 35 (by omega) lg)
      rw [if_pos (by rw [wantedG rfl (by rfl) xg]; decide)]
      clear lg xg xg'
      obtain ⟨e5, e5'⟩ := hAt.slot 5 (by kernel_rfl) (by rfl)
      have q0 := HI.out.at_ l5 s50
      have q1 := HI.out.at_ l5 s51
      go_simp
      exact hK _ w5 (Below.refl _ _) HI.out rfl
    | 37, _ =>
      injection ho with ho
      subst ho
      have lg := hdep ⟨35, .guard⟩ (by simp) rfl
      obtain ⟨xg, xg'⟩ := hAt.dep 35 (d := 92) (by omega) lg (by rfl) (hM.fact 35 (by omega) lg)
      rw [if_pos (by rw [wantedG rfl (by rfl) xg]; decide)]
      clear lg xg xg'
      go_simp
      refine (lspan_any 4 5 w5).mono ?_
      rintro e w6 ⟨rfl, hb6⟩
      exact hK _ w6 hb6 (HI.out.trans (hb6.mono HI.out.size)) rfl
    | 38, _ =>
      injection ho with ho
      subst ho
      have lg := hdep ⟨35, .guard⟩ (by simp) rfl
      obtain ⟨xg, xg'⟩ := hAt.dep 35 (d := 92) (by omega) lg (by rfl) (hM.fact 35 (by omega) lg)
      rw [if_pos (by rw [wantedG rfl (by rfl) xg]; decide)]
      clear lg xg xg'
      have l36 := hdep ⟨36, .data⟩ (by simp) rfl
      obtain ⟨x36, x36'⟩ := hAt.dep 36 (d := 93) (by omega) l36 (by rfl) (hM.fact 36 (by omega) l36)
      have l37 := hdep ⟨37, .data⟩ (by simp) rfl
      obtain ⟨x37, x37'⟩ := hAt.dep 37 (d := 94) (by omega) l37 (by rfl) (hM.fact 37 (by omega) l37)
      go_simp
      exact hK _ w5 (Below.refl _ _) HI.out rfl
    | 39, _ =>
      injection ho with ho
      subst ho
      rw [if_pos (wantedN rfl)]
      have l35 := hdep ⟨35, .data⟩ (by simp) rfl
      obtain ⟨x35, x35'⟩ := hAt.dep 35 (d := 92) (by omega) l35 (by rfl) (hM.fact 35 (by omega) l35)
      have l38 := hdep ⟨38, .data⟩ (by simp) rfl
      obtain ⟨x38, x38'⟩ := hAt.dep 38 (d := 95) (by omega) l38 (by rfl) (hM.fact 38 (by omega) l38)
      go_simp
      exact hK _ w5 (Below.refl _ _) HI.out rfl
    | 40, _ =>
      injection ho with ho
      subst ho
      rw [if_pos (wantedN rfl)]
      have l39 := hdep ⟨39, .data⟩ (by simp) rfl
      obtain ⟨x39, x39'⟩ := hAt.dep 39 (d := 96) (by omega) l39 (by rfl) (hM.fact 39 (by omega) l39)
      go_simp
      exact hK _ w5 (Below.refl _ _) HI.out rfl
    | 41, _ =>
      injection ho with ho
      subst ho
      have lg := hdep ⟨40, .guard⟩ (by simp) rfl
      obtain ⟨xg, xg'⟩ := hAt.dep 40 (d := 97) (by omega) lg (by rfl) (hM.fact 40 (by omega) lg)
      rw [if_pos (by rw [wantedG rfl (by rfl) xg]; decide)]
      clear lg xg xg'
      obtain ⟨e7, e7'⟩ := hAt.slot 7 (by kernel_rfl) (by rfl)
      have q0 := HI.out.at_ l7 s70
      have q1 := HI.out.at_ l7 s71
      go_simp
      exact hK _ w5 (Below.refl _ _) HI.out rfl
    | 42, _ =>
      injection ho with ho
      subst ho
      have lg := hdep ⟨40, .guard⟩ (by simp) rfl
      obtain ⟨xg, xg'⟩ := hAt.dep 40 (d := 97) (by omega) lg (by rfl) (hM.fact 40 (by omega) lg)
      rw [if_pos (by rw [wantedG rfl (by rfl) xg]; decide)]
      clear lg xg xg'
      go_simp
      refine (lspan_any 4 8 w5).mono ?_
      rintro e w6 ⟨rfl, hb6⟩
      exact hK _ w6 hb6 (HI.out.trans (hb6.mono HI.out.size)) rfl
    | 43, _ =>
      injection ho with ho
      subst ho
      have lg := hdep ⟨40, .guard⟩ (by simp) rfl
      obtain ⟨xg, xg'⟩ := hAt.dep 40 (d := 97) (by omega) lg (by rfl) (hM.fact 40 (by omega) lg)
      rw [if_pos (by rw [wantedG rfl (by rfl) xg]; decide)]
      clear lg xg xg'
      have l41 := hdep ⟨41, .data⟩ (by simp) rfl
      obtain ⟨x41, x41'⟩ := hAt.dep 41 (d := 98) (by omega) l41 (by rfl) (hM.fact 41 (by omega) l41)
      have l42 := hdep ⟨42, .data⟩ (by simp) rfl
      obtain ⟨x42, x42'⟩ := hAt.dep 42 (d := 99) (by omega) l42 (by rfl) (hM.fact 42 (by omega) l42)
      go_simp
      exact hK _ w5 (Below.refl _ _) HI.out rfl
    | 44, _ =>
      injection ho with ho
      subst ho
      rw [if_pos (wantedN rfl)]
      have l40 := hdep ⟨40, .data⟩ (by simp) rfl
      obtain ⟨x40, x40'⟩ := hAt.dep 40 (d := 97) (by omega) l40 (by rfl) (hM.fact 40 (by omega) l40)
      have l43 := hdep ⟨43, .data⟩ (by simp) rfl
      obtain ⟨x43, x43'⟩ := hAt.dep 43 (d := 100) (by omega) l43 (by rfl) (hM.fact 43 (by omega) l43)
      go_simp
      exact hK _ w5 (Below.refl _ _) HI.out rfl
    | 45, _ =>
      injection ho with ho
      subst ho
      rw [if_pos (wantedN rfl)]
      have l44 := hdep ⟨44, .data⟩ (by simp) rfl
      obtain ⟨x44, x44'⟩ := hAt.dep 44 (d := 101) (by omega) l44 (by rfl) (hM.fact 44 (by omega) l44)
      go_simp
      exact hK _ w5 (Below.refl _ _) HI.out rfl
    | 46, _ =>
      injection ho with ho
      subst ho
      have lg := hdep ⟨45, .guard⟩ (by simp) rfl
      obtain ⟨xg, xg'⟩ := hAt.dep 45 (d := 102) (by omega) lg (by rfl) (hM.fact 45 (by omega) lg)
      rw [if_pos (by rw [wantedG rfl (by rfl) xg]; decide)]
      clear lg xg xg'
      obtain ⟨e9, e9'⟩ := hAt.slot 9 (by kernel_rfl) (by rfl)
      go_simp
      exact hK _ w5 (Below.refl _ _) HI.out rfl
    | 47, _ =>
      injection ho with ho
      subst ho
      have lg := hdep ⟨45, .guard⟩ (by simp) rfl
      obtain ⟨xg, xg'⟩ := hAt.dep 45 (d := 102) (by omega) lg (by rfl) (hM.fact 45 (by omega) lg)
      rw [if_pos (by rw [wantedG rfl (by rfl) xg]; decide)]
      clear lg xg xg'
      have l46 := hdep ⟨46, .data⟩ (by simp) rfl
      obtain ⟨x46, x46'⟩ := hAt.dep 46 (d := 103) (by omega) l46 (by rfl) (hM.fact 46 (by omega) l46)
      go_simp
      exact hK _ w5 (Below.refl _ _) HI.out rfl
    | 48, _ =>
      injection ho with ho
      subst ho
      rw [if_pos (wantedN rfl)]
      have l45 := hdep ⟨45, .data⟩ (by simp) rfl
      obtain ⟨x45, x45'⟩ := hAt.dep 45 (d := 102) (by omega) l45 (by rfl) (hM.fact 45 (by omega) l45)
      have l47 := hdep ⟨47, .data⟩ (by simp) rfl
      obtain ⟨x47, x47'⟩ := hAt.dep 47 (d := 104) (by omega) l47 (by rfl) (hM.fact 47 (by omega) l47)
      go_simp
      exact hK _ w5 (Below.refl _ _) HI.out rfl
    | 49, _ =>
      injection ho with ho
      subst ho
      rw [if_pos (wantedN rfl)]
      have l48 := hdep ⟨48, .data⟩ (by simp) rfl
      obtain ⟨x48, x48'⟩ := hAt.dep 48 (d := 105) (by omega) l48 (by rfl) (hM.fact 48 (by omega) l48)
      go_simp
      exact hK _ w5 (Below.refl _ _) HI.out rfl
    | 50, _ =>
      injection ho with ho
      subst ho
      have lg := hdep ⟨49, .guard⟩ (by simp) rfl
      obtain ⟨xg, xg'⟩ := hAt.dep 49 (d := 106) (by omega) lg (by rfl) (hM.fact 49 (by omega) lg)
      rw [if_pos (by rw [wantedG rfl (by rfl) xg]; decide)]
      clear lg xg xg'
      obtain ⟨e11, e11'⟩ := hAt.slot 11 (by kernel_rfl) (by rfl)
      go_simp
      exact hK _ w5 (Below.refl _ _) HI.out rfl
    | 51, _ =>
      injection ho with ho
      subst ho
      have lg := hdep ⟨49, .guard⟩ (by simp) rfl
      obtain ⟨xg, xg'⟩ := hAt.dep 49 (d := 106) (by omega) lg (by rfl) (hM.fact 49 (by omega) lg)
      rw [if_pos (by rw [wantedG rfl (by rfl) xg]; decide)]
      clear lg xg xg'
      go_simp
      exact hK _ _ (below_new _ _) (HI.out.alloc HI.out.size _) ⟨w5.heap.size, rfl, HI.out.size, Blk.new w5 [.int .i64 2] _⟩
    | 52, _ =>
      injection ho with ho
      subst ho
      have lg := hdep ⟨49, .guard⟩ (by simp) rfl
      obtain ⟨xg, xg'⟩ := hAt.dep 49 (d := 106) (by omega) lg (by rfl) (hM.fact 49 (by omega) lg)
      rw [if_pos (by rw [wantedG rfl (by rfl) xg]; decide)]
      clear lg xg xg'
      have l50 := hdep ⟨50, .data⟩ (by simp) rfl
      obtain ⟨x50, x50'⟩ := hAt.dep 50 (d := 107) (by omega) l50 (by rfl) (hM.fact 50 (by omega) l50)
      have l51 := hdep ⟨51, .data⟩ (by simp) rfl
      obtain ⟨k51, f51, g51, h51⟩ := hM.fact 51 (by omega) l51
      obtain ⟨x51, x51'⟩ := hAt.dep 51 (d := 108) (by omega) l51 (by rfl) f51
      go_simp
      refine ((alikeX (l := [2]) rfl (R7.out.next HI.out) (h51.rd) (by decide)).out).mono ?_
      rintro e w6 ⟨rfl, hb6⟩
      exact hK _ w6 hb6 (HI.out.trans (hb6.mono HI.out.size)) rfl
    | 53, _ =>
      injection ho with ho
      subst ho
      have lg := hdep ⟨49, .guard⟩ (by simp) rfl
      obtain ⟨xg, xg'⟩ := hAt.dep 49 (d := 106) (by omega) lg (by rfl) (hM.fact 49 (by omega) lg)
      rw [if_pos (by rw [wantedG rfl (by rfl) xg]; decide)]
      clear lg xg xg'
      have l52 := hdep ⟨52, .data⟩ (by simp) rfl
      obtain ⟨x52, x52'⟩ := hAt.dep 52 (d := 109) (by omega) l52 (by rfl) (hM.fact 52 (by omega) l52)
      go_simp
      exact hK _ w5 (Below.refl _ _) HI.out rfl
    | 54, _ =>
      injection ho with ho
      subst ho
      rw [if_pos (wantedN rfl)]
      have l49 := hdep ⟨49, .data⟩ (by simp) rfl
      obtain ⟨x49, x49'⟩ := hAt.dep 49 (d := 106) (by omega) l49 (by rfl) (hM.fact 49 (by omega) l49)
      have l53 := hdep ⟨53, .data⟩ (by simp) rfl
      obtain ⟨x53, x53'⟩ := hAt.dep 53 (d := 110) (by omega) l53 (by rfl) (hM.fact 53 (by omega) l53)
      go_simp
      exact hK _ w5 (Below.refl _ _) HI.out rfl
    | 55, _ =>
      injection ho with ho
      subst ho
      rw [if_pos (wantedN rfl)]
      have l54 := hdep ⟨54, .data⟩ (by simp) rfl
      obtain ⟨x54, x54'⟩ := hAt.dep 54 (d := 111) (by omega) l54 (by rfl) (hM.fact 54 (by omega) l54)
      go_simp
      exact hK _ w5 (Below.refl _ _) HI.out rfl
    | 56, _ =>
      injection ho with ho
      subst ho
      have lg := hdep ⟨55, .guard⟩ (by simp) rfl
      obtain ⟨xg, xg'⟩ := hAt.dep 55 (d := 112) (by omega) lg (by rfl) (hM.fact 55 (by omega) lg)
      rw [if_pos (by rw [wantedG rfl (by rfl) xg]; decide)]
      clear lg xg xg'
      obtain ⟨e13, e13'⟩ := hAt.slot 13 (by kernel_rfl) (by rfl)
      go_simp
      exact hK _ w5 (Below.refl _ _) HI.out rfl
    | 57, _ =>
      injection ho with ho
      subst ho
      have lg := hdep ⟨55, .guard⟩ (by simp) rfl
      obtain ⟨xg, xg'⟩ := hAt.dep 55 (d := 112) (by omega) lg (by rfl) (hM.fact 55 (by omega) lg)
      rw [if_pos (by rw [wantedG rfl (by rfl) xg]; decide)]
      clear lg xg xg'
      go_simp
      exact hK _ _ (below_new _ _) (HI.out.alloc HI.out.size _) ⟨w5.heap.size, rfl, HI.out.size, Blk.new w5 [.int .i64 1, .int .i64 2] _⟩
    | 58, _ =>
      injection ho with ho
      subst ho
      have lg := hdep ⟨55, .guard⟩ (by simp) rfl
      obtain ⟨xg, xg'⟩ := hAt.dep 55 (d := 112) (by omega) lg (by rfl) (hM.fact 55 (by omega) lg)
      rw [if_pos (by rw [wantedG rfl (by rfl) xg]; decide)]
      clear lg xg xg'
      have l56 := hdep ⟨56, .data⟩ (by simp) rfl
      obtain ⟨x56, x56'⟩ := hAt.dep 56 (d := 113) (by omega) l56 (by rfl) (hM.fact 56 (by omega) l56)
      have l57 := hdep ⟨57, .data⟩ (by simp) rfl
      obtain ⟨k57, f57, g57, h57⟩ := hM.fact 57 (by omega) l57
      obtain ⟨x57, x57'⟩ := hAt.dep 57 (d := 114) (by omega) l57 (by rfl) f57
      go_simp
      refine ((alikeX (l := [1, 2]) rfl (R8.out.next HI.out) (h57.rd) (by decide)).out).mono ?_
      rintro e w6 ⟨rfl, hb6⟩
      exact hK _ w6 hb6 (HI.out.trans (hb6.mono HI.out.size)) rfl
    | 59, _ =>
      injection ho with ho
      subst ho
      have lg := hdep ⟨55, .guard⟩ (by simp) rfl
      obtain ⟨xg, xg'⟩ := hAt.dep 55 (d := 112) (by omega) lg (by rfl) (hM.fact 55 (by omega) lg)
      rw [if_pos (by rw [wantedG rfl (by rfl) xg]; decide)]
      clear lg xg xg'
      have l58 := hdep ⟨58, .data⟩ (by simp) rfl
      obtain ⟨x58, x58'⟩ := hAt.dep 58 (d := 115) (by omega) l58 (by rfl) (hM.fact 58 (by omega) l58)
      go_simp
      exact hK _ w5 (Below.refl _ _) HI.out rfl
    | 60, _ =>
      injection ho with ho
      subst ho
      rw [if_pos (wantedN rfl)]
      have l55 := hdep ⟨55, .data⟩ (by simp) rfl
      obtain ⟨x55, x55'⟩ := hAt.dep 55 (d := 112) (by omega) l55 (by rfl) (hM.fact 55 (by omega) l55)
      have l59 := hdep ⟨59, .data⟩ (by simp) rfl
      obtain ⟨x59, x59'⟩ := hAt.dep 59 (d := 116) (by omega) l59 (by rfl) (hM.fact 59 (by omega) l59)
      go_simp
      exact hK _ w5 (Below.refl _ _) HI.out rfl
    | jq + 61, hq => exact absurd hq (by omega)
  · intro vals w5 hM
    have HI := Lib.hid hM.inv
    have f0 : vals 0 = .int .i64 0 := hM.all (by decide) 0 (by omega)
    have f1 : vals 1 = .bool false := hM.all (by decide) 1 (by omega)
    have f2 : vals 2 = .bool false := hM.all (by decide) 2 (by omega)
    have f3 : vals 3 = .int .i64 0 := hM.all (by decide) 3 (by omega)
    have f4 : vals 4 = .bool false := hM.all (by decide) 4 (by omega)
    have f5 : vals 5 = .bool false := hM.all (by decide) 5 (by omega)
    have f6 : vals 6 = .bool false := hM.all (by decide) 6 (by omega)
    have f7 : vals 7 = .int .i64 0 := hM.all (by decide) 7 (by omega)
    have f8 : vals 8 = .bool false := hM.all (by decide) 8 (by omega)
    have f9 : vals 9 = .bool false := hM.all (by decide) 9 (by omega)
    have f10 : vals 10 = .bool false := hM.all (by decide) 10 (by omega)
    have f11 : vals 11 = .int .i64 0 := hM.all (by decide) 11 (by omega)
    have f12 : vals 12 = .bool false := hM.all (by decide) 12 (by omega)
    have f13 : vals 13 = .bool false := hM.all (by decide) 13 (by omega)
    have f14 : vals 14 = .bool false := hM.all (by decide) 14 (by omega)
    have f15 : vals 15 = .int .i64 0 := hM.all (by decide) 15 (by omega)
    have f16 : vals 16 = .bool false := hM.all (by decide) 16 (by omega)
    have f17 : vals 17 = .bool false := hM.all (by decide) 17 (by omega)
    have f18 : vals 18 = .bool false := hM.all (by decide) 18 (by omega)
    have f19 : vals 19 = .int .i64 0 := hM.all (by decide) 19 (by omega)
    have f20 : vals 20 = .bool false := hM.all (by decide) 20 (by omega)
    have f21 : vals 21 = .bool false := hM.all (by decide) 21 (by omega)
    have f22 : vals 22 = .bool false := hM.all (by decide) 22 (by omega)
    have f23 : vals 23 = .int .i64 0 := hM.all (by decide) 23 (by omega)
    have f24 : vals 24 = .bool false := hM.all (by decide) 24 (by omega)
    have f25 : vals 25 = .bool false := hM.all (by decide) 25 (by omega)
    have f26 : vals 26 = .bool false := hM.all (by decide) 26 (by omega)
    have f27 : vals 27 = .int .i64 1 := hM.all (by decide) 27 (by omega)
    have f28 : vals 28 = .bool false := hM.all (by decide) 28 (by omega)
    have f29 : vals 29 = .bool false := hM.all (by decide) 29 (by omega)
    have f30 : vals 30 = .bool false := hM.all (by decide) 30 (by omega)
    have f31 : vals 31 = .agg #[.int .i64 51, .int .i64 90] := hM.all (by decide) 31 (by omega)
    have f32 : vals 32 = .agg #[.int .i64 51, .int .i64 90] := hM.all (by decide) 32 (by omega)
    have f33 : vals 33 = .bool false := hM.all (by decide) 33 (by omega)
    have f34 : vals 34 = .bool false := hM.all (by decide) 34 (by omega)
    have f35 : vals 35 = .bool false := hM.all (by decide) 35 (by omega)
    have f36 : vals 36 = .agg #[.int .i64 4, .int .i64 5] := hM.all (by decide) 36 (by omega)
    have f37 : vals 37 = .agg #[.int .i64 4, .int .i64 5] := hM.all (by decide) 37 (by omega)
    have f38 : vals 38 = .bool false := hM.all (by decide) 38 (by omega)
    have f39 : vals 39 = .bool false := hM.all (by decide) 39 (by omega)
    have f40 : vals 40 = .bool false := hM.all (by decide) 40 (by omega)
    have f41 : vals 41 = .agg #[.int .i64 4, .int .i64 8] := hM.all (by decide) 41 (by omega)
    have f42 : vals 42 = .agg #[.int .i64 4, .int .i64 8] := hM.all (by decide) 42 (by omega)
    have f43 : vals 43 = .bool false := hM.all (by decide) 43 (by omega)
    have f44 : vals 44 = .bool false := hM.all (by decide) 44 (by omega)
    have f45 : vals 45 = .bool false := hM.all (by decide) 45 (by omega)
    have f46 : vals 46 = .bool true := hM.all (by decide) 46 (by omega)
    have f47 : vals 47 = .bool false := hM.all (by decide) 47 (by omega)
    have f48 : vals 48 = .bool false := hM.all (by decide) 48 (by omega)
    have f49 : vals 49 = .bool false := hM.all (by decide) 49 (by omega)
    have f50 : vals 50 = .slice AW 1 cW := hM.all (by decide) 50 (by omega)
    obtain ⟨k51, f51, g51, h51⟩ := hM.all (by decide) 51 (by omega)
    have f52 : vals 52 = .bool true := hM.all (by decide) 52 (by omega)
    have f53 : vals 53 = .bool false := hM.all (by decide) 53 (by omega)
    have f54 : vals 54 = .bool false := hM.all (by decide) 54 (by omega)
    have f55 : vals 55 = .bool false := hM.all (by decide) 55 (by omega)
    have f56 : vals 56 = .slice AC 2 cC := hM.all (by decide) 56 (by omega)
    obtain ⟨k57, f57, g57, h57⟩ := hM.all (by decide) 57 (by omega)
    have f58 : vals 58 = .bool true := hM.all (by decide) 58 (by omega)
    have f59 : vals 59 = .bool false := hM.all (by decide) 59 (by omega)
    have f60 : vals 60 = .bool false := hM.all (by decide) 60 (by omega)
    clear hM
    simp only [putAll, List.range, List.range.loop, List.foldl_cons, List.foldl_nil, f0, f1, f2, f3, f4, f5, f6, f7, f8, f9, f10, f11, f12, f13, f14, f15, f16, f17, f18, f19, f20, f21, f22, f23, f24, f25, f26, f27, f28, f29, f30, f31, f32, f33, f34, f35, f36, f37, f38, f39, f40, f41, f42, f43, f44, f45, f46, f47, f48, f49, f50, f51, f52, f53, f54, f55, f56, f57, f58, f59, f60]
    clear f0 f1 f2 f3 f4 f5 f6 f7 f8 f9 f10 f11 f12 f13 f14 f15 f16 f17 f18 f19 f20 f21 f22 f23 f24 f25 f26 f27 f28 f29 f30 f31 f32 f33 f34 f35 f36 f37 f38 f39 f40 f41 f42 f43 f44 f45 f46 f47 f48 f49 f50 f51 f52 f53 f54 f55 f56 f57 f58 f59 f60
    change wpAny _ _ _ _ _ _ (Act.put (Act.put (Act.put (Act.put (Act.put (Act.put (Act.put (Act.put (Act.put (Act.put (Act.put (Act.put (Act.put (Act.put (Act.put (Act.put (Act.put (Act.put (Act.put (Act.put (Act.put (Act.put (Act.put (Act.put (Act.put (Act.put (Act.put (Act.put (Act.put (Act.put (Act.put (Act.put (Act.put (Act.put (Act.put (Act.put (Act.put (Act.put (Act.put (Act.put (Act.put (Act.put (Act.put (Act.put (Act.put (Act.put (Act.put (Act.put (Act.put (Act.put (Act.put (Act.put (Act.put (Act.put (Act.put (Act.put (Act.put (Act.put (Act.put (Act.put (Act.put _ (some 57) _) (some 58) _) (some 59) _) (some 60) _) (some 61) _) (some 62) _) (some 63) _) (some 64) _) (some 65) _) (some 66) _) (some 67) _) (some 68) _) (some 69) _) (some 70) _) (some 71) _) (some 72) _) (some 73) _) (some 74) _) (some 75) _) (some 76) _) (some 77) _) (some 78) _) (some 79) _) (some 80) _) (some 81) _) (some 82) _) (some 83) _) (some 84) _) (some 85) _) (some 86) _) (some 87) _) (some 88) _) (some 89) _) (some 90) _) (some 91) _) (some 92) _) (some 93) _) (some 94) _) (some 95) _) (some 96) _) (some 97) _) (some 98) _) (some 99) _) (some 100) _) (some 101) _) (some 102) _) (some 103) _) (some 104) _) (some 105) _) (some 106) _) (some 107) _) (some 108) _) (some 109) _) (some 110) _) (some 111) _) (some 112) _) (some 113) _) (some 114) _) (some 115) _) (some 116) _) (some 117) _) _
    simp only [Act.put, List.setIfInBounds_toArray, List.set_cons_zero, List.set_cons_succ]
    refine wpAny_done (by kernel_rfl) ?_ _
    have HB := Lib.hid (HB.out.trans (HI.out.mono HB.out.size))
    clear HI R7 R8 s30 s31 l3 s50 s51 l5 s70 s71 l7
    go_wp2_with fail
    refine (Two_any w5).mono ?_
    rintro e a8 ⟨⟨A8, B8, rfl, hA8, hB8, hT8, hK8⟩, hb⟩
    have HB := Lib.hid (HB.out.trans (hb.mono HB.out.size))
    have hT8 := Lib.hid hT8
    clear hK8
    clear hb
    go_wp2_with fail
    refine (netX hT8.out).out.mono ?_
    rintro e b8 ⟨rfl, hb⟩
    have HB := Lib.hid (HB.out.trans (hb.mono HB.out.size))
    clear hb
    clear hT8
    go_wp2_with fail
    have hb := below_new b8 (.cells #[.int .i64 1786, .int .i64 1804] 36)
    have S15 := Lib.hid (Blk.new b8 [.int .i64 1786, .int .i64 1804] 36)
    obtain ⟨c8, hc⟩ : ∃ c, b8.alloc (.cells #[.int .i64 1786, .int .i64 1804] 36) = c := ⟨_, rfl⟩
    obtain ⟨n15, hn⟩ : ∃ n, b8.heap.size = n := ⟨_, rfl⟩
    change Hid (Blk (b8.alloc (.cells #[.int .i64 1786, .int .i64 1804] 36)) _ _) at S15
    rw [hc] at hb S15 ⊢
    rw [hn] at S15 ⊢
    have HB := Lib.hid (HB.out.trans (hb.mono HB.out.size))
    clear hb hc hn
    refine (Two_any c8).mono ?_
    rintro e a9 ⟨⟨A9, B9, rfl, hA9, hB9, hT9, hK9⟩, hb⟩
    have HB := Lib.hid (HB.out.trans (hb.mono HB.out.size))
    have S15 := blk_at S15 hb
    have hT9 := Lib.hid hT9
    clear hK9
    clear hb
    go_wp2_with fail
    refine (totalX hT9.out).out.mono ?_
    rintro e b9 ⟨rfl, hb⟩
    have HB := Lib.hid (HB.out.trans (hb.mono HB.out.size))
    have S15 := blk_at S15 hb
    clear hb
    clear hT9
    go_wp2_with fail
    have hb := below_new b9 (.cells #[.int .i64 1785, .int .i64 1811] 36)
    have S16 := Lib.hid (Blk.new b9 [.int .i64 1785, .int .i64 1811] 36)
    obtain ⟨c9, hc⟩ : ∃ c, b9.alloc (.cells #[.int .i64 1785, .int .i64 1811] 36) = c := ⟨_, rfl⟩
    obtain ⟨n16, hn⟩ : ∃ n, b9.heap.size = n := ⟨_, rfl⟩
    change Hid (Blk (b9.alloc (.cells #[.int .i64 1785, .int .i64 1811] 36)) _ _) at S16
    rw [hc] at hb S16 ⊢
    rw [hn] at S16 ⊢
    have HB := Lib.hid (HB.out.trans (hb.mono HB.out.size))
    have S15 := blk_at S15 hb
    clear hb hc hn
    have l15 := S15.out.lt
    have l16 := S16.out.lt
    have hwz := HB.out.size
    refine (Two_any c9).mono ?_
    rintro e a10 ⟨⟨A10, B10, rfl, hA10, hB10, hT10, hK10⟩, hb⟩
    have HB := Lib.hid (HB.out.trans (hb.mono HB.out.size))
    have S15 := blk_at S15 hb
    have S16 := blk_at S16 hb
    have hT10 := Lib.hid hT10
    have hK10 := Lib.hid hK10
    clear hb
    have k3 := hK10.out.cells 3 _ rfl
    have f3 := hK10.out.free 3
    have kl := hK10.out.lt
    unfold bkV
    go_wp2_with fail
    have hT := twoU_set hT10.out hK10.out hB10
    have hbs : Below w.heap.size w (a10.setCell ⟨B10, 3, none⟩ (.int .i64 1)) := HB.out.setCell (p := ⟨B10, 3, none⟩) (by show w.heap.size ≤ B10; omega) _
    have S15 : Hid (Blk (a10.setCell ⟨B10, 3, none⟩ (.int .i64 1)) n15 [.int .i64 1786, .int .i64 1804]) := Lib.hid (S15.out.block (by simp [World.setCell]) (heap_far (by omega)))
    have S16 : Hid (Blk (a10.setCell ⟨B10, 3, none⟩ (.int .i64 1)) n16 [.int .i64 1785, .int .i64 1811]) := Lib.hid (S16.out.block (by simp [World.setCell]) (heap_far (by omega)))
    obtain ⟨d10, hd⟩ : ∃ d, a10.setCell ⟨B10, 3, none⟩ (.int .i64 1) = d := ⟨_, rfl⟩
    rw [hd] at hT hbs S15 S16 ⊢
    have hb := below_new d10 (.cells #[.int .i64 2, .int .i64 2, .slice (some ⟨A10, 0, none⟩) 3 3, .slice (some ⟨B10, 0, none⟩) 1 1] 26)
    have hT10 := Lib.hid (hT.next hb)
    have S15 := blk_at S15 hb
    have S16 := blk_at S16 hb
    have HB := Lib.hid (hbs.trans (hb.mono hbs.size))
    obtain ⟨e10, he⟩ : ∃ d, d10.alloc (.cells #[.int .i64 2, .int .i64 2, .slice (some ⟨A10, 0, none⟩) 3 3, .slice (some ⟨B10, 0, none⟩) 1 1] 26) = d := ⟨_, rfl⟩
    rw [he] at hT10 S15 S16 HB ⊢
    clear hT hbs hb hd he k3 f3 kl hK10 l15 l16 hwz hA10 hB10
    refine (netU hT10.out).out.mono ?_
    rintro e b10 ⟨rfl, hb⟩
    have HB := Lib.hid (HB.out.trans (hb.mono HB.out.size))
    have S15 := blk_at S15 hb
    have S16 := blk_at S16 hb
    clear hb
    clear hT10
    go_wp2_with fail
    have hb := below_new b10 (.cells #[.int .i64 1731, .int .i64 1850] 36)
    have S18 := Lib.hid (Blk.new b10 [.int .i64 1731, .int .i64 1850] 36)
    obtain ⟨c10, hc⟩ : ∃ c, b10.alloc (.cells #[.int .i64 1731, .int .i64 1850] 36) = c := ⟨_, rfl⟩
    obtain ⟨n18, hn⟩ : ∃ n, b10.heap.size = n := ⟨_, rfl⟩
    change Hid (Blk (b10.alloc (.cells #[.int .i64 1731, .int .i64 1850] 36)) _ _) at S18
    rw [hc] at hb S18 ⊢
    rw [hn] at S18 ⊢
    have HB := Lib.hid (HB.out.trans (hb.mono HB.out.size))
    have S15 := blk_at S15 hb
    have S16 := blk_at S16 hb
    have hz10 : c10.heap.size = n18 + 1 := by rw [← hc, ← hn]; simp
    clear hb hc hn
    have hb := below_new c10 (.cells #[.int .i64 9, .int .i64 (-2)] 82)
    have hq := (Blk.new c10 [.int .i64 9, .int .i64 (-2)] 82).rd
    change Rd (c10.alloc (.cells #[.int .i64 9, .int .i64 (-2)] 82)) _ _ _ at hq
    obtain ⟨c11, hc⟩ : ∃ c, c10.alloc (.cells #[.int .i64 9, .int .i64 (-2)] 82) = c := ⟨_, rfl⟩
    rw [hc] at hb hq ⊢
    rw [hz10] at hq
    have HQ := Lib.hid hq
    have HB := Lib.hid (HB.out.trans (hb.mono HB.out.size))
    have S15 := blk_at S15 hb
    have S16 := blk_at S16 hb
    have S18 := blk_at S18 hb
    clear hb hc hq
    refine (valueX HQ.out).out.mono ?_
    rintro e W20 ⟨rfl, hb⟩
    have HB := Lib.hid (HB.out.trans (hb.mono HB.out.size))
    have S15 := blk_at S15 hb
    have S16 := blk_at S16 hb
    have S18 := blk_at S18 hb
    clear hb
    clear HQ
    have s150 := S15.out.cells 0 _ rfl
    have s151 := S15.out.cells 1 _ rfl
    have l15 := S15.out.lt
    have s160 := S16.out.cells 0 _ rfl
    have s161 := S16.out.cells 1 _ rfl
    have l16 := S16.out.lt
    have s180 := S18.out.cells 0 _ rfl
    have s181 := S18.out.cells 1 _ rfl
    have l18 := S18.out.lt
    clear S15 S16 S18
    go_wp2_with fail
    refine wp_invT 34 (by kernel_rfl) (by kernel_rfl) (by kernel_rfl) (by decide) (FL [PEq (.int .i64 0), PEq (.bool true), PEq (.bool true), PEq (.int .i64 0), PEq (.bool true), PEq (.bool true), PEq (.bool true), PEq (.int .i64 0), PEq (.bool true), PEq (.bool true), PEq (.bool true), PEq (.int .i64 0), PEq (.bool true), PEq (.bool true), PEq (.bool true), PEq (.agg #[.int .i64 1786, .int .i64 1804]), PEq (.agg #[.int .i64 1786, .int .i64 1804]), PEq (.bool true), PEq (.bool true), PEq (.bool true), PEq (.agg #[.int .i64 1785, .int .i64 1811]), PEq (.agg #[.int .i64 1785, .int .i64 1811]), PEq (.bool true), PEq (.bool true), PEq (.bool true), PEq (.agg #[.int .i64 1731, .int .i64 1850]), PEq (.agg #[.int .i64 1731, .int .i64 1850]), PEq (.bool true), PEq (.bool true), PEq (.bool true), PEq (.int .i64 (-2)), PEq (.bool true), PEq (.bool true), PEq (.bool true)])
      (fun x => Below W20.heap.size W20 x) (fun x y => Below x.heap.size x y) (FL.keepB (by simp [stbB_eq])) (below_drew W20) ?_ ?_
    · intro iq o hi' ho listed vals a w5 hdep hM hAt K hK
      have HI := Lib.hid hM.inv
      match iq, hi' with
      | 0, _ =>
        injection ho with ho
        subst ho
        rw [if_pos (wantedN rfl)]
        obtain ⟨e2, e2'⟩ := hAt.slot 2 (by kernel_rfl) (by rfl)
        go_simp
        exact hK _ w5 (Below.refl _ _) HI.out rfl
      | 1, _ =>
        injection ho with ho
        subst ho
        rw [if_pos (wantedN rfl)]
        have l0 := hdep ⟨0, .data⟩ (by simp) rfl
        obtain ⟨x0, x0'⟩ := hAt.dep 0 (d := 146) (by omega) l0 (by rfl) (hM.fact 0 (by omega) l0)
        go_simp
        exact hK _ w5 (Below.refl _ _) HI.out rfl
      | 2, _ =>
        injection ho with ho
        subst ho
        rw [if_pos (wantedN rfl)]
        have l1 := hdep ⟨1, .data⟩ (by simp) rfl
        obtain ⟨x1, x1'⟩ := hAt.dep 1 (d := 147) (by omega) l1 (by rfl) (hM.fact 1 (by omega) l1)
        go_simp
        exact hK _ w5 (Below.refl _ _) HI.out rfl
      | 3, _ =>
        injection ho with ho
        subst ho
        have lg := hdep ⟨2, .guard⟩ (by simp) rfl
        obtain ⟨xg, xg'⟩ := hAt.dep 2 (d := 148) (by omega) lg (by rfl) (hM.fact 2 (by omega) lg)
        rw [if_pos (by rw [wantedG rfl (by rfl) xg]; decide)]
        clear lg xg xg'
        obtain ⟨e4, e4'⟩ := hAt.slot 4 (by kernel_rfl) (by rfl)
        go_simp
        exact hK _ w5 (Below.refl _ _) HI.out rfl
      | 4, _ =>
        injection ho with ho
        subst ho
        have lg := hdep ⟨2, .guard⟩ (by simp) rfl
        obtain ⟨xg, xg'⟩ := hAt.dep 2 (d := 148) (by omega) lg (by rfl) (hM.fact 2 (by omega) lg)
        rw [if_pos (by rw [wantedG rfl (by rfl) xg]; decide)]
        clear lg xg xg'
        have l3 := hdep ⟨3, .data⟩ (by simp) rfl
        obtain ⟨x3, x3'⟩ := hAt.dep 3 (d := 149) (by omega) l3 (by rfl) (hM.fact 3 (by omega) l3)
        go_simp
        exact hK _ w5 (Below.refl _ _) HI.out rfl
      | 5, _ =>
        injection ho with ho
        subst ho
        rw [if_pos (wantedN rfl)]
        have l2 := hdep ⟨2, .data⟩ (by simp) rfl
        obtain ⟨x2, x2'⟩ := hAt.dep 2 (d := 148) (by omega) l2 (by rfl) (hM.fact 2 (by omega) l2)
        have l4 := hdep ⟨4, .data⟩ (by simp) rfl
        obtain ⟨x4, x4'⟩ := hAt.dep 4 (d := 150) (by omega) l4 (by rfl) (hM.fact 4 (by omega) l4)
        go_simp
        exact hK _ w5 (Below.refl _ _) HI.out rfl
      | 6, _ =>
        injection ho with ho
        subst ho
        rw [if_pos (wantedN rfl)]
        have l5 := hdep ⟨5, .data⟩ (by simp) rfl
        obtain ⟨x5, x5'⟩ := hAt.dep 5 (d := 151) (by omega) l5 (by rfl) (hM.fact 5 (by omega) l5)
        go_simp
        exact hK _ w5 (Below.refl _ _) HI.out rfl
      | 7, _ =>
        injection ho with ho
        subst ho
        have lg := hdep ⟨6, .guard⟩ (by simp) rfl
        obtain ⟨xg, xg'⟩ := hAt.dep 6 (d := 152) (by omega) lg (by rfl) (hM.fact 6 (by omega) lg)
        rw [if_pos (by rw [wantedG rfl (by rfl) xg]; decide)]
        clear lg xg xg'
        obtain ⟨e6, e6'⟩ := hAt.slot 6 (by kernel_rfl) (by rfl)
        go_simp
        exact hK _ w5 (Below.refl _ _) HI.out rfl
      | 8, _ =>
        injection ho with ho
        subst ho
        have lg := hdep ⟨6, .guard⟩ (by simp) rfl
        obtain ⟨xg, xg'⟩ := hAt.dep 6 (d := 152) (by omega) lg (by rfl) (hM.fact 6 (by omega) lg)
        rw [if_pos (by rw [wantedG rfl (by rfl) xg]; decide)]
        clear lg xg xg'
        have l7 := hdep ⟨7, .data⟩ (by simp) rfl
        obtain ⟨x7, x7'⟩ := hAt.dep 7 (d := 153) (by omega) l7 (by rfl) (hM.fact 7 (by omega) l7)
        go_simp
        exact hK _ w5 (Below.refl _ _) HI.out rfl
      | 9, _ =>
        injection ho with ho
        subst ho
        rw [if_pos (wantedN rfl)]
        have l6 := hdep ⟨6, .data⟩ (by simp) rfl
        obtain ⟨x6, x6'⟩ := hAt.dep 6 (d := 152) (by omega) l6 (by rfl) (hM.fact 6 (by omega) l6)
        have l8 := hdep ⟨8, .data⟩ (by simp) rfl
        obtain ⟨x8, x8'⟩ := hAt.dep 8 (d := 154) (by omega) l8 (by rfl) (hM.fact 8 (by omega) l8)
        go_simp
        exact hK _ w5 (Below.refl _ _) HI.out rfl
      | 10, _ =>
        injection ho with ho
        subst ho
        rw [if_pos (wantedN rfl)]
        have l9 := hdep ⟨9, .data⟩ (by simp) rfl
        obtain ⟨x9, x9'⟩ := hAt.dep 9 (d := 155) (by omega) l9 (by rfl) (hM.fact 9 (by omega) l9)
        go_simp
        exact hK _ w5 (Below.refl _ _) HI.out rfl
      | 11, _ =>
        injection ho with ho
        subst ho
        have lg := hdep ⟨10, .guard⟩ (by simp) rfl
        obtain ⟨xg, xg'⟩ := hAt.dep 10 (d := 156) (by omega) lg (by rfl) (hM.fact 10 (by omega) lg)
        rw [if_pos (by rw [wantedG rfl (by rfl) xg]; decide)]
        clear lg xg xg'
        obtain ⟨e8, e8'⟩ := hAt.slot 8 (by kernel_rfl) (by rfl)
        go_simp
        exact hK _ w5 (Below.refl _ _) HI.out rfl
      | 12, _ =>
        injection ho with ho
        subst ho
        have lg := hdep ⟨10, .guard⟩ (by simp) rfl
        obtain ⟨xg, xg'⟩ := hAt.dep 10 (d := 156) (by omega) lg (by rfl) (hM.fact 10 (by omega) lg)
        rw [if_pos (by rw [wantedG rfl (by rfl) xg]; decide)]
        clear lg xg xg'
        have l11 := hdep ⟨11, .data⟩ (by simp) rfl
        obtain ⟨x11, x11'⟩ := hAt.dep 11 (d := 157) (by omega) l11 (by rfl) (hM.fact 11 (by omega) l11)
        go_simp
        exact hK _ w5 (Below.refl _ _) HI.out rfl
      | 13, _ =>
        injection ho with ho
        subst ho
        rw [if_pos (wantedN rfl)]
        have l10 := hdep ⟨10, .data⟩ (by simp) rfl
        obtain ⟨x10, x10'⟩ := hAt.dep 10 (d := 156) (by omega) l10 (by rfl) (hM.fact 10 (by omega) l10)
        have l12 := hdep ⟨12, .data⟩ (by simp) rfl
        obtain ⟨x12, x12'⟩ := hAt.dep 12 (d := 158) (by omega) l12 (by rfl) (hM.fact 12 (by omega) l12)
        go_simp
        exact hK _ w5 (Below.refl _ _) HI.out rfl
      | 14, _ =>
        injection ho with ho
        subst ho
        rw [if_pos (wantedN rfl)]
        have l13 := hdep ⟨13, .data⟩ (by simp) rfl
        obtain ⟨x13, x13'⟩ := hAt.dep 13 (d := 159) (by omega) l13 (by rfl) (hM.fact 13 (by omega) l13)
        go_simp
        exact hK _ w5 (Below.refl _ _) HI.out rfl
      | 15, _ =>
        injection ho with ho
        subst ho
        have lg := hdep ⟨14, .guard⟩ (by simp) rfl
        obtain ⟨xg, xg'⟩ := hAt.dep 14 (d := 160) (by omega) lg (by rfl) (hM.fact 14 (by omega) lg)
        rw [if_pos (by rw [wantedG rfl (by rfl) xg]; decide)]
        clear lg xg xg'
        obtain ⟨e15, e15'⟩ := hAt.slot 15 (by kernel_rfl) (by rfl)
        have q0 := HI.out.at_ l15 s150
        have q1 := HI.out.at_ l15 s151
        go_simp
        exact hK _ w5 (Below.refl _ _) HI.out rfl
      | 16, _ =>
        injection ho with ho
        subst ho
        have lg := hdep ⟨14, .guard⟩ (by simp) rfl
        obtain ⟨xg, xg'⟩ := hAt.dep 14 (d := 160) (by omega) lg (by rfl) (hM.fact 14 (by omega) lg)
        rw [if_pos (by rw [wantedG rfl (by rfl) xg]; decide)]
        clear lg xg xg'
        go_simp
        refine (lspan_any 1786 1804 w5).mono ?_
        rintro e w6 ⟨rfl, hb6⟩
        exact hK _ w6 hb6 (HI.out.trans (hb6.mono HI.out.size)) rfl
      | 17, _ =>
        injection ho with ho
        subst ho
        have lg := hdep ⟨14, .guard⟩ (by simp) rfl
        obtain ⟨xg, xg'⟩ := hAt.dep 14 (d := 160) (by omega) lg (by rfl) (hM.fact 14 (by omega) lg)
        rw [if_pos (by rw [wantedG rfl (by rfl) xg]; decide)]
        clear lg xg xg'
        have l15 := hdep ⟨15, .data⟩ (by simp) rfl
        obtain ⟨x15, x15'⟩ := hAt.dep 15 (d := 161) (by omega) l15 (by rfl) (hM.fact 15 (by omega) l15)
        have l16 := hdep ⟨16, .data⟩ (by simp) rfl
        obtain ⟨x16, x16'⟩ := hAt.dep 16 (d := 162) (by omega) l16 (by rfl) (hM.fact 16 (by omega) l16)
        go_simp
        exact hK _ w5 (Below.refl _ _) HI.out rfl
      | 18, _ =>
        injection ho with ho
        subst ho
        rw [if_pos (wantedN rfl)]
        have l14 := hdep ⟨14, .data⟩ (by simp) rfl
        obtain ⟨x14, x14'⟩ := hAt.dep 14 (d := 160) (by omega) l14 (by rfl) (hM.fact 14 (by omega) l14)
        have l17 := hdep ⟨17, .data⟩ (by simp) rfl
        obtain ⟨x17, x17'⟩ := hAt.dep 17 (d := 163) (by omega) l17 (by rfl) (hM.fact 17 (by omega) l17)
        go_simp
        exact hK _ w5 (Below.refl _ _) HI.out rfl
      | 19, _ =>
        injection ho with ho
        subst ho
        rw [if_pos (wantedN rfl)]
        have l18 := hdep ⟨18, .data⟩ (by simp) rfl
        obtain ⟨x18, x18'⟩ := hAt.dep 18 (d := 164) (by omega) l18 (by rfl) (hM.fact 18 (by omega) l18)
        go_simp
        exact hK _ w5 (Below.refl _ _) HI.out rfl
      | 20, _ =>
        injection ho with ho
        subst ho
        have lg := hdep ⟨19, .guard⟩ (by simp) rfl
        obtain ⟨xg, xg'⟩ := hAt.dep 19 (d := 165) (by omega) lg (by rfl) (hM.fact 19 (by omega) lg)
        rw [if_pos (by rw [wantedG rfl (by rfl) xg]; decide)]
        clear lg xg xg'
        obtain ⟨e16, e16'⟩ := hAt.slot 16 (by kernel_rfl) (by rfl)
        have q0 := HI.out.at_ l16 s160
        have q1 := HI.out.at_ l16 s161
        go_simp
        exact hK _ w5 (Below.refl _ _) HI.out rfl
      | 21, _ =>
        injection ho with ho
        subst ho
        have lg := hdep ⟨19, .guard⟩ (by simp) rfl
        obtain ⟨xg, xg'⟩ := hAt.dep 19 (d := 165) (by omega) lg (by rfl) (hM.fact 19 (by omega) lg)
        rw [if_pos (by rw [wantedG rfl (by rfl) xg]; decide)]
        clear lg xg xg'
        go_simp
        refine (lspan_any 1785 1811 w5).mono ?_
        rintro e w6 ⟨rfl, hb6⟩
        exact hK _ w6 hb6 (HI.out.trans (hb6.mono HI.out.size)) rfl
      | 22, _ =>
        injection ho with ho
        subst ho
        have lg := hdep ⟨19, .guard⟩ (by simp) rfl
        obtain ⟨xg, xg'⟩ := hAt.dep 19 (d := 165) (by omega) lg (by rfl) (hM.fact 19 (by omega) lg)
        rw [if_pos (by rw [wantedG rfl (by rfl) xg]; decide)]
        clear lg xg xg'
        have l20 := hdep ⟨20, .data⟩ (by simp) rfl
        obtain ⟨x20, x20'⟩ := hAt.dep 20 (d := 166) (by omega) l20 (by rfl) (hM.fact 20 (by omega) l20)
        have l21 := hdep ⟨21, .data⟩ (by simp) rfl
        obtain ⟨x21, x21'⟩ := hAt.dep 21 (d := 167) (by omega) l21 (by rfl) (hM.fact 21 (by omega) l21)
        go_simp
        exact hK _ w5 (Below.refl _ _) HI.out rfl
      | 23, _ =>
        injection ho with ho
        subst ho
        rw [if_pos (wantedN rfl)]
        have l19 := hdep ⟨19, .data⟩ (by simp) rfl
        obtain ⟨x19, x19'⟩ := hAt.dep 19 (d := 165) (by omega) l19 (by rfl) (hM.fact 19 (by omega) l19)
        have l22 := hdep ⟨22, .data⟩ (by simp) rfl
        obtain ⟨x22, x22'⟩ := hAt.dep 22 (d := 168) (by omega) l22 (by rfl) (hM.fact 22 (by omega) l22)
        go_simp
        exact hK _ w5 (Below.refl _ _) HI.out rfl
      | 24, _ =>
        injection ho with ho
        subst ho
        rw [if_pos (wantedN rfl)]
        have l23 := hdep ⟨23, .data⟩ (by simp) rfl
        obtain ⟨x23, x23'⟩ := hAt.dep 23 (d := 169) (by omega) l23 (by rfl) (hM.fact 23 (by omega) l23)
        go_simp
        exact hK _ w5 (Below.refl _ _) HI.out rfl
      | 25, _ =>
        injection ho with ho
        subst ho
        have lg := hdep ⟨24, .guard⟩ (by simp) rfl
        obtain ⟨xg, xg'⟩ := hAt.dep 24 (d := 170) (by omega) lg (by rfl) (hM.fact 24 (by omega) lg)
        rw [if_pos (by rw [wantedG rfl (by rfl) xg]; decide)]
        clear lg xg xg'
        obtain ⟨e18, e18'⟩ := hAt.slot 18 (by kernel_rfl) (by rfl)
        have q0 := HI.out.at_ l18 s180
        have q1 := HI.out.at_ l18 s181
        go_simp
        exact hK _ w5 (Below.refl _ _) HI.out rfl
      | 26, _ =>
        injection ho with ho
        subst ho
        have lg := hdep ⟨24, .guard⟩ (by simp) rfl
        obtain ⟨xg, xg'⟩ := hAt.dep 24 (d := 170) (by omega) lg (by rfl) (hM.fact 24 (by omega) lg)
        rw [if_pos (by rw [wantedG rfl (by rfl) xg]; decide)]
        clear lg xg xg'
        go_simp
        refine (lspan_any 1731 1850 w5).mono ?_
        rintro e w6 ⟨rfl, hb6⟩
        exact hK _ w6 hb6 (HI.out.trans (hb6.mono HI.out.size)) rfl
      | 27, _ =>
        injection ho with ho
        subst ho
        have lg := hdep ⟨24, .guard⟩ (by simp) rfl
        obtain ⟨xg, xg'⟩ := hAt.dep 24 (d := 170) (by omega) lg (by rfl) (hM.fact 24 (by omega) lg)
        rw [if_pos (by rw [wantedG rfl (by rfl) xg]; decide)]
        clear lg xg xg'
        have l25 := hdep ⟨25, .data⟩ (by simp) rfl
        obtain ⟨x25, x25'⟩ := hAt.dep 25 (d := 171) (by omega) l25 (by rfl) (hM.fact 25 (by omega) l25)
        have l26 := hdep ⟨26, .data⟩ (by simp) rfl
        obtain ⟨x26, x26'⟩ := hAt.dep 26 (d := 172) (by omega) l26 (by rfl) (hM.fact 26 (by omega) l26)
        go_simp
        exact hK _ w5 (Below.refl _ _) HI.out rfl
      | 28, _ =>
        injection ho with ho
        subst ho
        rw [if_pos (wantedN rfl)]
        have l24 := hdep ⟨24, .data⟩ (by simp) rfl
        obtain ⟨x24, x24'⟩ := hAt.dep 24 (d := 170) (by omega) l24 (by rfl) (hM.fact 24 (by omega) l24)
        have l27 := hdep ⟨27, .data⟩ (by simp) rfl
        obtain ⟨x27, x27'⟩ := hAt.dep 27 (d := 173) (by omega) l27 (by rfl) (hM.fact 27 (by omega) l27)
        go_simp
        exact hK _ w5 (Below.refl _ _) HI.out rfl
      | 29, _ =>
        injection ho with ho
        subst ho
        rw [if_pos (wantedN rfl)]
        have l28 := hdep ⟨28, .data⟩ (by simp) rfl
        obtain ⟨x28, x28'⟩ := hAt.dep 28 (d := 174) (by omega) l28 (by rfl) (hM.fact 28 (by omega) l28)
        go_simp
        exact hK _ w5 (Below.refl _ _) HI.out rfl
      | 30, _ =>
        injection ho with ho
        subst ho
        have lg := hdep ⟨29, .guard⟩ (by simp) rfl
        obtain ⟨xg, xg'⟩ := hAt.dep 29 (d := 175) (by omega) lg (by rfl) (hM.fact 29 (by omega) lg)
        rw [if_pos (by rw [wantedG rfl (by rfl) xg]; decide)]
        clear lg xg xg'
        obtain ⟨e19, e19'⟩ := hAt.slot 19 (by kernel_rfl) (by rfl)
        go_simp
        exact hK _ w5 (Below.refl _ _) HI.out rfl
      | 31, _ =>
        injection ho with ho
        subst ho
        have lg := hdep ⟨29, .guard⟩ (by simp) rfl
        obtain ⟨xg, xg'⟩ := hAt.dep 29 (d := 175) (by omega) lg (by rfl) (hM.fact 29 (by omega) lg)
        rw [if_pos (by rw [wantedG rfl (by rfl) xg]; decide)]
        clear lg xg xg'
        have l30 := hdep ⟨30, .data⟩ (by simp) rfl
        obtain ⟨x30, x30'⟩ := hAt.dep 30 (d := 176) (by omega) l30 (by rfl) (hM.fact 30 (by omega) l30)
        go_simp
        exact hK _ w5 (Below.refl _ _) HI.out rfl
      | 32, _ =>
        injection ho with ho
        subst ho
        rw [if_pos (wantedN rfl)]
        have l29 := hdep ⟨29, .data⟩ (by simp) rfl
        obtain ⟨x29, x29'⟩ := hAt.dep 29 (d := 175) (by omega) l29 (by rfl) (hM.fact 29 (by omega) l29)
        have l31 := hdep ⟨31, .data⟩ (by simp) rfl
        obtain ⟨x31, x31'⟩ := hAt.dep 31 (d := 177) (by omega) l31 (by rfl) (hM.fact 31 (by omega) l31)
        go_simp
        exact hK _ w5 (Below.refl _ _) HI.out rfl
      | 33, _ =>
        injection ho with ho
        subst ho
        rw [if_pos (wantedN rfl)]
        have l32 := hdep ⟨32, .data⟩ (by simp) rfl
        obtain ⟨x32, x32'⟩ := hAt.dep 32 (d := 178) (by omega) l32 (by rfl) (hM.fact 32 (by omega) l32)
        go_simp
        exact hK _ w5 (Below.refl _ _) HI.out rfl
      | jq + 34, hq => exact absurd hq (by omega)
    · intro vals w5 hM
      have HI := Lib.hid hM.inv
      have f0 : vals 0 = .int .i64 0 := hM.all (by decide) 0 (by omega)
      have f1 : vals 1 = .bool true := hM.all (by decide) 1 (by omega)
      have f2 : vals 2 = .bool true := hM.all (by decide) 2 (by omega)
      have f3 : vals 3 = .int .i64 0 := hM.all (by decide) 3 (by omega)
      have f4 : vals 4 = .bool true := hM.all (by decide) 4 (by omega)
      have f5 : vals 5 = .bool true := hM.all (by decide) 5 (by omega)
      have f6 : vals 6 = .bool true := hM.all (by decide) 6 (by omega)
      have f7 : vals 7 = .int .i64 0 := hM.all (by decide) 7 (by omega)
      have f8 : vals 8 = .bool true := hM.all (by decide) 8 (by omega)
      have f9 : vals 9 = .bool true := hM.all (by decide) 9 (by omega)
      have f10 : vals 10 = .bool true := hM.all (by decide) 10 (by omega)
      have f11 : vals 11 = .int .i64 0 := hM.all (by decide) 11 (by omega)
      have f12 : vals 12 = .bool true := hM.all (by decide) 12 (by omega)
      have f13 : vals 13 = .bool true := hM.all (by decide) 13 (by omega)
      have f14 : vals 14 = .bool true := hM.all (by decide) 14 (by omega)
      have f15 : vals 15 = .agg #[.int .i64 1786, .int .i64 1804] := hM.all (by decide) 15 (by omega)
      have f16 : vals 16 = .agg #[.int .i64 1786, .int .i64 1804] := hM.all (by decide) 16 (by omega)
      have f17 : vals 17 = .bool true := hM.all (by decide) 17 (by omega)
      have f18 : vals 18 = .bool true := hM.all (by decide) 18 (by omega)
      have f19 : vals 19 = .bool true := hM.all (by decide) 19 (by omega)
      have f20 : vals 20 = .agg #[.int .i64 1785, .int .i64 1811] := hM.all (by decide) 20 (by omega)
      have f21 : vals 21 = .agg #[.int .i64 1785, .int .i64 1811] := hM.all (by decide) 21 (by omega)
      have f22 : vals 22 = .bool true := hM.all (by decide) 22 (by omega)
      have f23 : vals 23 = .bool true := hM.all (by decide) 23 (by omega)
      have f24 : vals 24 = .bool true := hM.all (by decide) 24 (by omega)
      have f25 : vals 25 = .agg #[.int .i64 1731, .int .i64 1850] := hM.all (by decide) 25 (by omega)
      have f26 : vals 26 = .agg #[.int .i64 1731, .int .i64 1850] := hM.all (by decide) 26 (by omega)
      have f27 : vals 27 = .bool true := hM.all (by decide) 27 (by omega)
      have f28 : vals 28 = .bool true := hM.all (by decide) 28 (by omega)
      have f29 : vals 29 = .bool true := hM.all (by decide) 29 (by omega)
      have f30 : vals 30 = .int .i64 (-2) := hM.all (by decide) 30 (by omega)
      have f31 : vals 31 = .bool true := hM.all (by decide) 31 (by omega)
      have f32 : vals 32 = .bool true := hM.all (by decide) 32 (by omega)
      have f33 : vals 33 = .bool true := hM.all (by decide) 33 (by omega)
      clear hM
      simp only [putAll, List.range, List.range.loop, List.foldl_cons, List.foldl_nil, f0, f1, f2, f3, f4, f5, f6, f7, f8, f9, f10, f11, f12, f13, f14, f15, f16, f17, f18, f19, f20, f21, f22, f23, f24, f25, f26, f27, f28, f29, f30, f31, f32, f33]
      clear f0 f1 f2 f3 f4 f5 f6 f7 f8 f9 f10 f11 f12 f13 f14 f15 f16 f17 f18 f19 f20 f21 f22 f23 f24 f25 f26 f27 f28 f29 f30 f31 f32 f33
      change wpAny _ _ _ _ _ _ (Act.put (Act.put (Act.put (Act.put (Act.put (Act.put (Act.put (Act.put (Act.put (Act.put (Act.put (Act.put (Act.put (Act.put (Act.put (Act.put (Act.put (Act.put (Act.put (Act.put (Act.put (Act.put (Act.put (Act.put (Act.put (Act.put (Act.put (Act.put (Act.put (Act.put (Act.put (Act.put (Act.put (Act.put _ (some 146) _) (some 147) _) (some 148) _) (some 149) _) (some 150) _) (some 151) _) (some 152) _) (some 153) _) (some 154) _) (some 155) _) (some 156) _) (some 157) _) (some 158) _) (some 159) _) (some 160) _) (some 161) _) (some 162) _) (some 163) _) (some 164) _) (some 165) _) (some 166) _) (some 167) _) (some 168) _) (some 169) _) (some 170) _) (some 171) _) (some 172) _) (some 173) _) (some 174) _) (some 175) _) (some 176) _) (some 177) _) (some 178) _) (some 0) _) _
      simp only [Act.put, List.setIfInBounds_toArray, List.set_cons_zero, List.set_cons_succ]
      refine wpAny_done (by kernel_rfl) ?_ _
      have HB := Lib.hid (HB.out.trans (HI.out.mono HB.out.size))
      clear HI
      go_wp2_with fail
      go_ret
      exact ⟨rfl, HB.out⟩
end Go.Proofs.YtcdjoegihmfanaaGreat
