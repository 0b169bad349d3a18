/- The examples of the chapter: awake() is true. -/
import Derived.Test.YtfojjecnmfkcfaaExam
import Derived.Test.YtfojjecnmfkcfaaExam2
import Derived.Test.YtfojjecnmfkcfaaShareR
import Derived.Test.YtfojjecnmfkcfaaWorth
import Derived.Test.YtfojjecnmfkcfaaAppeal
import Derived.Test.YtfojjecnmfkcfaaOutbids
import Derived.Test.YtfojjecnmfkcfaaDue
import Derived.Test.YtfojjecnmfkcfaaLate
import Derived.Test.YtfojjecnmfkcfaaPounds2
import Derived.Test.YtfojjecnmfkcfaaAlike
namespace Go.Proofs.Ytfojjecnmfkcfaa
open Go.RowKit
set_option linter.unusedVariables false
theorem sharesX_any (b : Nat) (w : World) (h : Lst w b [5, 0, 100, 3, 0, 100, 1, 0, 100]) : Hid (Calls Try.prog 57 #[.agg #[.int .i64 100, .slice (some ⟨b, 0, none⟩) 3 3]] w (RetOwnE 3 1 3 (ints [56, 33, 11]) 0 w)) := by
  have C := Shares_any (some ⟨b, 0, none⟩) 3 100 threeX w h.rd (by decide)
  rw [exShares.1, exShares.2] at C
  exact C
theorem bidsX_any (b : Nat) (w : World) (h : Lst w b [5, 0, 100, 3, 0, 100, 1, 20, 100]) : Hid (Calls Try.prog 36 #[.agg #[.int .i64 100, .slice (some ⟨b, 0, none⟩) 3 3]] w (RetOwnE 3 1 3 (ints [50, 30, 20]) 0 w)) := by
  have C := Bids_any (some ⟨b, 0, none⟩) 3 100 leastX w h.rd (by decide)
  rw [exBids.1, exBids.2.1] at C
  exact C
theorem bidsY_any (b : Nat) (w : World) (h : Lst w b [5, 0, 40, 3, 0, 100, 1, 20, 100]) : Hid (Calls Try.prog 36 #[.agg #[.int .i64 100, .slice (some ⟨b, 0, none⟩) 3 3]] w (RetOwnE 3 1 3 (ints [40, 40, 20]) 0 w)) := by
  have C := Bids_any (some ⟨b, 0, none⟩) 3 100 mostX w h.rd (by decide)
  rw [exBids.2.2.1, exBids.2.2.2] at C
  exact C
theorem outX_any (b l : Nat) (w : World) (h : Lst w b [5, 0, 100, 3, 0, 100, 1, 0, 100]) (hq : Rd w w.heap.size (some ⟨l, 0, none⟩) (ints [55, 34, 11])) : Hid (Calls Try.prog 37 #[.agg #[.int .i64 100, .slice (some ⟨b, 0, none⟩) 3 3], .slice (some ⟨l, 0, none⟩) 3 3] w (RetOwnE 69 2 1 (pairs [(0, 1)]) 0 w)) := by
  have C := Outbids_any (some ⟨b, 0, none⟩) 3 100 threeX (some ⟨l, 0, none⟩) 3 [55, 34, 11] w h.rd (by decide) hq (by decide)
  rw [exOut.1, exOut.2] at C
  exact C
theorem appealX_any (b : Nat) (w : World) (h : Lst w b [5, 0, 100, 3, 0, 100, 1, 0, 100]) : Hid (Calls Try.prog 28 #[.agg #[.int .i64 100, .slice (some ⟨b, 0, none⟩) 3 3], .int .i64 0, .int .i64 4] w (RetApp 3 [50, 38, 12] 6 0 w)) := by
  have C := Appeal_any (some ⟨b, 0, none⟩) 3 100 threeX 0 4 w h.rd (by decide)
  rw [exAppeal.1, exAppeal.2.1, exAppeal.2.2] at C
  exact C
theorem worthX_any (b : Nat) (w : World) (h : Lst w b [5, 0, 100, 3, 0, 100, 1, 0, 100]) : Hid (Calls Try.prog 31 #[.agg #[.int .i64 100, .slice (some ⟨b, 0, none⟩) 3 3], .int .i64 0, .int .i64 50] w fun e w' => e = .returned (.tuple #[.int .i64 4, .int .i64 0]) ∧ Below w.heap.size w w') := by
  refine (Worth_any (some ⟨b, 0, none⟩) 3 100 threeX 0 50 w h.rd (by decide)).mono ?_
  rintro e w' ⟨hb, (⟨_, r, rfl, hr⟩ | ⟨hne, _⟩)⟩
  · have : r = 4 := exWorth hr
    subst this
    exact ⟨rfl, hb⟩
  · exact absurd exWorthCode hne
theorem paidX_any (b d : Nat) (w : World) (h : Lst w b [0, 100, 20, 80]) (k : Lst w d [5, 60, 25, 90]) : Hid (Calls Try.prog 49 #[accV (some ⟨b, 0, none⟩) 2 2 (some ⟨d, 0, none⟩) 2 2 10 5] w (RetOwnE 3 1 2 (ints [25, -1]) 0 w)) := by
  have C := Paid_any (some ⟨b, 0, none⟩) (some ⟨d, 0, none⟩) 2 2 chX payX 10 5 w ⟨h.rd, by decide, .inr ⟨b, 0, rfl⟩⟩ ⟨k.rd, by decide, .inr ⟨d, 0, rfl⟩⟩ (by decide) (by decide)
  rw [exPaid.1, exPaid.2] at C
  exact C
theorem lateX_any (b d : Nat) (w : World) (h : Lst w b [0, 100, 20, 80]) (k : Lst w d [5, 60, 25, 90]) : Hid (Calls Try.prog 50 #[accV (some ⟨b, 0, none⟩) 2 2 (some ⟨d, 0, none⟩) 2 2 10 5, .int .i64 31] w (RetApp 3 [0, 1] 9 0 w)) := by
  have C := Late_any (some ⟨b, 0, none⟩) (some ⟨d, 0, none⟩) 2 2 chX payX 10 5 31 w ⟨h.rd, by decide, .inr ⟨b, 0, rfl⟩⟩ ⟨k.rd, by decide, .inr ⟨d, 0, rfl⟩⟩ (by decide) (by decide)
  rw [exLate.1, exLate.2.1, exLate.2.2] at C
  exact C
theorem dueX_any (b d : Nat) (w : World) (h : Lst w b [0, 100, 20, 80]) (k : Lst w d [5, 60, 25, 90]) : Hid (Calls Try.prog 69 #[accV (some ⟨b, 0, none⟩) 2 2 (some ⟨d, 0, none⟩) 2 2 10 5, .int .i64 30] w fun e w' => e = .returned (.tuple #[.int .i64 30, .int .i64 0]) ∧ Below w.heap.size w w') := by
  have C := Due_any (some ⟨b, 0, none⟩) (some ⟨d, 0, none⟩) 2 2 chX payX 10 5 30 w ⟨h.rd, by decide, .inr ⟨b, 0, rfl⟩⟩ ⟨k.rd, by decide, .inr ⟨d, 0, rfl⟩⟩ (by decide) (by decide)
  rw [exDue.1, exDue.2] at C
  exact C
theorem sameInts (A : Option Addr) (c n : Nat) (l : List Int) (hn : l.length = n) (w : World) (hr : Rd w w.heap.size A (ints l)) (hl : l.length ≤ 1000) : Hid (Calls Try.prog 30 #[.slice A n c, .slice (some ⟨w.heap.size, 0, none⟩) n n] (w.alloc (.cells (ints l).toArray 3)) fun e w' => e = .returned (.bool true) ∧ Below w.heap.size w w') := by
  subst hn
  refine (alikeInt_any A (some ⟨w.heap.size, 0, none⟩) c l.length l l _ (hr.alloc _) (Rd.new w _ _ rfl) (by omega)).mono ?_
  rintro e w' ⟨rfl, hb⟩
  exact ⟨by simp, (below_new _ _).trans (hb.mono (by simp))⟩
theorem samePairs (A : Option Addr) (c n : Nat) (l : List (Int × Int)) (hn : l.length = n) (w : World) (hr : Rd w w.heap.size A (pairs l)) (hl : l.length ≤ 1000) : Hid (Calls Try.prog 82 #[.slice A n c, .slice (some ⟨w.heap.size, 0, none⟩) n n] (w.alloc (.cells (pairs l).toArray 69)) fun e w' => e = .returned (.bool true) ∧ Below w.heap.size w w') := by
  subst hn
  refine (alikePair_any A (some ⟨w.heap.size, 0, none⟩) c l.length l l _ (hr.alloc _) (Rd.new w _ _ rfl) (by omega)).mono ?_
  rintro e w' ⟨rfl, hb⟩
  exact ⟨by simp, (below_new _ _).trans (hb.mono (by simp))⟩
theorem own_rd {w : World} {base : Nat} {E : TypeId} {size n c : Nat} {A : Option Addr} {xs : List Value} (h : w.ownsRow base E size (.slice A n c) n xs) : Rd w w.heap.size A xs := by
  obtain ⟨A', c', e, _, hr⟩ := own_slice h
  injection e with e1 _ _
  rw [e1]
  exact hr
theorem Rd.setCell {w : World} {B b o : Nat} {A : Option Addr} {xs : List Value} {v : Value} (h : Rd w B A xs) (hb : B ≤ b) : Rd (w.setCell ⟨b, o, none⟩ v) B A xs :=
  h.keep fun b' o' hlt => World.cell?_setCell_other _ _ _ _ (by intro e; injection e; omega)
set_option maxRecDepth 100000 in
set_option maxHeartbeats 4000000 in
theorem awake_any (w : World) : Calls Try.prog 16 #[] w fun e w' => e = .returned (.bool true) ∧ Below w.heap.size w w' := by
  go_enter Try.func16, Try.ntmps16
  go_wp2_with fail
  refine (Tariff_any w).mono ?_
  rintro e w1 ⟨b1, rfl, _, hL1, hB1⟩
  have C1 := Cost_any (some ⟨b1, 0, none⟩) 2 tarX 1251 w1 hL1.rd (by decide) (by decide)
  rw [exCost.1, exCost.2] at C1
  have HC1 := Lib.hid C1
  clear C1 hL1
  go_wp2_with fail
  refine HC1.out.mono ?_
  rintro e w2 ⟨rfl, hB2⟩
  clear HC1
  go_wp2_with fail
  refine (Tariff_any w2).mono ?_
  rintro e w3 ⟨b3, rfl, _, hL3, hB3⟩
  have C1 := Pounds_any (some ⟨b3, 0, none⟩) 2 tarX 575 w3 hL3.rd (by decide) (by decide)
  rw [exPounds.1, exPounds.2] at C1
  have HC1 := Lib.hid C1
  clear C1 hL3
  go_wp2_with fail
  refine HC1.out.mono ?_
  rintro e w4 ⟨rfl, hB4⟩
  clear HC1
  have hB : Below w.heap.size w w4 := (((hB1.trans (hB2.mono hB1.size))).trans ((hB3.trans (hB4.mono hB3.size)).mono (Nat.le_trans hB1.size hB2.size)))
  clear hB1 hB2 hB3 hB4
  go_wp2_with fail
  refine (Three_any w4).mono ?_
  rintro e w5 ⟨b5, rfl, _, hL5, hB5⟩
  go_wp2_with fail
  refine (sharesX_any b5 w5 hL5).out.mono ?_
  rintro e w6 ⟨v6, rfl, hO6, hB6⟩
  obtain ⟨A6, c6, rfl, _, hR6⟩ := own_slice hO6
  have hBw6 : Below w.heap.size w w6 := hB.trans ((hB5.trans (hB6.mono hB5.size)).mono hB.size)
  clear hB hB5 hB6 hO6 hL5
  go_wp2_with fail
  refine (Three_any w6).mono ?_
  rintro e w7 ⟨b7, rfl, hb7, hL7, hB7⟩
  have f7 := hL7.at_ (j := 7) (by decide)
  have g7 := hL7.free 7
  have l7 := hL7.lt
  have n7 : b7 ≠ w7.heap.size := by omega
  simp only [List.getElem_cons_succ, List.getElem_cons_zero] at f7
  have HL7 := Lib.hid hL7
  clear hL7
  go_wp2_with fail
  obtain ⟨W8, hW8⟩ : ∃ W8, W8 = (w7.setCell ⟨b7, 7, none⟩ (.int .i64 20)).alloc (.cells #[.int .i64 100, .slice (some ⟨b7, 0, none⟩) 3 3] 39) := ⟨_, rfl⟩
  rw [← hW8]
  have hz7 : (w7.setCell ⟨b7, 7, none⟩ (.int .i64 20)).heap.size = w7.heap.size := by simp [World.setCell]
  have hL8 : Lst W8 b7 [5, 0, 100, 3, 0, 100, 1, 20, 100] := by rw [hW8]; exact (HL7.out.put (j := 7) (by decide) 20).below (below_new _ _)
  have hB8 : Below w6.heap.size w6 W8 := by rw [hW8]; exact (hB7.grown (grownBy_setCell _ _ _ _) hB7.size (fun q hq => by injection hq with hq; omega)).alloc (by rw [hz7]; exact hB7.size) _
  have k8 : W8.cell? ⟨w7.heap.size, 1, none⟩ = some (.slice (some ⟨b7, 0, none⟩) 3 3) := by rw [hW8]; exact (Rd.new _ [.int .i64 100, .slice (some ⟨b7, 0, none⟩) 3 3] 39 hz7).news 1 _ rfl
  have k8' : W8.cell? ⟨w7.heap.size, 0, none⟩ = some (.int .i64 100) := by rw [hW8]; exact (Rd.new _ [.int .i64 100, .slice (some ⟨b7, 0, none⟩) 3 3] 39 hz7).news 0 _ rfl
  have z8 : w7.heap.size < W8.heap.size := by rw [hW8]; simp [World.setCell]
  clear hW8 HL7 hB7 f7 g7
  refine (bidsX_any b7 W8 hL8).out.mono ?_
  rintro e w9 ⟨v9, rfl, hO9, hB9⟩
  obtain ⟨A9, c9, rfl, _, hR9⟩ := own_slice hO9
  have hR9' : Rd w9 w9.heap.size A9 (ints [50, 30, 20]) := hR9
  have hB96 := hB8.trans (hB9.mono hB8.size)
  have hL9 := hL8.below hB9
  have k9 := (hB9.cell (p := ⟨w7.heap.size, 1, none⟩) z8).trans k8
  have k9' := (hB9.cell (p := ⟨w7.heap.size, 0, none⟩) z8).trans k8'
  have f9 := hL9.at_ (j := 2) (by decide)
  have g9 := hL9.free 2
  have l9 := hL9.lt
  have z9 : w7.heap.size < w9.heap.size := Nat.lt_of_lt_of_le z8 hB9.size
  simp only [List.getElem_cons_succ, List.getElem_cons_zero] at f9
  have HL9 := Lib.hid hL9
  have z8b : b7 < W8.heap.size := by omega
  clear hL9 hL8 hB8 k8 k8' z8 hR9
  go_wp2_with fail
  obtain ⟨W10, hW10⟩ : ∃ W10, W10 = w9.setCell ⟨b7, 2, none⟩ (.int .i64 40) := ⟨_, rfl⟩
  rw [← hW10]
  have hL10 : Lst W10 b7 [5, 0, 40, 3, 0, 100, 1, 20, 100] := by rw [hW10]; exact HL9.out.put (j := 2) (by decide) 40
  have hB10 : Below w6.heap.size w6 W10 := by rw [hW10]; exact hB96.grown (grownBy_setCell _ _ _ _) hB96.size (fun q hq => by injection hq with hq; omega)
  have hR10 : Rd W10 W10.heap.size A9 (ints [50, 30, 20]) := by
    rw [hW10]
    exact own_rd (hO9.kept (grownBy_setCell w9 b7 2 (.int .i64 40)) (.inr (fun e => by have := (hO9.lt _ e).1; omega)))
  clear hW10 HL9 hB96 f9 g9 k9 k9' hR9' z9 hO9 hB9
  refine (bidsY_any b7 W10 hL10).out.mono ?_
  rintro e w11 ⟨v11, rfl, hO11, hB11⟩
  obtain ⟨A11, c11, rfl, _, hR11⟩ := own_slice hO11
  have hBw := hBw6.trans ((hB10.trans (hB11.mono hB10.size)).mono hBw6.size)
  have R1 := (hR6.below (hB10.trans (hB11.mono hB10.size))).more (Nat.le_trans hB10.size hB11.size)
  have R2 := hR10.next hB11
  clear hL10 hB10 hR10 hB11 hO11 hR6 hBw6
  go_wp2_with fail
  refine (sameInts A6 c6 3 [56, 33, 11] rfl w11 R1 (by decide)).out.mono ?_
  rintro e w12 ⟨rfl, hB12⟩
  have hBw12 := hBw.trans (hB12.mono hBw.size)
  have R2' := R2.next hB12
  have R3' : Rd w12 w12.heap.size A11 (ints [40, 40, 20]) := hR11.next hB12
  clear R1 R2 hR11 hBw hB12
  go_wp2_with fail
  refine (sameInts A9 c9 3 [50, 30, 20] rfl w12 R2' (by decide)).out.mono ?_
  rintro e w13 ⟨rfl, hB13⟩
  have hBw13 := hBw12.trans (hB13.mono hBw12.size)
  have R3 := R3'.next hB13
  clear R2' R3' hBw12 hB13
  go_wp2_with fail
  refine (sameInts A11 c11 3 [40, 40, 20] rfl w13 R3 (by decide)).out.mono ?_
  rintro e w14 ⟨rfl, hB14⟩
  have hBw14 := hBw13.trans (hB14.mono hBw13.size)
  clear R3 hBw13 hB14
  go_wp2_with fail
  refine (Three_any w14).mono ?_
  rintro e w15 ⟨b15, rfl, _, hL15, hB15⟩
  have hBw15 := hBw14.trans (hB15.mono hBw14.size)
  clear hBw14 hB15
  go_wp2_with fail
  refine (outX_any b15 w15.heap.size (w15.alloc (.cells (ints [55, 34, 11]).toArray 3)) (hL15.below (below_new _ _)) (Rd.new w15 _ _ rfl)).out.mono ?_
  rintro e w16 ⟨v16, rfl, hO16, hB16⟩
  obtain ⟨A16, c16, rfl, _, hR16⟩ := own_slice hO16
  have hBw16 : Below w.heap.size w w16 := (hBw15.alloc hBw15.size _).trans (hB16.mono (by have := hBw15.size; simp; omega))
  clear hBw15 hB16 hO16 hL15
  go_wp2_with fail
  refine (Three_any w16).mono ?_
  rintro e w17 ⟨b17, rfl, _, hL17, hB17⟩
  have R1 := hR16.next hB17
  have hBw17 := hBw16.trans (hB17.mono hBw16.size)
  clear hBw16 hB17 hR16
  go_wp2_with fail
  refine (appealX_any b17 w17 hL17).out.mono ?_
  rintro e w18 ⟨v18, rfl, hO18, hB18⟩
  obtain ⟨A18, c18, rfl, _, hR18⟩ := own_slice hO18
  have S1 := R1.next hB18
  have hBw18 := hBw17.trans (hB18.mono hBw17.size)
  clear hBw17 hB18 hL17 hO18 R1
  go_wp2_with fail
  refine (Three_any w18).mono ?_
  rintro e w19 ⟨b19, rfl, _, hL19, hB19⟩
  have R1 := S1.next hB19
  have R2 := hR18.next hB19
  have hBw19 := hBw18.trans (hB19.mono hBw18.size)
  clear hBw18 hB19 hR18 S1
  go_wp2_with fail
  refine (worthX_any b19 w19 hL19).out.mono ?_
  rintro e w20 ⟨rfl, hB20⟩
  have S1 := R1.next hB20
  have S2 := R2.next hB20
  have hBw20 := hBw19.trans (hB20.mono hBw19.size)
  clear hBw19 hB20 hL19 R1 R2
  go_wp2_with fail
  refine (Account_any w20).mono ?_
  rintro e w21 ⟨b21, d21, rfl, _, _, hL21, hK21, hB21⟩
  have R1 := S1.next hB21
  have R2 := S2.next hB21
  have hBw21 := hBw20.trans (hB21.mono hBw20.size)
  clear hBw20 hB21 S1 S2
  go_wp2_with fail
  refine (paidX_any b21 d21 w21 hL21 hK21).out.mono ?_
  rintro e w22 ⟨v22, rfl, hO22, hB22⟩
  obtain ⟨A22, c22, rfl, _, hR22⟩ := own_slice hO22
  have S1 := R1.next hB22
  have S2 := R2.next hB22
  have hBw22 := hBw21.trans (hB22.mono hBw21.size)
  clear hBw21 hB22 hL21 hK21 R1 R2 hO22
  go_wp2_with fail
  refine (Account_any w22).mono ?_
  rintro e w23 ⟨b23, d23, rfl, _, _, hL23, hK23, hB23⟩
  have R1 := S1.next hB23
  have R2 := S2.next hB23
  have R3 := hR22.next hB23
  have hBw23 := hBw22.trans (hB23.mono hBw22.size)
  clear hBw22 hB23 S1 S2 hR22
  go_wp2_with fail
  refine (lateX_any b23 d23 w23 hL23 hK23).out.mono ?_
  rintro e w24 ⟨v24, rfl, hO24, hB24⟩
  obtain ⟨A24, c24, rfl, _, hR24⟩ := own_slice hO24
  have S1 := R1.next hB24
  have S2 := R2.next hB24
  have S3 := R3.next hB24
  have hBw24 := hBw23.trans (hB24.mono hBw23.size)
  clear hBw23 hB24 hL23 hK23 R1 R2 R3 hO24
  go_wp2_with fail
  refine (Account_any w24).mono ?_
  rintro e w25 ⟨b25, d25, rfl, _, _, hL25, hK25, hB25⟩
  have R1 := S1.next hB25
  have R2 := S2.next hB25
  have R3 := S3.next hB25
  have R4 := hR24.next hB25
  have hBw25 := hBw24.trans (hB25.mono hBw24.size)
  clear hBw24 hB25 S1 S2 S3 hR24
  go_wp2_with fail
  refine (dueX_any b25 d25 w25 hL25 hK25).out.mono ?_
  rintro e w26 ⟨rfl, hB26⟩
  have S1 := R1.next hB26
  have S2 := R2.next hB26
  have S3 := R3.next hB26
  have S4 := R4.next hB26
  have hBw26 := hBw25.trans (hB26.mono hBw25.size)
  clear hBw25 hB26 hL25 hK25 R1 R2 R3 R4
  go_wp2_with fail
  refine (samePairs A16 c16 1 [(0, 1)] rfl w26 S1 (by decide)).out.mono ?_
  rintro e w27 ⟨rfl, hB27⟩
  have R2 : Rd w27 w27.heap.size A18 (ints [50, 38, 12]) := S2.next hB27
  have R3 : Rd w27 w27.heap.size A22 (ints [25, -1]) := S3.next hB27
  have R4 : Rd w27 w27.heap.size A24 (ints [0, 1]) := S4.next hB27
  have hBw27 := hBw26.trans (hB27.mono hBw26.size)
  clear hBw26 hB27 S1 S2 S3 S4
  go_wp2_with fail
  refine (sameInts A18 c18 3 [50, 38, 12] rfl w27 R2 (by decide)).out.mono ?_
  rintro e w28 ⟨rfl, hB28⟩
  have S3 := R3.next hB28
  have S4 := R4.next hB28
  have hBw28 := hBw27.trans (hB28.mono hBw27.size)
  clear hBw27 hB28 R2 R3 R4
  go_wp2_with fail
  refine (sameInts A22 c22 2 [25, -1] rfl w28 S3 (by decide)).out.mono ?_
  rintro e w29 ⟨rfl, hB29⟩
  have R4 := S4.next hB29
  have hBw29 := hBw28.trans (hB29.mono hBw28.size)
  clear hBw28 hB29 S3 S4
  go_wp2_with fail
  refine (sameInts A24 c24 2 [0, 1] rfl w29 R4 (by decide)).out.mono ?_
  rintro e w30 ⟨rfl, hB30⟩
  have hBw30 := hBw29.trans (hB30.mono hBw29.size)
  clear hBw29 hB30 R4
  go_wp2_with fail
  go_ret
  exact ⟨rfl, hBw30⟩
end Go.Proofs.Ytfojjecnmfkcfaa
