/- solve: the best sum over events with at most so many changes, and the values that make it. A map of numbers, as a function of them: made, looked up, written, ranged over. The keys of a map of numbers, sorted; the events of a bridge, out of them. solve, in the words of the reference. The keys of a map of spans, sorted: the library's Keys and Sorted. -/
import Derived.Test.YtcdjoegihmfanaaGreatG9
import Derived.StillTailTactics
import Derived.WalkKit
import Derived.Maps.Own
import Derived.Maps.OwnSet
import Derived.Maps.OwnOps
import Derived.Maps.OwnIn
import Derived.Maps.Views
import Derived.Maps.Ext
import Derived.Maps.RangeWalk
import Derived.Lib.Hide
import Derived.Deep.Draws
import Derived.Test.YtcdjoegihmfanaaGreatG3
import Derived.Lib.SlKeysI
import Derived.Test.YtcdjoegihmfanaaGreatG5
import Derived.Shelf.SlIterI.Nil
import Derived.Shelf.SortM.Plain
import Derived.Shelf.SortM.SortNone
namespace Go.Proofs.YtcdjoegihmfanaaGreat
open Go.RowKit
set_option linter.unusedVariables false
/-- Where solve stands: the box of the side, the table. -/
structure SvI (w wr : World) (sb L : Nat) (b : Bool) (l : List Ev) (c i ci vi : Nat) : Prop where
  bl : Below w.heap.size w wr
  lt : sb < wr.heap.size
  cs : wr.cell? ⟨sb, 0, none⟩ = some (sdF b)
  lv : LvOk wr L b l c i ci vi
  ne : sb ≠ L
  ge : w.heap.size ≤ L
section
variable {w wr wx : World} {sb L : Nat} {b : Bool} {l : List Ev} {c i ci vi : Nat}
theorem SvI.next (h : SvI w wr sb L b l c i ci vi) (hb : Below wr.heap.size wr wx) : SvI w wx sb L b l c i ci vi :=
  ⟨h.bl.trans (hb.mono h.bl.size), Nat.lt_of_lt_of_le h.lt hb.size, hb.at_ h.lt h.cs, h.lv.below hb, h.ne, h.ge⟩
theorem SvI.put (h : SvI w wr sb L b l c i ci vi) (hi : i < l.length) (hc : ci ≤ c) (hc4 : c ≤ 4) (hv : vi < 101) : SvI w (wr.setCell ⟨L, i * 505 + ci * 101 + vi, none⟩ (.int .i64 (tabL b l (i + 1) ci vi))) sb L b l c i ci (vi + 1) :=
  ⟨h.bl.setCell h.ge _, by simpa [World.setCell] using h.lt, (cell_far h.ne).trans h.cs, h.lv.put hi hc hc4 hv, h.ne, h.ge⟩
theorem SvI.row (h : SvI w wr sb L b l c i ci 101) : SvI w wr sb L b l c i (ci + 1) 0 := ⟨h.bl, h.lt, h.cs, h.lv.row, h.ne, h.ge⟩
theorem SvI.event (h : SvI w wr sb L b l c i (c + 1) 0) : SvI w wr sb L b l c (i + 1) 0 0 := ⟨h.bl, h.lt, h.cs, h.lv.event, h.ne, h.ge⟩
end
/-- The event that is looked at, in its box. -/
structure EvB (w : World) (eb L : Nat) (e : Ev) : Prop where
  lt : eb < w.heap.size
  c0 : w.cell? ⟨eb, 0, none⟩ = some (.int .i64 e.lo)
  c1 : w.cell? ⟨eb, 1, none⟩ = some (.int .i64 e.hi)
  c2 : w.cell? ⟨eb, 2, none⟩ = some (.int .i64 e.m)
  c3 : w.cell? ⟨eb, 3, none⟩ = some (.int .i64 e.w)
  ne : eb ≠ L
theorem EvB.next {w w' : World} {eb L : Nat} {e : Ev} (h : EvB w eb L e) (hb : Below w.heap.size w w') : EvB w' eb L e :=
  ⟨Nat.lt_of_lt_of_le h.lt hb.size, hb.at_ h.lt h.c0, hb.at_ h.lt h.c1, hb.at_ h.lt h.c2, hb.at_ h.lt h.c3, h.ne⟩
theorem EvB.put {w : World} {eb L o : Nat} {e : Ev} (h : EvB w eb L e) (v : Value) : EvB (w.setCell ⟨L, o, none⟩ v) eb L e :=
  ⟨by simpa [World.setCell] using h.lt, (cell_far h.ne).trans h.c0, (cell_far h.ne).trans h.c1, (cell_far h.ne).trans h.c2, (cell_far h.ne).trans h.c3, h.ne⟩
/-- What solve returns. -/
def Solved (b : Bool) (l : List Ev) (c : Nat) (W : World) (e : Ending) (w' : World) : Prop :=
  Below W.heap.size W w' ∧ ((l = [] ∧ e = .returned (.tuple #[.int .i64 0, .slice none 0 0, .bool true])) ∨ (l ≠ [] ∧ (topP b (tabL b l l.length c) 101).1 = big ∧ e = .returned (.tuple #[.int .i64 0, .slice none 0 0, .bool false])) ∨
    (l ≠ [] ∧ (topP b (tabL b l l.length c) 101).1 ≠ big ∧ ∃ v, e = .returned (.tuple #[.int .i64 (topP b (tabL b l l.length c) 101).1, v, .bool true]) ∧ w'.ownsRow W.heap.size 3 1 v l.length (ints (traceP b l.reverse c (topP b (tabL b l l.length c) 101).2).reverse)))
/-- The best before event i with one change fewer, and its place. -/
def topI (b : Bool) (l : List Ev) (i c : Nat) : Int × Nat := if i = 0 then (0, 0) else topC b (tabL b l i) c
/-- top at the event before. -/
theorem top_at {w wx : World} {sb L : Nat} {b : Bool} {l : List Ev} {c i n ci cn vi : Nat} (h : SvI w wx sb L b l c n cn vi) {j k : Nat} (hj : i = j + 1) (hin : i ≤ n) (hil : j < l.length) (hk : ci = k + 1) (hkc : ci ≤ c + 1) (hc : c ≤ 4) :
    Calls Tryz.prog 184 #[.pointer (some ⟨L, j * 505, none⟩), sdV b, .int .i64 (k : Nat)] wx fun e w' => e = .returned (.tuple #[.int .i64 (topI b l i ci).1, .int .i64 ((topI b l i ci).2 : Nat)]) ∧ Below wx.heap.size wx w' := by
  subst hj hk
  have := top_any b L (j * 505) k (tabL b l (j + 1) k) wx (by omega) (fun v hv => h.lv.at_ (by omega) hil (by omega) hv) h.lv.lt
  unfold topI topC
  rw [if_neg (by omega), if_neg (by omega)]
  exact this
theorem SvI.far {w wr : World} {sb L : Nat} {b : Bool} {l : List Ev} {c i ci vi : Nat} (h : SvI w wr sb L b l c i ci vi) {g o : Nat} (h1 : sb ≠ g) (h2 : L ≠ g) (h3 : w.heap.size ≤ g) (v : Value) : SvI w (wr.setCell ⟨g, o, none⟩ v) sb L b l c i ci vi :=
  ⟨h.bl.setCell h3 _, by simpa [World.setCell] using h.lt, (cell_far h1).trans h.cs, ⟨by simpa [World.setCell] using h.lv.lt, fun i' c' v' a1 a2 a3 a4 => (cell_far h2).trans (h.lv.ok i' c' v' a1 a2 a3 a4), fun x hx => by rw [cell_far h2]; exact h.lv.th x hx, fun x => by simpa using h.lv.fr x⟩, h.ne, h.ge⟩
theorem top_at0 (b : Bool) (l : List Ev) {i L o : Nat} (hi : i ≠ 0) (wx : World) : Calls Tryz.prog 184 #[.pointer (some ⟨L, o, none⟩), sdV b, .int .i64 (-1)] wx fun e w' => e = .returned (.tuple #[.int .i64 (topI b l i 0).1, .int .i64 ((topI b l i 0).2 : Nat)]) ∧ Below wx.heap.size wx w' := by
  unfold topI topC
  rw [if_neg hi, if_pos rfl]
  exact top_less b L o wx
set_option maxRecDepth 100000 in
set_option maxHeartbeats 4000000 in
theorem solve_any (b : Bool) (A : Option Addr) (cap : Nat) (l : List Ev) (c : Nat) (w : World) (hr : Rd w w.heap.size A (evs l)) (hl : l.length ≤ 1000) (hw : ∀ e ∈ l, -1000 ≤ e.w ∧ e.w ≤ 1000) (hc : c ≤ 4) :
    Calls Tryz.prog 151 #[sdV b, .slice A l.length cap, .int .i64 (c : Nat)] w (Solved b l c w) := by
  have B0 := Blk.new w [sdF b] 213
  have hb0 := below_new w (.cells #[sdF b] 213)
  obtain ⟨Z, hmk, hlv⟩ := made_levels b l c (w.alloc (.cells #[sdF b] 213)) hl
  have hb1 := below_new (w.alloc (.cells #[sdF b] 213)) (.cells Z 254)
  rw [World.size_alloc] at hmk hlv hb1
  have B1 := B0.below (w' := (w.alloc (.cells #[sdF b] 213)).alloc (.cells Z 254)) (by rw [World.size_alloc]; exact hb1)
  have hS : SvI w ((w.alloc (.cells #[sdF b] 213)).alloc (.cells Z 254)) w.heap.size (w.heap.size + 1) b l c 0 0 0 :=
    ⟨hb0.trans (hb1.mono (by omega)), B1.lt, B1.cells 0 _ rfl, hlv, by omega, by omega⟩
  obtain ⟨W1, hW1⟩ : ∃ W1, (w.alloc (.cells #[sdF b] 213)).alloc (.cells Z 254) = W1 := ⟨_, rfl⟩
  rw [hW1] at hmk hS
  obtain ⟨sb, hsb⟩ : ∃ sb, w.heap.size = sb := ⟨_, rfl⟩
  have HS := Lib.hid hS
  have HR := Lib.hid hr
  clear hr hS hlv hb1 B1 hb0 B0
  unfold sdV
  go_enter Tryz.func151, Tryz.ntmps151
  go_wp2_with fail
  go_loopw [29] (fun h wr => ∃ i : Nat, i ≤ l.length ∧ h = .int .i64 i ∧ SvI w wr sb (sb + 1) b l c i 0 0) (fun h _ => l.length - (intOf h).toNat)
  case atStart => exact ⟨0, Nat.zero_le _, rfl, hsb ▸ HS.out⟩
  case round =>
    obtain ⟨i, hi, rfl, hv⟩ := hrel
    have HV := Lib.hid hv
    clear hv HS
    by_cases hlt : i < l.length
    · obtain ⟨ba, off, rfl, hba, c0, c1, c2, c3⟩ := (HR.out.below HV.out.bl).ev hlt
      have he := hw _ (List.getElem_mem hlt)
      generalize hee : l[i] = ee at *
      have BE := Blk.new wr [.int .i64 ee.lo, .int .i64 ee.hi, .int .i64 ee.m, .int .i64 ee.w] 223
      have hbe := below_new wr (.cells #[.int .i64 ee.lo, .int .i64 ee.hi, .int .i64 ee.m, .int .i64 ee.w] 223)
      have hE : EvB (wr.alloc (.cells #[.int .i64 ee.lo, .int .i64 ee.hi, .int .i64 ee.m, .int .i64 ee.w] 223)) wr.heap.size (sb + 1) ee :=
        ⟨BE.lt, BE.cells 0 _ rfl, BE.cells 1 _ rfl, BE.cells 2 _ rfl, BE.cells 3 _ rfl, by have := HV.out.lv.lt; omega⟩
      have HV1 := Lib.hid (HV.out.next hbe)
      have HE := Lib.hid hE
      obtain ⟨wq, hwq⟩ : ∃ wq, wr.alloc (.cells #[.int .i64 ee.lo, .int .i64 ee.hi, .int .i64 ee.m, .int .i64 ee.w] 223) = wq := ⟨_, rfl⟩
      obtain ⟨eb, heb⟩ : ∃ eb, wr.heap.size = eb := ⟨_, rfl⟩
      rw [hwq] at HV1 HE
      rw [heb] at HE
      clear BE hbe hE HV
      go_wp2_with fail
      go_loopw [36] (fun h wx => ∃ ci : Nat, ci ≤ c + 1 ∧ h = .int .i64 ci ∧ Hid (SvI w wx sb (sb + 1) b l c i ci 0) ∧ Hid (EvB wx eb (sb + 1) ee)) (fun h _ => c + 1 - (intOf h).toNat)
      case atStart => exact ⟨0, by omega, rfl, HV1, HE⟩
      case round =>
        obtain ⟨ci, hci, rfl, HX, HEX⟩ := hrel
        clear HV1 HE
        by_cases hcl : ci < c + 1
        · go_upto_if 40 with fail
          go_cut [13, 14] from 37 to 51 (fun s13 s14 wy => s13 = .int .i64 (topI b l i ci).1 ∧ s14 = .int .i64 ((topI b l i ci).2 : Nat) ∧ Hid (SvI w wy sb (sb + 1) b l c i ci 0) ∧ Hid (EvB wy eb (sb + 1) ee))
          case first =>
            by_cases h0 : i = 0
            · have ht : topI b l i ci = (0, 0) := by unfold topI; rw [if_pos h0]
              have hz : ¬ (0 < i) := by omega
              have HT := Lib.hid ht
              clear h0 ht
              go_wp2_with fail
              go_meet
              case rel => exact ⟨by rw [HT.out], by rw [HT.out]; rfl, HX, HEX⟩
            · obtain ⟨j, hj⟩ : ∃ j, i = j + 1 := ⟨i - 1, by omega⟩
              have hz : 0 < i := by omega
              have Qi : IntKind.i64.wrap ((i : Int) - 1) = (j : Int) := by rw [hj]; have := IntWalk.i64_in ((j : Int) + 1 - 1) (by omega); simp at this ⊢; exact this
              have hj0 : (0 : Int) ≤ (j : Int) := by omega
              have hjl : (j : Int) < (l.length : Int) := by omega
              have HJ := Lib.hid hj
              have H0 := Lib.hid h0
              have sl := HX.out.lt
              clear hj h0
              by_cases hc0 : ci = 0
              · have Qk : IntKind.i64.wrap ((ci : Int) - 1) = -1 := by rw [hc0]; rfl
                have CT : ∀ x, Below wr.heap.size wr x → Hid (Calls Tryz.prog 184 #[.pointer (some ⟨sb + 1, j * 505, none⟩), .agg #[sdF b], .int .i64 (-1)] x fun e w' => e = .returned (.tuple #[.int .i64 (topI b l i ci).1, .int .i64 ((topI b l i ci).2 : Nat)]) ∧ Below x.heap.size x w') := fun x hb => Lib.hid (by rw [hc0]; exact top_at0 b l H0.out x)
                have HC0 := Lib.hid hc0
                clear hc0
                go_wp2_with fail
                go_region_held3 (fun w' => w'.cell? ⟨sb, 0, none⟩ = some (sdF b) ∧ Below wr.heap.size wr w') (first | exact ⟨HX.out.cs, (Below.refl _ _).drew⟩ | exact keep1 sl (by assumption) (by assumption))
                  ((go_at_call 184; refine ((CT _ (And.right (by assumption))).out).mono ?_; rintro e w' ⟨rfl, hb⟩))
                all_goals
                  go_wp2_with fail
                  go_meet
                  case rel => exact ⟨rfl, rfl, Lib.hid (HX.out.next (And.right (by assumption))), Lib.hid (HEX.out.next (And.right (by assumption)))⟩
              · obtain ⟨k, hk⟩ : ∃ k, ci = k + 1 := ⟨ci - 1, by omega⟩
                have Qk : IntKind.i64.wrap ((ci : Int) - 1) = (k : Int) := by rw [hk]; have := IntWalk.i64_in ((k : Int) + 1 - 1) (by omega); simp at this ⊢; exact this
                have CT : ∀ x, Below wr.heap.size wr x → Hid (Calls Tryz.prog 184 #[.pointer (some ⟨sb + 1, j * 505, none⟩), .agg #[sdF b], .int .i64 (k : Nat)] x fun e w' => e = .returned (.tuple #[.int .i64 (topI b l i ci).1, .int .i64 ((topI b l i ci).2 : Nat)]) ∧ Below x.heap.size x w') := fun x hb => Lib.hid (top_at (HX.out.next hb) HJ.out (Nat.le_refl _) (by omega) hk (by omega) hc)
                have HK := Lib.hid hk
                have HC0 := Lib.hid hc0
                clear hk hc0
                go_wp2_with fail
                go_region_held3 (fun w' => w'.cell? ⟨sb, 0, none⟩ = some (sdF b) ∧ Below wr.heap.size wr w') (first | exact ⟨HX.out.cs, (Below.refl _ _).drew⟩ | exact keep1 sl (by assumption) (by assumption))
                  ((go_at_call 184; refine ((CT _ (And.right (by assumption))).out).mono ?_; rintro e w' ⟨rfl, hb⟩))
                all_goals
                  go_wp2_with fail
                  go_meet
                  case rel => exact ⟨rfl, rfl, Lib.hid (HX.out.next (And.right (by assumption))), Lib.hid (HEX.out.next (And.right (by assumption)))⟩
          case rest =>
            clear HX HEX
            obtain ⟨rfl, rfl, HX, HEX⟩ := hcut
            have HBE : i ≠ 0 → ∀ v, befL b l i ci v = (befP b (tabL b l i ci v) (topI b l i ci).1 v (topI b l i ci).2).1 := fun h v => by unfold befL topI; rw [if_neg h, if_neg h]
            have HB0 : i = 0 → ∀ v, befL b l i ci v = 0 := fun h v => by unfold befL; rw [if_pos h]
            have HBD := Lib.hid (fun v (hv : v < 101) => befL_bdd (b := b) hw hl hi ci v hv)
            have HTS := Lib.hid (fun v => tabL_succ b hlt ci v)
            rw [hee] at HTS
            have HBE' := Lib.hid HBE
            have HB0' := Lib.hid HB0
            clear HBE HB0
            generalize topI b l i ci = T at *
            go_wp2_with fail
            go_loopw [52] (fun h wx => ∃ vi : Nat, vi ≤ 101 ∧ h = .int .i64 vi ∧ Hid (SvI w wx sb (sb + 1) b l c i ci vi) ∧ Hid (EvB wx eb (sb + 1) ee)) (fun h _ => 101 - (intOf h).toNat)
            case atStart => exact ⟨0, by omega, rfl, HX, HEX⟩
            case round =>
              clear HX HEX
              obtain ⟨vi, hvi, rfl, HX, HEX⟩ := hrel
              by_cases hvl : vi < 101
              · go_upto_if 56 with fail
                go_cut [16] from 53 to 69 (fun s16 wy => s16 = .int .i64 (befL b l i ci vi) ∧ Hid (SvI w wy sb (sb + 1) b l c i ci vi) ∧ Hid (EvB wy eb (sb + 1) ee))
                case first =>
                  by_cases h0 : i = 0
                  · have HZ := Lib.hid (HB0'.out h0 vi)
                    have hz : ¬ (0 < i) := by omega
                    clear h0
                    go_wp2_with fail
                    go_meet
                    case rel => exact ⟨by rw [HZ.out], HX, HEX⟩
                  · obtain ⟨j, hj⟩ : ∃ j, i = j + 1 := ⟨i - 1, by omega⟩
                    have hz : 0 < i := by omega
                    have Qi : IntKind.i64.wrap ((i : Int) - 1) = (j : Int) := by rw [hj]; have := IntWalk.i64_in ((j : Int) + 1 - 1) (by omega); simp at this ⊢; exact this
                    have hj0 : (0 : Int) ≤ (j : Int) := by omega
                    have hjl : (j : Int) < (l.length : Int) := by omega
                    have HZ := Lib.hid (HBE'.out h0 vi)
                    have sl := HX.out.lt
                    have CB : ∀ x, Below wr.heap.size wr x → Hid (Calls Tryz.prog 185 #[.pointer (some ⟨sb + 1, j * 505, none⟩), .agg #[sdF b], .int .i64 (ci : Nat), .int .i64 (vi : Nat), .int .i64 T.1, .int .i64 (T.2 : Nat)] x fun e w' => e = .returned (.tuple #[.int .i64 (befP b (tabL b l i ci vi) T.1 vi T.2).1, .int .i64 ((befP b (tabL b l i ci vi) T.1 vi T.2).2 : Nat)]) ∧ Below x.heap.size x w') := fun x hb => Lib.hid (before_any b (sb + 1) (j * 505) ci vi T.2 (tabL b l i ci vi) T.1 x (by omega) hvl (by rw [hj]; exact (HX.out.next hb).lv.at_ (by omega) (by omega) (by omega) hvl) (HX.out.next hb).lv.lt)
                    clear hj h0
                    go_wp2_with fail
                    go_region_held3 (fun w' => w'.cell? ⟨sb, 0, none⟩ = some (sdF b) ∧ Below wr.heap.size wr w') (first | exact ⟨HX.out.cs, (Below.refl _ _).drew⟩ | exact keep1 sl (by assumption) (by assumption))
                      ((go_at_call 185; refine ((CB _ (And.right (by assumption))).out).mono ?_; rintro e w' ⟨rfl, hb⟩))
                    all_goals
                      go_wp2_with fail
                      go_meet
                      case rel => exact ⟨by rw [HZ.out], Lib.hid (HX.out.next (And.right (by assumption))), Lib.hid (HEX.out.next (And.right (by assumption)))⟩
                case rest =>
                  clear HX HEX
                  obtain ⟨rfl, HX, HEX⟩ := hcut
                  have hbd := HBD.out vi hvl
                  have hts := HTS.out vi
                  have HPUT := Lib.hid (HX.out.put hlt (by omega) hc hvl)
                  have hEP := fun v => Lib.hid (HEX.out.put (L := sb + 1) (o := i * 505 + ci * 101 + vi) v)
                  obtain ⟨u, hu⟩ := Option.isSome_iff_exists.1 (HX.out.lv.th (i * 505 + ci * 101 + vi) (by omega))
                  have hfz := HX.out.lv.fr (i * 505 + ci * 101 + vi)
                  have hLl := HX.out.lv.lt
                  obtain ⟨le, e0, e1, e2, e3, _⟩ := HEX.out
                  generalize befL b l i ci vi = n at *
                  generalize tabL b l (i + 1) ci vi = R at *
                  have HTS2 := Lib.hid hts
                  have HBD2 := Lib.hid hbd
                  unfold cellP big at HTS2
                  unfold bdd big at HBD2
                  clear hts hbd
                  by_cases hn : n = 1099511627776
                  · have d1 : (n != 1099511627776) = false := by simpa using hn
                    have HRV : Hid (R = 1099511627776) := Lib.hid (by rw [HTS2.out, if_neg (fun h => h.1 hn)])
                    have HN := Lib.hid hn
                    clear hn HTS2
                    go_wp2_with fail
                    rw [← HRV.out]
                    refine ⟨⟨vi + 1, by omega, by go_num, HPUT, hEP _⟩, by simp [intOf]; omega⟩
                  · have d1 : (n != 1099511627776) = true := by simpa using hn
                    have HN := Lib.hid hn
                    clear hn
                    go_wp2_with fail
                    refine (in_any _ _ _ _).mono ?_
                    rintro e w2 ⟨rfl, rfl⟩
                    cases hin : inB ((vi : Int) - 50) ee.lo ee.hi
                    · have HRV : Hid (R = 1099511627776) := Lib.hid (by
                        rw [HTS2.out, if_neg]
                        rintro ⟨_, h1, h2⟩
                        rw [inB_iff.2 ⟨h1, h2⟩] at hin; cases hin)
                      clear HTS2 hin
                      go_wp2_with fail
                      rw [← HRV.out]
                      refine ⟨⟨vi + 1, by omega, by go_num, HPUT, hEP _⟩, by simp [intOf]; omega⟩
                    · have hib := inB_iff.1 hin
                      have hbb := HBD2.out.resolve_left HN.out
                      have HRV : Hid (R = n + ee.w * ((vi : Int) - 50)) := Lib.hid (by rw [HTS2.out, if_pos ⟨HN.out, hib⟩])
                      have hmb := mul_bdd he (x := (vi : Int) - 50) (by omega)
                      have Q1 : IntKind.i64.wrap ((vi : Int) - 50) = (vi : Int) - 50 := IntWalk.i64_in _ (by omega)
                      generalize hx : ee.w * ((vi : Int) - 50) = M at *
                      have Q2 : IntKind.i64.wrap (ee.w * ((vi : Int) - 50)) = M := by rw [hx]; exact IntWalk.i64_in _ (by omega)
                      have Q3 : IntKind.i64.wrap (n + M) = n + M := IntWalk.i64_in _ (by omega)
                      have i0 : (0 : Int) ≤ (i : Int) := by omega
                      have i1 : (i : Int) < (l.length : Int) := by omega
                      have ci0 : (0 : Int) ≤ (ci : Int) := by omega
                      have ci1 : (ci : Int) < 5 := by omega
                      have vi0 : (0 : Int) ≤ (vi : Int) := by omega
                      have vi1 : (vi : Int) < 101 := by omega
                      have HIN := Lib.hid hin
                      clear HTS2 hin hx hbb hib hmb
                      go_wp2_with fail
                      go_still_tail 14, (by kernel_rfl)
                      go_wp2_with fail
                      rw [← HRV.out]
                      exact ⟨⟨vi + 1, by omega, by go_num, Lib.hid (HPUT.out.next (below_drew _)), Lib.hid ((hEP _).out.next (below_drew _))⟩, by simp [intOf]; omega⟩
              · have hve : vi = 101 := by omega
                subst hve
                go_wp2_with fail
                go_roundw
                case rel => exact ⟨ci + 1, hcl, by go_num, Lib.hid HX.out.row, HEX⟩
                case measure => simp [intOf]; omega
        · have hce : ci = c + 1 := by omega
          subst hce
          go_wp2_with fail
          go_roundw
          case rel => exact ⟨i + 1, hlt, by go_num, HX.out.event⟩
          case measure => simp [intOf]; omega
    · have hke : i = l.length := by omega
      subst hke
      clear hlt
      by_cases hl0 : l.length = 0
      · have d0 : ((l.length : Int) == 0) = true := by rw [hl0]; rfl
        have HL0 := Lib.hid hl0
        have hz : ¬ (0 < l.length) := by omega
        clear hl0
        go_wp2_with fail
        go_ret3
        exact ⟨HV.out.bl, .inl ⟨List.eq_nil_of_length_eq_zero HL0.out, rfl⟩⟩
      · have d0 : ((l.length : Int) == 0) = false := by simpa using hl0
        obtain ⟨j, hj⟩ : ∃ j, l.length = j + 1 := ⟨l.length - 1, by omega⟩
        have Qi : IntKind.i64.wrap ((l.length : Int) - 1) = (j : Int) := by rw [hj]; have := IntWalk.i64_in ((j : Int) + 1 - 1) (by omega); simp at this ⊢; exact this
        have hj0 : (0 : Int) ≤ (j : Int) := by omega
        have hjl : (j : Int) < (l.length : Int) := by omega
        have sl := HV.out.lt
        have CT : ∀ x, Below wr.heap.size wr x → Hid (Calls Tryz.prog 184 #[.pointer (some ⟨sb + 1, j * 505, none⟩), .agg #[sdF b], .int .i64 (c : Nat)] x fun e w' => e = .returned (.tuple #[.int .i64 (topP b (tabL b l l.length c) 101).1, .int .i64 ((topP b (tabL b l l.length c) 101).2 : Nat)]) ∧ Below x.heap.size x w') := fun x hb => Lib.hid (by
          have := top_at (HV.out.next hb) hj (Nat.le_refl _) (by omega) (k := c) rfl (Nat.le_refl _) hc
          unfold topI topC at this
          rw [if_neg hl0, if_neg (by omega)] at this
          exact this)
        have HJ := Lib.hid hj
        have HL0 := Lib.hid hl0
        have hlz : ¬ l = [] := by rintro rfl; exact HL0.out rfl
        have HLZ := Lib.hid hlz
        clear hj hl0 hlz
        go_upto_region 26 with fail
        go_region_held3 (fun w' => w'.cell? ⟨sb, 0, none⟩ = some (sdF b) ∧ Below wr.heap.size wr w') (first | exact ⟨HV.out.cs, (Below.refl _ _).drew⟩ | exact keep1 sl (by assumption) (by assumption))
          ((go_at_call 184; refine ((CT _ (And.right (by assumption))).out).mono ?_; rintro e w' ⟨rfl, hb⟩))
        have hbx : Below wr.heap.size wr _ := And.right (by assumption)
        rename_i w' _ _ _ _
        have HX := Lib.hid (HV.out.next hbx)
        clear CT HV hbx
        obtain ⟨TR, hTR⟩ : ∃ TR, trL b l l.length c (topP b (tabL b l l.length c) 101).2 = TR := ⟨_, rfl⟩
        have hsp := topP_spec b (tabL b l l.length c) 101
        have HSV : Hid (∀ e x, Below w.heap.size w x → ((l ≠ [] ∧ (topP b (tabL b l l.length c) 101).1 = big ∧ e = .returned (.tuple #[.int .i64 0, .slice none 0 0, .bool false])) ∨
    (l ≠ [] ∧ (topP b (tabL b l l.length c) 101).1 ≠ big ∧ ∃ v, e = .returned (.tuple #[.int .i64 (topP b (tabL b l l.length c) 101).1, v, .bool true]) ∧ x.ownsRow w.heap.size 3 1 v l.length (ints TR.reverse))) → Solved b l c w e x) := Lib.hid (fun e x hb h => ⟨hb, .inr (by rw [← hTR] at h; unfold trL at h; rw [List.take_length] at h; exact h)⟩)
        have HTRL : Hid (TR.length = l.length) := Lib.hid (by rw [← hTR]; exact trL_length b _ _ _ (Nat.le_refl _))
        generalize topP b (tabL b l l.length c) 101 = T at *
        obtain ⟨T1, T2⟩ := T
        dsimp only at hTR hsp HSV ⊢
        have HTR := Lib.hid hTR
        have HSP := Lib.hid hsp
        clear hTR hsp
        by_cases hT : T1 = 1099511627776
        · have d1 : (T1 == 1099511627776) = true := by simpa using hT
          have HT := Lib.hid hT
          clear hT
          go_wp2_with fail
          go_ret3
          exact HSV.out _ _ HX.out.bl (.inl ⟨HLZ.out, HT.out, rfl⟩)
        · have d1 : (T1 == 1099511627776) = false := by simpa using hT
          have HT := Lib.hid hT
          have hT2 := (HSP.out.resolve_left (fun h => hT h.1)).2.1
          clear hT
          obtain ⟨w2, hw2⟩ : ∃ x, x = w' := ⟨_, rfl⟩
          rw [← hw2] at HX
          obtain ⟨Z2, hmk2, hown⟩ := made_ints l.length w2 (by omega)
          have HO := Lib.hid hown
          have HX2 := Lib.hid (HX.out.next (below_new w2 (.cells Z2 3)))
          have n1 := HX.out.lt
          have n2 := HX.out.lv.lt
          have n3 := HX.out.bl.size
          clear HX hown
          obtain ⟨w3, hw3⟩ : ∃ x, w2.alloc (.cells Z2 3) = x := ⟨_, rfl⟩
          rw [hw3] at HX2 HO hmk2
          obtain ⟨ob, hob⟩ : ∃ x, w2.heap.size = x := ⟨_, rfl⟩
          rw [hob] at HO hmk2 n1 n2 n3
          rw [hw2] at hmk2
          go_wp2_with fail
          clear hmk hmk2 hj0 hjl Qi
          go_loopw [17, 19, 21] (fun cc av iv wx => ∃ (ii cv vv : Nat) (d : List Int), ii < l.length ∧ cc = .int .i64 cv ∧ av = .int .i64 vv ∧ iv = .int .i64 ii ∧ cv ≤ c ∧ vv < 101 ∧ Hid (SvI w wx sb (sb + 1) b l c l.length 0 0) ∧
            Hid (wx.ownsRow ob 3 1 (.slice (some ⟨ob, 0, none⟩) l.length l.length) l.length (ints d)) ∧ Hid (d.length = l.length) ∧ Hid (TR.drop (l.length - 1 - ii) = trL b l (ii + 1) cv vv) ∧ Hid (∀ k, ii < k → k < l.length → d[k]? = TR[l.length - 1 - k]?)) (fun _ _ iv _ => (intOf iv).toNat)
          case atStart =>
            have hj := HJ.out
            exact ⟨j, c, T2, List.replicate l.length 0, by omega, rfl, rfl, rfl, Nat.le_refl _, hT2, HX2, HO, Lib.hid (by simp), Lib.hid (by rw [show l.length - 1 - j = 0 by omega, ← hj]; exact HTR.out.symm), Lib.hid (fun k h1 h2 => by omega)⟩
          case round =>
            obtain ⟨ii, cv, vv, d, hii, rfl, rfl, rfl, hcv, hvv, HX3, HO3, HD, HDR, HDK⟩ := hrel
            clear HX2 HO
            have i0 : (0 : Int) ≤ (ii : Int) := by omega
            have i1 : (ii : Int) < (l.length : Int) := by omega
            have i2 : ¬ ((ii : Int) < 0) := by omega
            have cw := HO3.out.cellAt ii (by omega)
            rw [List.getElem?_eq_getElem (by rw [ints_length, HD.out]; exact hii)] at cw
            have fw := HO3.out.frozenAt ii
            have HST := Lib.hid (HO3.out.stored ii (.int .i64 ((vv : Int) - 50))).1
            have HX4 := Lib.hid (HX3.out.far (g := ob) (o := ii) (by omega) (by omega) (by omega) (.int .i64 ((vv : Int) - 50)))
            have olt : ob < wr.heap.size := by
              rcases HO3.out.2 with ⟨h, _⟩ | ⟨g, cap, cur, h, _, hg, _⟩
              · cases h
              · injection h with h; injection h with h; injection h with h; subst h
                exact (Array.getElem?_eq_some_iff.1 hg).1
            have hts := trL_succ b hii cv vv
            have HTS3 := Lib.hid hts
            clear hts
            by_cases hz : ii = 0
            · have d2 : ((ii : Int) == 0) = true := by rw [hz]; rfl
              have HZ := Lib.hid hz
              clear hz
              go_wp2_with fail
              have hlast : d.set ii ((vv : Int) - 50) = TR.reverse := by
                have hz := HZ.out
                subst hz
                refine tr_last HTRL.out HD.out hii ?_ HDK.out
                rw [HDR.out, HTS3.out, if_pos rfl]
              have hfin := HST.out
              rw [show (ints d).set ii (.int .i64 ((vv : Int) - 50)) = ints (d.set ii ((vv : Int) - 50)) by simp [ints, List.map_set], hlast] at hfin
              go_ret3
              exact HSV.out _ _ HX4.out.bl (.inr ⟨HLZ.out, HT.out, _, rfl, hfin.base_ (by omega)⟩)
            · have d2 : ((ii : Int) == 0) = false := by simpa using hz
              obtain ⟨j2, hj2⟩ : ∃ j, ii = j + 1 := ⟨ii - 1, by omega⟩
              have Qi : IntKind.i64.wrap ((ii : Int) - 1) = (j2 : Int) := by rw [hj2]; have := IntWalk.i64_in ((j2 : Int) + 1 - 1) (by omega); simp at this ⊢; exact this
              have j0 : (0 : Int) ≤ (j2 : Int) := by omega
              have j1 : (j2 : Int) < (l.length : Int) := by omega
              have HJ2 := Lib.hid hj2
              have HZ := Lib.hid hz
              clear hz hj2
              have sl := HX4.out.lt
              have HST' : Hid ((wr.setCell ⟨ob, ii, none⟩ (.int .i64 ((vv : Int) - 50))).ownsRow ob 3 1 (.slice (some ⟨ob, 0, none⟩) l.length l.length) l.length (ints (d.set ii ((vv : Int) - 50)))) := Lib.hid (by
                have := HST.out
                rwa [show (ints d).set ii (.int .i64 ((vv : Int) - 50)) = ints (d.set ii ((vv : Int) - 50)) by simp [ints, List.map_set]] at this)
              have HNX := Lib.hid (tr_next HTRL.out HD.out hii (by rw [HDR.out, HTS3.out]) HDK.out HJ2.out)
              rw [if_neg HZ.out] at HNX
              clear HST HTS3 HDR HDK HO3 HX3
              go_upto_region 35 with fail
              obtain ⟨wo, hwo⟩ : ∃ x, wr.setCell ⟨ob, ii, none⟩ (.int .i64 ((vv : Int) - 50)) = x := ⟨_, rfl⟩
              rw [hwo] at HX4 HST' sl ⊢
              go_cut [22, 23] from 134 to 151 (fun s22 s23 wy => s22 = .int .i64 (topI b l ii cv).1 ∧ s23 = .int .i64 ((topI b l ii cv).2 : Nat) ∧ Hid (Below wo.heap.size wo wy))
              case first =>
                by_cases hc0 : cv = 0
                · have Qk : IntKind.i64.wrap ((cv : Int) - 1) = -1 := by rw [hc0]; rfl
                  have CT : ∀ x, Below wo.heap.size wo x → Hid (Calls Tryz.prog 184 #[.pointer (some ⟨sb + 1, j2 * 505, none⟩), .agg #[sdF b], .int .i64 (-1)] x fun e w' => e = .returned (.tuple #[.int .i64 (topI b l ii cv).1, .int .i64 ((topI b l ii cv).2 : Nat)]) ∧ Below x.heap.size x w') := fun x hb => Lib.hid (by rw [hc0]; exact top_at0 b l HZ.out x)
                  have HC0 := Lib.hid hc0
                  clear hc0
                  go_region_held3 (fun w' => w'.cell? ⟨sb, 0, none⟩ = some (sdF b) ∧ Below wo.heap.size wo w') (first | exact ⟨HX4.out.cs, (Below.refl _ _).drew⟩ | exact keep1 sl (by assumption) (by assumption))
                    ((go_at_call 184; refine ((CT _ (And.right (by assumption))).out).mono ?_; rintro e w' ⟨rfl, hb⟩))
                  all_goals
                    go_wp2_with fail
                    go_meet
                    case rel => exact ⟨rfl, rfl, Lib.hid (And.right (by assumption))⟩
                · obtain ⟨k, hk⟩ : ∃ k, cv = k + 1 := ⟨cv - 1, by omega⟩
                  have Qk : IntKind.i64.wrap ((cv : Int) - 1) = (k : Int) := by rw [hk]; have := IntWalk.i64_in ((k : Int) + 1 - 1) (by omega); simp at this ⊢; exact this
                  have CT : ∀ x, Below wo.heap.size wo x → Hid (Calls Tryz.prog 184 #[.pointer (some ⟨sb + 1, j2 * 505, none⟩), .agg #[sdF b], .int .i64 (k : Nat)] x fun e w' => e = .returned (.tuple #[.int .i64 (topI b l ii cv).1, .int .i64 ((topI b l ii cv).2 : Nat)]) ∧ Below x.heap.size x w') := fun x hb => Lib.hid (top_at (HX4.out.next hb) HJ2.out (by omega) (by omega) hk (by omega) hc)
                  have HK := Lib.hid hk
                  have HC0 := Lib.hid hc0
                  clear hk hc0
                  go_region_held3 (fun w' => w'.cell? ⟨sb, 0, none⟩ = some (sdF b) ∧ Below wo.heap.size wo w') (first | exact ⟨HX4.out.cs, (Below.refl _ _).drew⟩ | exact keep1 sl (by assumption) (by assumption))
                    ((go_at_call 184; refine ((CT _ (And.right (by assumption))).out).mono ?_; rintro e w' ⟨rfl, hb⟩))
                  all_goals
                    go_wp2_with fail
                    go_meet
                    case rel => exact ⟨rfl, rfl, Lib.hid (And.right (by assumption))⟩
              case rest =>
                obtain ⟨rfl, rfl, HBc⟩ := hcut
                have HX5 := Lib.hid (HX4.out.next HBc.out)
                have HST5 := Lib.hid (own_block HST'.out (fun k hk => by injection hk with hk; subst hk; exact HBc.out.block ob (by rw [← hwo]; simpa [World.setCell] using olt)))
                have olt5 : ob < wc.heap.size := Nat.lt_of_lt_of_le (by rw [← hwo]; simpa [World.setCell] using olt) HBc.out.size
                have sl5 := HX5.out.lt
                have hti : topI b l ii cv = topC b (tabL b l ii) cv := by unfold topI; rw [if_neg HZ.out]
                have hbt : befT b l ii cv vv = befP b (tabL b l ii cv vv) (topI b l ii cv).1 vv (topI b l ii cv).2 := by rw [hti]; rfl
                have CB : ∀ x, Below wc.heap.size wc x → Hid (Calls Tryz.prog 185 #[.pointer (some ⟨sb + 1, j2 * 505, none⟩), .agg #[sdF b], .int .i64 (cv : Nat), .int .i64 (vv : Nat), .int .i64 (topI b l ii cv).1, .int .i64 ((topI b l ii cv).2 : Nat)] x fun e w' => e = .returned (.tuple #[.int .i64 (befT b l ii cv vv).1, .int .i64 ((befT b l ii cv vv).2 : Nat)]) ∧ Below x.heap.size x w') := fun x hb => Lib.hid (by
                  rw [hbt]
                  exact before_any b (sb + 1) (j2 * 505) cv vv (topI b l ii cv).2 (tabL b l ii cv vv) (topI b l ii cv).1 x (by omega) hvv (by rw [HJ2.out]; exact (HX5.out.next hb).lv.at_ (by have := HJ2.out; omega) (by have := HJ2.out; omega) hcv hvv) (HX5.out.next hb).lv.lt)
                have HNE := Lib.hid (fun h => befT_ne (b := b) (l := l) (i := ii) (c := cv) (v := vv) h)
                clear hbt hti HX4 HST' HBc
                generalize befT b l ii cv vv = N at *
                generalize topI b l ii cv = T at *
                go_upto_region 36 with fail
                go_region_held3 (fun w' => w'.cell? ⟨sb, 0, none⟩ = some (sdF b) ∧ Below wc.heap.size wc w') (first | exact ⟨HX5.out.cs, (Below.refl _ _).drew⟩ | exact keep1 sl5 (by assumption) (by assumption))
                  ((go_at_call 185; refine ((CB _ (And.right (by assumption))).out).mono ?_; rintro e w' ⟨rfl, hb⟩))
                have hby := Lib.hid (And.right (show _ ∧ Below wc.heap.size wc _ by assumption))
                have HX6 := Lib.hid (HX5.out.next hby.out)
                have HST6 := Lib.hid (own_block HST5.out (fun k hk => by injection hk with hk; subst hk; exact hby.out.block ob olt5))
                have hnx := HNX.out
                by_cases hv : N.2 = vv
                · have d3 : ((N.2 : Int) != (vv : Int)) = false := by rw [hv]; simp
                  have HV2 := Lib.hid hv
                  rw [if_neg (fun h => h hv)] at hnx
                  have HNX2 := Lib.hid hnx
                  clear hv hnx hby HNX
                  go_wp2_with fail
                  go_roundw
                  case rel =>
                    have hj := HJ2.out
                    exact ⟨j2, cv, vv, _, by omega, rfl, rfl, rfl, hcv, hvv, HX6, HST6, Lib.hid (by rw [List.length_set]; exact HD.out), Lib.hid (by rw [HNX2.out.1, ← hj]), Lib.hid HNX2.out.2⟩
                  case measure => have hj := HJ2.out; simp [intOf]; omega
                · have d3 : ((N.2 : Int) != (vv : Int)) = true := by simp; omega
                  obtain ⟨hc0, hn1⟩ := HNE.out hv
                  obtain ⟨k, hk⟩ : ∃ k, cv = k + 1 := ⟨cv - 1, by omega⟩
                  have Qk : IntKind.i64.wrap ((cv : Int) - 1) = (k : Int) := by rw [hk]; have := IntWalk.i64_in ((k : Int) + 1 - 1) (by omega); simp at this ⊢; exact this
                  have HV2 := Lib.hid hv
                  rw [if_pos hv, show cv - 1 = k by omega] at hnx
                  have HNX2 := Lib.hid hnx
                  have hkc : k ≤ c := by omega
                  have HK := Lib.hid hk
                  clear hv hnx hby HNX hk hc0
                  go_wp2_with fail
                  go_roundw
                  case rel =>
                    have hj := HJ2.out
                    exact ⟨j2, k, N.2, _, by omega, rfl, rfl, rfl, hkc, hn1, HX6, HST6, Lib.hid (by rw [List.length_set]; exact HD.out), Lib.hid (by rw [HNX2.out.1, ← hj]), Lib.hid HNX2.out.2⟩
                  case measure => have hj := HJ2.out; simp [intOf]; omega
end Go.Proofs.YtcdjoegihmfanaaGreat
namespace Go.Proofs.YtcdjoegihmfanaaGreat
open Go.RowKit Go.Maps
set_option linter.unusedVariables false
/-- How elements are told: as values, and as data. -/
structure Elm (α : Type) where
  enc : α → Value
  dat : α → DataW Unit
  R : Value → Option (DataW Unit × List MemPlace)
  hR : ∀ a, R (enc a) = some (dat a, [])
  inv : ∀ v z, R v = some z → ∃ a, v = enc a ∧ z.1 = dat a
  inj : ∀ a b, dat a = dat b → a = b
def i64ok (x : Int) : Prop := -9223372036854775808 ≤ x ∧ x ≤ 9223372036854775807
theorem lit_wf {x : Int} (h : i64ok x) : (Lit.int .i64 x).wf = true := by unfold i64ok at h; exact WalkArith.wf_i64 (by omega)
theorem key_lit (x : Int) : WideAt.IsKeyLit (.int .i64 x) := by simp [WideAt.IsKeyLit]
/-- The map in block b has at most n numbers, and holds f. -/
def MI {α : Type} (E : Elm α) (P : Program) (k : TypeId) (w : World) (b n : Nat) (f : Int → Option α) : Prop :=
  ∃ D : DataW Unit, w.ownsMap P k E.R b n D ∧ ∀ x, has D (.int .i64 x) = (f x).isSome ∧ ∀ a, f x = some a → ∀ z, D.atKey (.int .i64 x) z = E.dat a
section
variable {α : Type} {E : Elm α} {P : Program} {k e t : TypeId} {w w' : World} {b n : Nat} {f : Int → Option α}
theorem MI.new (E : Elm α) (P : Program) (k : TypeId) (w : World) : MI E P k (w.alloc (.map #[] 0)) w.heap.size 0 (fun _ => none) :=
  ⟨.map [], World.ownsMap_made w P k E.R, fun x => ⟨rfl, fun a h => by cases h⟩⟩
theorem MI.lt (h : MI E P k w b n f) : b < w.heap.size := by obtain ⟨D, h1, _⟩ := h; exact h1.lt
theorem MI.mono (h : MI E P k w b n f) {m : Nat} (hm : n ≤ m) : MI E P k w b m f := by obtain ⟨D, h1, h2⟩ := h; exact ⟨D, h1.mono hm, h2⟩
theorem MI.block (h : MI E P k w b n f) (hb : w'.heap[b]? = w.heap[b]?) : MI E P k w' b n f := by
  obtain ⟨D, ⟨es, clock, h1, h2⟩, h3⟩ := h
  exact ⟨D, ⟨es, clock, hb.trans h1, h2⟩, h3⟩
theorem MI.below (h : MI E P k w b n f) (hb : Below w.heap.size w w') : MI E P k w' b n f := h.block (hb.block b h.lt)
theorem MI.alloc (h : MI E P k w b n f) (o : Obj) : MI E P k (w.alloc o) b n f := by obtain ⟨D, h1, h2⟩ := h; exact ⟨D, h1.alloc o, h2⟩
theorem MI.drewN (h : MI E P k w b n f) (m : Nat) : MI E P k (w.drewN m) b n f := h
theorem MI.far (h : MI E P k w b n f) {a : Addr} (ha : b ≠ a.block) (u : Value) : MI E P k (w.setCell a u) b n f := by obtain ⟨D, h1, h2⟩ := h; exact ⟨D, h1.setCell ha u, h2⟩
theorem MI.look (h : MI E P k w b n f) (hk : P.underlying k = some (.int .i64)) (ht : P.underlying t = some (.map k e)) (a0 : α) (hz : (zeroValue e).run P w = .ok (E.enc a0) w) {x : Int} (hx : i64ok x) :
    (Instr.lookup t (.map (some b)) (.int .i64 x) false).run P w = .ok (E.enc ((f x).getD a0)) w := by
  obtain ⟨D, h1, h2⟩ := h
  obtain ⟨v, ps, hr, hv⟩ := h1.lookup (int_keyed hk) ht hz (E.hR a0) (keyOf_int_mk hk (lit_wf hx))
  obtain ⟨a, rfl, ha⟩ := E.inv _ _ hv
  obtain ⟨h3, h4⟩ := h2 x
  rw [hr]
  cases hf : f x with
  | none =>
    rw [hf] at h3
    have := atKey_of_not_has h3 (E.dat a0)
    rw [this] at ha
    rw [E.inj _ _ ha]; rfl
  | some c =>
    have := h4 c hf (E.dat a0)
    rw [this] at ha
    rw [E.inj _ _ ha]; rfl
theorem MI.update (h : MI E P k w b n f) (hk : P.underlying k = some (.int .i64)) (ht : P.underlying t = some (.map k e)) (hn : n < 1000000) {x : Int} (hx : i64ok x) (a : α) :
    ∃ w', (Instr.mapUpdate t (.map (some b)) (.int .i64 x) (E.enc a)).run P w = .ok () w' ∧ MI E P k w' b (n + 1) (fun y => if y = x then some a else f y) ∧ w.grownBy w' (some b) ∧ w'.heap.size = w.heap.size := by
  obtain ⟨D, h1, h2⟩ := h
  have him := h1.isMap
  obtain ⟨w', h3, h4, h5⟩ := h1.store (int_keyed hk) ht (by unfold maxLen; omega) (keyOf_int_mk hk (lit_wf hx)) (E.hR a)
  refine ⟨w', h3, ⟨_, h4, fun y => ?_⟩, h5.grown, ?_⟩
  · by_cases hy : y = x
    · subst hy
      simp only [if_true]
      exact ⟨has_put_same him (key_lit y) _, fun c hc z => by injection hc with hc; subst hc; exact atKey_put_same him (key_lit y) _ z⟩
    · simp only [if_neg hy]
      have hne : Lit.int .i64 y ≠ Lit.int .i64 x := by intro e; injection e with _ e; exact hy e
      exact ⟨(has_put_other hne _).trans (h2 y).1, fun c hc z => (atKey_put_other hne _ z).trans ((h2 y).2 c hc z)⟩
  · obtain ⟨es, clock, es', clock', hb, rfl⟩ := h5
    simp [Go.ChangeMaps.setBlock]
/-- A range over it under way: who is left, and how many. -/
def MR {α : Type} (E : Elm α) (P : Program) (k : TypeId) (w : World) (b r n : Nat) (f : Int → Option α) (left : Int → Bool) (cnt : Nat) : Prop :=
  ∃ (D : DataW Unit) (L : Lit → Bool), w.ranges P k E.R b r n D L cnt ∧ (∀ x, has D (.int .i64 x) = (f x).isSome ∧ ∀ a, f x = some a → ∀ z, D.atKey (.int .i64 x) z = E.dat a) ∧ (∀ x, L (.int .i64 x) = left x) ∧ ∀ x, left x = true → (f x).isSome = true
theorem MI.range (h : MI E P k w b n f) (hk : P.underlying k = some (.int .i64)) (ht : P.underlying t = some (.map k e)) :
    ∃ w' cnt, (Instr.range t (.map (some b))).run P w = .ok (.pointer (some ⟨w.heap.size, 0, none⟩)) w' ∧ MR E P k w' b w.heap.size n f (fun x => (f x).isSome) cnt ∧ Below w.heap.size w w' ∧ w'.heap.size = w.heap.size + 1 := by
  obtain ⟨D, h1, h2⟩ := h
  obtain ⟨w', h3, h4, h5, h6⟩ := h1.range (int_keyed hk) ht
  exact ⟨w', _, h3, ⟨D, _, h4, h2, fun x => (h2 x).1, fun x h => h⟩, ⟨h5.os, h5.tape, h5.output, h5.size, fun j hj => h5.block j hj (by simp)⟩, h6⟩
theorem MR.mi {r cnt : Nat} {left : Int → Bool} (h : MR E P k w b r n f left cnt) : MI E P k w b n f := by
  obtain ⟨D, L, h1, h2, _⟩ := h; exact ⟨D, h1.owns, h2⟩
theorem MR.lt {r cnt : Nat} {left : Int → Bool} (h : MR E P k w b r n f left cnt) : r < w.heap.size := by
  obtain ⟨D, L, h1, _⟩ := h; exact h1.lt
theorem MR.ne {r cnt : Nat} {left : Int → Bool} (h : MR E P k w b r n f left cnt) : r ≠ b := by
  obtain ⟨D, L, h1, _⟩ := h; exact h1.ne
theorem MR.kept {r cnt : Nat} {left : Int → Bool} {row : Option Nat} (h : MR E P k w b r n f left cnt) (hg : w.grownBy w' row) (hb : some b ≠ row) (hr : some r ≠ row) : MR E P k w' b r n f left cnt := by
  obtain ⟨D, L, h1, h2⟩ := h; exact ⟨D, L, h1.kept hg hb hr, h2⟩
theorem MR.next {r cnt : Nat} {left : Int → Bool} (h : MR E P k w b r n f left cnt) (hk : P.underlying k = some (.int .i64)) (ty : TypeId) :
    (cnt = 0 ∧ (∀ x, left x = false) ∧ (Instr.next (.pointer (some ⟨r, 0, none⟩)) false ty).run P w = .ok (.tuple #[.bool false]) w) ∨
    ∃ x a w' cnt', i64ok x ∧ left x = true ∧ f x = some a ∧ (Instr.next (.pointer (some ⟨r, 0, none⟩)) false ty).run P w = .ok (.tuple #[.bool true, .int .i64 x, E.enc a]) w' ∧
      MR E P k w' b r n f (fun y => left y && decide (y ≠ x)) cnt' ∧ cnt' < cnt ∧ w.grownBy w' (some r) ∧ w'.heap.size = w.heap.size ∧ (Instr.entry (.pointer (some ⟨r, 0, none⟩))).run P w' = .ok (.tuple #[.int .i64 x, E.enc a]) w' := by
  obtain ⟨D, L, h1, h2, h3, h4⟩ := h
  rcases h1.next (int_keyed hk) ty with ⟨i1, i2, i3⟩ | ⟨key, v, kl, y, w', cnt', i1, i2, i3, i4, i5, i6, i7, i8, i9, i10⟩
  · exact .inl ⟨i1, fun x => by rw [← h3]; exact i2 _, i3⟩
  · obtain ⟨x, rfl, rfl, hwf⟩ := Maps.keyOf_int_inv hk i1
    obtain ⟨a, rfl, ha⟩ := E.inv _ _ i3
    have hl : left x = true := by rw [← h3]; exact i2
    have hs := h4 x hl
    obtain ⟨c, hc⟩ := Option.isSome_iff_exists.1 hs
    have hca : c = a := by
      have e1 := (h2 x).2 c hc (E.dat c)
      rw [i4] at e1
      exact E.inj _ _ (e1.symm.trans ha)
    subst hca
    refine .inr ⟨x, c, w', cnt', ?_, hl, hc, i5, ⟨D, _, i6, h2, fun z => ?_, fun z hz => ?_⟩, i7, i8, i9, i10⟩
    · have := hwf
      simp only [Lit.wf, Bool.and_eq_true, decide_eq_true_eq] at this
      exact this
    · show (L (Lit.int .i64 z) && !(Lit.int .i64 z).sameKey (Lit.int .i64 x)) = _
      rw [h3]
      by_cases hz : z = x
      · subst hz; simp [Lit.sameKey]
      · simp [Lit.sameKey, hz]
    · simp only [Bool.and_eq_true] at hz
      exact h4 z hz.1
end
/-- Numbers, and truths, as elements. -/
def intE : Elm Int where
  enc := .int .i64
  dat := fun a => .lit (.int .i64 a)
  R := fun v => match v with | .int .i64 a => some (.lit (.int .i64 a), []) | _ => none
  hR := fun _ => rfl
  inv := fun v z h => by
    split at h
    · injection h with h; subst h; exact ⟨_, rfl, rfl⟩
    · cases h
  inj := fun a b h => by injection h with h; injection h
def boolE : Elm Bool where
  enc := .bool
  dat := fun a => .lit (.bool a)
  R := fun v => match v with | .bool a => some (.lit (.bool a), []) | _ => none
  hR := fun _ => rfl
  inv := fun v z h => by
    split at h
    · injection h with h; subst h; exact ⟨_, rfl, rfl⟩
    · cases h
  inj := fun a b h => by injection h with h; injection h
/-- Spans as elements. -/
def spanE : Elm (Int × Int) where
  enc := fun p => .agg #[.int .i64 p.1, .int .i64 p.2]
  dat := fun p => .agg [.lit (.int .i64 p.1), .lit (.int .i64 p.2)]
  R := fun v => match v with | .agg ⟨[.int .i64 a, .int .i64 b]⟩ => some (.agg [.lit (.int .i64 a), .lit (.int .i64 b)], []) | _ => none
  hR := fun _ => rfl
  inv := fun v z h => by
    split at h
    · injection h with h; subst h; exact ⟨(_, _), rfl, rfl⟩
    · cases h
  inj := fun a b h => by
    obtain ⟨a1, a2⟩ := a
    obtain ⟨b1, b2⟩ := b
    injection h with h
    injection h with h1 h
    injection h with h2 h
    injection h1 with h1
    injection h2 with h2
    injection h1 with _ h1
    injection h2 with _ h2
    simp only at h1 h2
    rw [h1, h2]
end Go.Proofs.YtcdjoegihmfanaaGreat
namespace Go.Proofs.YtcdjoegihmfanaaGreat
open Go.RowKit Go.Maps
set_option linter.unusedVariables false
theorem MI.keys {α : Type} {E : Elm α} {P : Program} {k : TypeId} {w : World} {b n : Nat} {f : Int → Option α} (h : MI E P k w b n f) (hk : P.underlying k = some (.int .i64)) :
    ∃ D : DataW Unit, w.ownsMap P k E.R b n D ∧ Maps.size D ≤ n ∧ ∀ ss : List Int, ss.Perm (intKeys D) → ss.Nodup ∧ ss.length ≤ n ∧ (∀ x, x ∈ ss ↔ (f x).isSome = true) ∧ ∀ x ∈ ss, i64ok x := by
  obtain ⟨D, h1, h2⟩ := h
  have hsz : Maps.size D ≤ n := by
    obtain ⟨es, clock, hb, F, hs, rfl⟩ := h1
    simpa [Maps.size, length_sorted] using hs
  refine ⟨D, h1, hsz, fun ss hss => ?_⟩
  have hwf := intKeys_wf h1 hk
  obtain ⟨es, hD, hpw, _⟩ := h1.entries (int_keyed hk)
  obtain ⟨es', hD', hko⟩ := h1.keysOf
  obtain rfl : es = es' := by rw [hD] at hD'; simpa using hD'
  subst hD
  have hki : ∀ p ∈ es, ∃ x, p.1 = .int .i64 x := fun p hp => by obtain ⟨v, hv⟩ := hko p hp; obtain ⟨x, _, hx, _⟩ := Maps.keyOf_i64 hk hv; exact ⟨x, hx⟩
  refine ⟨hss.nodup_iff.2 ?_, ?_, fun x => ?_, fun x hx => ?_⟩
  · show (es.map fun p => Go.intOf p.1).Nodup
    refine List.pairwise_map.2 (hpw.imp_of_mem fun {p q} hp' hq' hne e => hne ?_)
    obtain ⟨a, ha⟩ := hki p hp'
    obtain ⟨b, hb⟩ := hki q hq'
    rw [ha, hb] at e ⊢
    exact congrArg _ e
  · rw [hss.length_eq]
    simpa [intKeys, Maps.size] using hsz
  · rw [hss.mem_iff, ← (h2 x).1, has_eq, List.any_eq_true]
    show x ∈ es.map (fun p => Go.intOf p.1) ↔ _
    rw [List.mem_map]
    constructor
    · rintro ⟨p, hp', rfl⟩
      obtain ⟨a, ha⟩ := hki p hp'
      exact ⟨p, hp', by rw [ha]; simp [Lit.sameKey, Go.intOf]⟩
    · rintro ⟨p, hp', hs⟩
      obtain ⟨a, ha⟩ := hki p hp'
      rw [ha] at hs
      exact ⟨p, hp', by rw [ha]; simpa [Lit.sameKey, Go.intOf] using hs⟩
  · have := hwf x (hss.mem_iff.1 hx)
    simp only [Lit.wf, Bool.and_eq_true, decide_eq_true_eq] at this
    exact this
theorem MI.rangeN {α : Type} {E : Elm α} {P : Program} {k e t : TypeId} {w : World} {b n : Nat} {f : Int → Option α} (h : MI E P k w b n f) (hk : P.underlying k = some (.int .i64)) (ht : P.underlying t = some (.map k e)) :
    ∃ w' cnt, (Instr.range t (.map (some b))).run P w = .ok (.pointer (some ⟨w.heap.size, 0, none⟩)) w' ∧ MR E P k w' b w.heap.size n f (fun x => (f x).isSome) cnt ∧ Below w.heap.size w w' ∧ w'.heap.size = w.heap.size + 1 ∧ cnt ≤ n := by
  obtain ⟨D, h1, h2⟩ := h
  have hsz : Maps.size D ≤ n := by
    obtain ⟨es, clock, hb, F, hs, rfl⟩ := h1
    simpa [Maps.size, length_sorted] using hs
  obtain ⟨w', h3, h4, h5, h6⟩ := h1.range (int_keyed hk) ht
  exact ⟨w', _, h3, ⟨D, _, h4, h2, fun x => (h2 x).1, fun x h => h⟩, ⟨h5.os, h5.tape, h5.output, h5.size, fun j hj => h5.block j hj (by simp)⟩, h6, hsz⟩
theorem sorted_lt {ss : List Int} (hn : ss.Nodup) : (ss.mergeSort fun x y => decide (x ≤ y)).Pairwise (· < ·) := by
  have h1 : (ss.mergeSort fun x y => decide (x ≤ y)).Pairwise fun a b => decide (a ≤ b) = true :=
    List.pairwise_mergeSort (fun a b c h1 h2 => by simp only [decide_eq_true_eq] at *; omega) (fun a b => by simp only [Bool.or_eq_true, decide_eq_true_eq]; omega) ss
  have h2 : (ss.mergeSort fun x y => decide (x ≤ y)).Pairwise fun a b => a ≠ b := (List.mergeSort_perm ss _).nodup_iff.2 hn
  exact h1.imp₂ (fun a b h h' => by simp only [decide_eq_true_eq] at h; omega) h2
/-- What stands at each minute: all where it is asked, the spans of proofs over it. -/
def stepF (e0 e1 : Int) (ps : List Pr) (f : Int → Option (Int × Int)) (i : Nat) : Int → Option (Int × Int) := fun y => if y = (pAt ps i).m then some (spI e0 e1 ps i) else f y
def spF (e0 e1 : Int) (ps : List Pr) (l : List Nat) (f : Int → Option (Int × Int)) : Int → Option (Int × Int) := l.foldl (stepF e0 e1 ps) f
theorem spF_snoc (e0 e1 : Int) (ps : List Pr) (l : List Nat) (i : Nat) (f : Int → Option (Int × Int)) : spF e0 e1 ps (l ++ [i]) f = fun y => if y = (pAt ps i).m then some (spI e0 e1 ps i) else spF e0 e1 ps l f y := by
  unfold spF; rw [List.foldl_append]; rfl
def askF (asks : List (Int × Int)) : Int → Option Int := fun m => if hasAt asks m = true then some (sumAt asks m) else none
def allF (asks : List (Int × Int)) : Int → Option (Int × Int) := fun m => if hasAt asks m = true then some (-50, 50) else none
theorem spF_out {e0 e1 : Int} {ps : List Pr} {m : Int} : ∀ {l : List Nat} {f : Int → Option (Int × Int)}, (∀ i ∈ l, (pAt ps i).m ≠ m) → spF e0 e1 ps l f m = f m
  | [], _, _ => rfl
  | i :: l, f, h => by
    show spF e0 e1 ps l (stepF e0 e1 ps f i) m = f m
    rw [spF_out fun j hj => h j (List.mem_cons_of_mem _ hj)]
    exact if_neg fun e => h i (by simp) e.symm
theorem spF_in {e0 e1 : Int} {ps : List Pr} : ∀ {l : List Nat} {f : Int → Option (Int × Int)}, (l.Pairwise fun i j => (pAt ps i).m < (pAt ps j).m) → ∀ i ∈ l, spF e0 e1 ps l f (pAt ps i).m = some (spI e0 e1 ps i)
  | j :: l, f, h, i, hi => by
    rw [List.pairwise_cons] at h
    show spF e0 e1 ps l (stepF e0 e1 ps f j) _ = _
    rcases List.mem_cons.1 hi with rfl | hi
    · rw [spF_out fun k hk => by have := h.1 k hk; omega]
      exact if_pos rfl
    · exact spF_in h.2 i hi
/-- The event of a minute. -/
def evK (e0 e1 : Int) (ps : List Pr) (n : Int) (asks : List (Int × Int)) (m : Int) : Ev :=
  ⟨m, ((spF e0 e1 ps (ordL ps n) (allF asks) m).getD (0, 0)).1, ((spF e0 e1 ps (ordL ps n) (allF asks) m).getD (0, 0)).2, (askF asks m).getD 0⟩
theorem sortedE_keys {g : Int → Ev} (hg : ∀ m, (g m).m = m) : ∀ {K : List Int}, K.Pairwise (· < ·) → sortedE (K.map g)
  | [], _ => trivial
  | a :: K, h => by
    rw [List.pairwise_cons] at h
    refine ⟨fun x hx => ?_, sortedE_keys hg h.2⟩
    simp only [List.mem_map] at hx
    obtain ⟨j, hj, rfl⟩ := hx
    rw [hg, hg]
    exact h.1 j hj
theorem sumAt_out {q : List (Int × Int)} {m : Int} : hasAt q m = false → sumAt q m = 0 := by
  induction q with
  | nil => intro _; rfl
  | cons a q ih =>
    intro h
    simp only [hasAt, List.any_cons, Bool.or_eq_false_iff, beq_eq_false_iff_ne] at h
    simp only [sumAt, if_neg h.1]
    have := ih h.2
    omega
theorem askF_getD (asks : List (Int × Int)) (m : Int) : (askF asks m).getD 0 = sumAt asks m := by
  unfold askF
  cases h : hasAt asks m with
  | true => rfl
  | false => rw [sumAt_out h]; rfl
theorem events_eq {e0 e1 : Int} {ps : List Pr} (h : Once ps) (n : Int) (asks : List (Int × Int)) {K : List Int} (hK : K.Pairwise (· < ·)) (hm : ∀ m, m ∈ K ↔ (spF e0 e1 ps (ordL ps n) (allF asks) m).isSome = true) :
    K.map (evK e0 e1 ps n asks) = evP e0 e1 ps n asks := by
  have hg : ∀ m, (evK e0 e1 ps n asks m).m = m := fun _ => rfl
  have hs := sortedE_keys hg hK
  have ho := ordL_is h n
  refine sortedE_ext hs (evP_sorted h n asks) fun m => ?_
  obtain ⟨q1, q2⟩ := evP_at (e0 := e0) (e1 := e1) h n asks m
  have hin : m ∈ K → evAt (K.map (evK e0 e1 ps n asks)) m = some ((evK e0 e1 ps n asks m).lo, (evK e0 e1 ps n asks m).hi, (evK e0 e1 ps n asks m).w) := fun hm => by
    have := mem_evAt hs (List.mem_map_of_mem (f := evK e0 e1 ps n asks) hm)
    rwa [hg] at this
  have hout : m ∉ K → evAt (K.map (evK e0 e1 ps n asks)) m = none := fun hm => evAt_none fun e he => by
    simp only [List.mem_map] at he
    obtain ⟨j, hj, rfl⟩ := he
    rw [hg]
    rintro rfl
    exact hm hj
  by_cases hp : ∃ i, i < ps.length ∧ (pAt ps i).b = n ∧ (pAt ps i).m = m
  · obtain ⟨i, h1, h2, rfl⟩ := hp
    have hF := spF_in (e0 := e0) (e1 := e1) (f := allF asks) ho.1 i ((ho.2 i).2 ⟨h1, h2⟩)
    rw [q1 i h1 h2 rfl, hin ((hm _).2 (by rw [hF]; rfl))]
    simp only [evK, hF, askF_getD, Option.getD_some]
  · have hno : ∀ i, i < ps.length → (pAt ps i).b = n → (pAt ps i).m ≠ m := fun i h1 h2 h3 => hp ⟨i, h1, h2, h3⟩
    have hF := spF_out (e0 := e0) (e1 := e1) (ps := ps) (f := allF asks) (m := m) (l := ordL ps n) fun i hi => by obtain ⟨a, b⟩ := (ho.2 i).1 hi; exact hno i a b
    rw [q2 hno]
    cases ha : hasAt asks m with
    | true =>
      have hF2 : spF e0 e1 ps (ordL ps n) (allF asks) m = some (-50, 50) := by rw [hF]; unfold allF; rw [if_pos ha]
      rw [hin ((hm _).2 (by rw [hF2]; rfl))]
      simp [evK, hF2, askF_getD]
    | false =>
      have hF2 : spF e0 e1 ps (ordL ps n) (allF asks) m = none := by rw [hF]; unfold allF; rw [if_neg (by rw [ha]; simp)]
      rw [hout (fun h => by have := (hm _).1 h; rw [hF2] at this; cases this)]
      simp
theorem evP_length_le (e0 e1 : Int) (ps : List Pr) (n : Int) (asks : List (Int × Int)) : (evP e0 e1 ps n asks).length ≤ (ordL ps n).length + asks.length := by
  unfold evP putA
  have h : ∀ (asks : List (Int × Int)) (l : List Ev), (asks.foldl (fun l p => putE l ⟨p.1, -50, 50, p.2⟩) l).length ≤ l.length + asks.length := by
    intro asks
    induction asks with
    | nil => intro l; simp
    | cons a t ih =>
      intro l
      simp only [List.foldl_cons, List.length_cons]
      have h1 := ih (putE l ⟨a.1, -50, 50, a.2⟩)
      have h2 := (putE_length l ⟨a.1, -50, 50, a.2⟩).1
      omega
  have := h asks ((ordL ps n).map (evI e0 e1 ps))
  simpa using this
theorem hasAt_append (a b : List (Int × Int)) (m : Int) : hasAt (a ++ b) m = (hasAt a m || hasAt b m) := by simp [hasAt]
theorem sumAt_append : ∀ (a b : List (Int × Int)) (m : Int), sumAt (a ++ b) m = sumAt a m + sumAt b m
  | [], b, m => by simp [sumAt]
  | p :: a, b, m => by
    simp only [List.cons_append, sumAt, sumAt_append a b m]; omega
theorem askF_snoc (asks : List (Int × Int)) (x d : Int) : askF (asks ++ [(x, d)]) = fun y => if y = x then some ((askF asks x).getD 0 + d) else askF asks y := by
  funext y
  have h1 : hasAt [(x, d)] y = (x == y) := by simp [hasAt]
  have h2 : sumAt [(x, d)] y = if x = y then d else 0 := by simp [sumAt]
  simp only [askF_getD]
  simp only [askF, hasAt_append, sumAt_append, h1, h2]
  by_cases e : y = x
  · subst e; simp
  · have e' : ¬ x = y := fun h => e h.symm
    simp [e, e']
theorem asksOf_snoc (ts : List Tr) (t : Tr) (n : Int) : asksOf (ts ++ [t]) n = (asksOf ts n ++ if t.ib = n then [(t.im, -1)] else []) ++ if t.ob = n then [(t.om, 1)] else [] := by
  unfold asksOf; rw [List.flatMap_append]; simp
theorem asksOf_length (ts : List Tr) (n : Int) : (asksOf ts n).length ≤ 2 * ts.length := by
  unfold asksOf
  induction ts with
  | nil => simp
  | cons t ts ih =>
    simp only [List.flatMap_cons, List.length_append, List.length_cons]
    have h1 : (if t.ib = n then [(t.im, (-1 : Int))] else []).length ≤ 1 := by split <;> simp
    have h2 : (if t.ob = n then [(t.om, (1 : Int))] else []).length ≤ 1 := by split <;> simp
    omega
/-- What can be asked: not too much. -/
def okAsks (asks : List (Int × Int)) : Prop := asks.length ≤ 900 ∧ ∀ p ∈ asks, -1 ≤ p.2 ∧ p.2 ≤ 1
theorem sumAt_bd : ∀ {asks : List (Int × Int)}, (∀ p ∈ asks, -1 ≤ p.2 ∧ p.2 ≤ 1) → ∀ m, -(asks.length : Int) ≤ sumAt asks m ∧ sumAt asks m ≤ asks.length
  | [], _, m => by simp [sumAt]
  | p :: t, h, m => by
    have h1 := sumAt_bd (asks := t) (fun q hq => h q (List.mem_cons_of_mem _ hq)) m
    have h2 := h p (by simp)
    simp only [sumAt, List.length_cons]
    split <;> omega
theorem evP_w {e0 e1 : Int} {ps : List Pr} (h : Once ps) {n : Int} {asks : List (Int × Int)} : ∀ e ∈ evP e0 e1 ps n asks, e.w = sumAt asks e.m := by
  intro e he
  have h1 := mem_evAt (evP_sorted h n asks) he
  obtain ⟨q1, q2⟩ := evP_at (e0 := e0) (e1 := e1) h n asks e.m
  by_cases hp : ∃ i, i < ps.length ∧ (pAt ps i).b = n ∧ (pAt ps i).m = e.m
  · obtain ⟨i, a, b, c⟩ := hp
    rw [q1 i a b c] at h1
    injection h1 with h1; injection h1 with _ h1; injection h1 with _ h1
    exact h1.symm
  · rw [q2 fun i a b c => hp ⟨i, a, b, c⟩] at h1
    split at h1
    · injection h1 with h1; injection h1 with _ h1; injection h1 with _ h1
      exact h1.symm
    · cases h1
theorem evP_bd {e0 e1 : Int} {ps : List Pr} (h : Once ps) {n : Int} {asks : List (Int × Int)} (ha : okAsks asks) : ∀ e ∈ evP e0 e1 ps n asks, -1000 ≤ e.w ∧ e.w ≤ 1000 := by
  intro e he
  rw [evP_w h e he]
  have h1 := sumAt_bd ha.2 e.m
  have h2 := ha.1
  omega
theorem okAsks_trips {ts : List Tr} (h : ts.length ≤ 400) (n : Int) : okAsks (asksOf ts n) := by
  refine ⟨by have := asksOf_length ts n; omega, fun p hp => ?_⟩
  unfold asksOf at hp
  simp only [List.mem_flatMap, List.mem_append] at hp
  obtain ⟨t, _, h1 | h1⟩ := hp
  · split at h1
    · simp only [List.mem_singleton] at h1; subst h1; simp
    · simp at h1
  · split at h1
    · simp only [List.mem_singleton] at h1; subst h1; simp
    · simp at h1
/-- Best sums, in the words of the reference. -/
def solS (b : Bool) (l : List Ev) (c : Nat) : Int := match sumsR l c with | none => 0 | some p => pick b p
def solB (l : List Ev) (c : Nat) : Bool := (sumsR l c).isSome
end Go.Proofs.YtcdjoegihmfanaaGreat
namespace Go.Proofs.YtcdjoegihmfanaaGreat
open Go.RowKit
set_option linter.unusedVariables false
theorem tabL_all (b : Bool) (l : List Ev) : tabL b l l.length = levP b l.reverse := by unfold tabL; rw [List.take_length]
/-- The values that make the best sum. -/
def solX (b : Bool) (l : List Ev) (c : Nat) : List Int := if l = [] ∨ solB l c = false then [] else (traceP b l.reverse c (topP b (levP b l.reverse c) 101).2).reverse
theorem nil_own {w : World} {B : Nat} {E : TypeId} {size : Nat} : w.ownsRow B E size (.slice none 0 0) 0 [] := ⟨by simp, .inl ⟨rfl, rfl⟩⟩
theorem Solved.sums {b : Bool} {l : List Ev} {c : Nat} {W w' : World} {e : Ending} (h : Solved b l c W e w') (hw : ∀ e ∈ l, -1000 ≤ e.w ∧ e.w ≤ 1000) (hlen : l.length ≤ 1000) :
    Below W.heap.size W w' ∧ ∃ v, e = .returned (.tuple #[.int .i64 (solS b l c), v, .bool (solB l c)]) ∧ w'.ownsRow W.heap.size 3 1 v (solX b l c).length (ints (solX b l c)) := by
  obtain ⟨hb, h⟩ := h
  refine ⟨hb, ?_⟩
  rw [tabL_all] at h
  rcases h with ⟨rfl, rfl⟩ | ⟨hl, ht, rfl⟩ | ⟨hl, ht, v, rfl, hv⟩
  · refine ⟨.slice none 0 0, ?_, ?_⟩
    · cases b <;> rfl
    · have : solX b [] c = [] := if_pos (.inl rfl)
      rw [this]; exact nil_own
  · rcases solve_sum b l c hl hw hlen with ⟨h1, h2⟩ | ⟨p, h1, h2, h3⟩
    · have h4 : solB l c = false := by unfold solB; rw [h1]; rfl
      refine ⟨.slice none 0 0, ?_, ?_⟩
      · rw [h4]; unfold solS; rw [h1]
      · have : solX b l c = [] := if_pos (.inr h4)
        rw [this]; exact nil_own
    · exact absurd (h2.symm.trans ht) h3
  · rcases solve_sum b l c hl hw hlen with ⟨h1, h2⟩ | ⟨p, h1, h2, h3⟩
    · exact absurd h2 ht
    · have h4 : solB l c = true := by unfold solB; rw [h1]; rfl
      have h5 : solX b l c = (traceP b l.reverse c (topP b (levP b l.reverse c) 101).2).reverse := if_neg (by rw [h4]; simp [hl])
      refine ⟨v, ?_, ?_⟩
      · rw [h4, h2]; unfold solS; rw [h1]
      · rw [h5]
        have hn : (traceP b l.reverse c (topP b (levP b l.reverse c) 101).2).reverse.length = l.length := by
          have := trL_length b (l := l) l.length c (topP b (levP b l.reverse c) 101).2 (Nat.le_refl _)
          unfold trL at this
          rw [List.take_length] at this
          rw [List.length_reverse, this]
        rw [hn]; exact hv
theorem solve_sums (b : Bool) (A : Option Addr) (cap : Nat) (l : List Ev) (c : Nat) (w : World) (hr : Rd w w.heap.size A (evs l)) (hl : l.length ≤ 1000) (hw : ∀ e ∈ l, -1000 ≤ e.w ∧ e.w ≤ 1000) (hc : c ≤ 4) :
    Calls Tryz.prog 151 #[sdV b, .slice A l.length cap, .int .i64 (c : Nat)] w fun e w' => ∃ v, e = .returned (.tuple #[.int .i64 (solS b l c), v, .bool (solB l c)]) ∧ w'.ownsRow w.heap.size 3 1 v (solX b l c).length (ints (solX b l c)) ∧ Below w.heap.size w w' :=
  (solve_any b A cap l c w hr hl hw hc).mono fun e w' h => by
    obtain ⟨hb, v, h1, h2⟩ := h.sums hw hl
    exact ⟨v, h1, h2, hb⟩
end Go.Proofs.YtcdjoegihmfanaaGreat
namespace Go.Proofs.YtcdjoegihmfanaaGreat
open Go.RowKit Go.Shelf Go.Maps Go.Sort
set_option linter.unusedVariables false
theorem keyI : Tryz.prog.underlying 3 = some (.int .i64) := by kernel_rfl
theorem sortsZ (m : Nat) : AnyZI.SortsIn Tryz.prog Tryz.laysSorted_ren Fence.wide m :=
  ⟨fun blk off cap ss W hH hblk hsz => callsIn_wide.2 (AnyM.slices_Sort_int Tryz.laysSort blk off cap ss W hH hblk hsz),
   fun p cap W => callsIn_wide.2 (AnyM.slices_Sort_int_none Tryz.laysSort p cap W)⟩
theorem keys_any (mb : Option Nat) (W : World) : Calls Tryz.prog 183 #[.map mb] W fun e w' => e = .returned (.func (.func 207) #[] #[.pointer (some ⟨W.heap.size, 0, none⟩)]) ∧ w' = W.alloc (.cells #[.map mb] 245) :=
  (callsIn_wide (n := 5)).1 (AnyZI.keys_in Tryz.laysKeys Fence.wide 5 trivial rfl mb W)
set_option maxHeartbeats 1000000 in
theorem sorted_any (W : World) (b nn : Nat) (F : Int → Option (Int × Int)) (hM : MI spanE Tryz.prog 3 W b nn F) (hnn : nn ≤ 1000000) :
    Calls Tryz.prog 182 #[.func (.func 207) #[] #[.pointer (some ⟨W.heap.size, 0, none⟩)]] (W.alloc (.cells #[.map (some b)] 245)) fun e w' => ∃ (v : Value) (K : List Int), e = .returned v ∧ K.Pairwise (· < ·) ∧ (∀ m, m ∈ K ↔ (F m).isSome = true) ∧ K.length ≤ nn ∧ (∀ x ∈ K, i64ok x) ∧ w'.ownsRow W.heap.size 3 1 v K.length (ints K) ∧ Below W.heap.size W w' := by
  obtain ⟨D, hown, hsz, hss⟩ := hM.keys keyI
  have hbl := hown.lt
  have hseq : SeqGives Fence.wide 2 Tryz.prog 207 #[.pointer (some ⟨W.heap.size, 0, none⟩)] encZ (fun ss => ss.Perm (intKeys D)) (Maps.size D) (W.alloc (.cells #[.map (some b)] 245)) :=
    AnyZI.keys_gives (ρ := Tryz.laysKeys_ren) { Tryz.laysKeys with } Fence.wide _ trivial rfl (by omega) W.heap.size b nn D _ (by simp) (by simp) (by
      obtain ⟨es, clock, hb, Ft, hs, hD⟩ := hown
      exact ⟨es, clock, (Below.heap_alloc _ _ b hbl).trans hb, Ft, hs, hD⟩)
  have cS := AnyZI.sorted_in Tryz.laysSorted Fence.wide 5 trivial trivial trivial trivial rfl (by omega) (sortsZ _) (enters_of Tryz.func100 (by kernel_rfl) rfl) 207 #[.pointer (some ⟨W.heap.size, 0, none⟩)] trivial (enters_of Tryz.func207 (by kernel_rfl) rfl) _ _ (by unfold maxLen; omega) (by omega) _ hseq
  change CallsIn _ _ Tryz.prog 182 _ _ _ at cS
  refine (callsIn_wide.1 cS).mono ?_
  rintro e w' ⟨v, ss, rfl, hS, hrow, hnil, hb⟩
  obtain ⟨h1, h2, h3, h4⟩ := hss ss hS
  have hp := List.mergeSort_perm ss fun x y => decide (x ≤ y)
  refine ⟨v, _, rfl, sorted_lt h1, fun m => by rw [hp.mem_iff]; exact h3 m, by rw [hp.length_eq]; exact h2, fun x hx => h4 x (hp.mem_iff.1 hx), ?_, ((Below.refl _ W).alloc (Nat.le_refl _) _).trans (hb.mono (by simp))⟩
  rw [hp.length_eq]
  exact ownsRow_base_a hrow (by simp)
end Go.Proofs.YtcdjoegihmfanaaGreat
