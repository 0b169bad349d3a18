/- The insertion sort, and the stable sort, of houses by remainders. -/
import Derived.Test.YtfojjecnmfkcfaaSort
import Derived.BigQuiet
import Derived.BigRegion
namespace Go.Proofs.Ytfojjecnmfkcfaa
open Go.RowKit
set_option linter.unusedVariables false
theorem Lst.put {w : World} {b : Nat} {d : List Int} (h : Lst w b d) {j : Nat} (hj : j < d.length) (v : Int) : Lst (w.setCell ⟨b, j, none⟩ (.int .i64 v)) b (d.set j v) := by
  have hat := h.at_ hj
  refine ⟨by simpa [World.setCell] using h.lt, fun i u hu => ?_, fun o => by rw [World.frozen?_setCell]; exact h.free o⟩
  rw [List.getElem?_set] at hu
  by_cases e : j = i
  · subst e
    rw [if_pos rfl, if_pos hj] at hu
    cases hu
    exact World.cell?_setCell_same' _ _ _ (by rw [hat]; rfl)
  · rw [if_neg e] at hu
    rw [World.cell?_setCell_other _ _ _ _ (by intro e'; injection e'; omega)]
    exact h.cells i u hu
theorem swapL_eq {d : List Int} {j : Nat} (hj : j + 1 < d.length) : swapL d j = (d.set (j + 1) (d[j]'(by omega))).set j d[j + 1] := by
  have e1 : d.getD (j + 1) 0 = d[j + 1] := by simp [List.getD_eq_getElem?_getD, List.getElem?_eq_getElem hj]
  have e2 : d.getD j 0 = d[j]'(by omega) := by simp [List.getD_eq_getElem?_getD, List.getElem?_eq_getElem (show j < d.length by omega)]
  unfold swapL
  rw [e1, e2]
theorem Lst.drewN {w : World} {b : Nat} {d : List Int} (h : Lst w b d) (n : Nat) : Lst (w.drewN n) b d := ⟨h.lt, h.cells, h.free⟩
theorem below_grown {w w' : World} (g : Option Nat) (h : Below w.heap.size w w') : w.grownBy w' g := ⟨h.os, h.tape, h.output, h.size, fun k hk _ => h.block k hk⟩
theorem keepL {w0 w1 w2 : World} {b o1 o2 : Nat} {v1 v2 : Value} (h1 : b < w0.heap.size) (h : w1.cell? ⟨b, o1, none⟩ = some v1 ∧ w1.cell? ⟨b, o2, none⟩ = some v2 ∧ Below w0.heap.size w0 w1) (hb : Below w1.heap.size w1 w2) :
    w2.cell? ⟨b, o1, none⟩ = some v1 ∧ w2.cell? ⟨b, o2, none⟩ = some v2 ∧ Below w0.heap.size w0 w2 := by
  obtain ⟨a, b, e⟩ := h
  have hz := e.size
  exact ⟨(hb.cell (p := ⟨_, o1, none⟩) (Nat.lt_of_lt_of_le h1 hz)).trans a, (hb.cell (p := ⟨_, o2, none⟩) (Nat.lt_of_lt_of_le h1 hz)).trans b, e.trans (hb.mono hz)⟩
theorem and3s {a b c : Prop} (h : a ∧ b ∧ c) : c := h.2.2
theorem insI_stop {lt : Int → Int → Bool} {j : Nat} {d : List Int} (h : lt (d.getD (j + 1) 0) (d.getD j 0) = false) : insI lt (j + 1) d = d := by unfold insI; rw [if_neg (by rw [h]; simp)]
theorem insI_go {lt : Int → Int → Bool} {j : Nat} {d : List Int} (h : lt (d.getD (j + 1) 0) (d.getD j 0) = true) : insI lt (j + 1) d = insI lt j (swapL d j) := by rw [insI, if_pos h]
def ltRem (p : Int) (hs : List (Int × Int × Int)) (i k : Int) : Bool := decide (cmpRem p hs i k < 0)
/-- What the sort leaves. -/
def SortedTo (bs : Nat) (d : List Int) (W : World) (e : Ending) (w' : World) : Prop := e = .returned (.tuple #[]) ∧ Lst w' bs d ∧ W.grownBy w' (some bs)
set_option maxHeartbeats 4000000 in
theorem insertion_any (bb bd g : Nat) (p : Int) (A : Option Addr) (c : Nat) (hs : List (Int × Int × Int)) (ps : List Int) (B bs cap : Nat) (d : List Int) (w : World) (he : CmpEnv w bb bd g p A c hs ps B) (ho : housesOk hs) (h0 : valueSum hs ≠ 0) (hp : 0 ≤ p) (hp5 : p ≤ 500)
    (hL : Lst w bs d) (h1 : bs ≠ bb) (h2 : bs ≠ bd) (h3 : bs ≠ g) (h4 : B ≤ bs) (hd1 : 1 ≤ d.length) (hd6 : d.length ≤ 6) (hm : ∀ x ∈ d, ∃ i : Nat, x = i ∧ i < hs.length) :
    Calls Try.prog 157 #[.slice (some ⟨bs, 0, none⟩) d.length cap, .int .i64 0, .int .i64 d.length, .func (.func 121) #[] #[.pointer (some ⟨bb, 0, none⟩), .pointer (some ⟨bd, 0, none⟩)]] w (SortedTo bs (insSort (ltRem p hs) d) w) := by
  have HC : ∀ (W : World), w.grownBy W (some bs) → ∀ x y : Int, (∃ i : Nat, x = i ∧ i < hs.length) → (∃ i : Nat, y = i ∧ i < hs.length) → Hid (Calls Try.prog 121 #[.int .i64 x, .int .i64 y, .pointer (some ⟨bb, 0, none⟩), .pointer (some ⟨bd, 0, none⟩)] W fun e w' => e = .returned (.int .i64 (cmpRem p hs x y)) ∧ Below W.heap.size W w') := by
    rintro W hW x y ⟨i, rfl, hi⟩ ⟨k, rfl, hk⟩
    exact cmp_any bb bd g p A c hs ps B W (he.grown hW h1 h2 h3 h4) ho h0 hp hp5 i k hi hk
  have HLw := Lib.hid hL
  have HM := Lib.hid hm
  clear hL hm he ho h0
  go_enter Try.func157, Try.ntmps157
  go_wp2_with fail
  go_loopw [8] (fun vi wr => ∃ (i : Nat) (dk : List Int), vi = .int .i64 i ∧ 1 ≤ i ∧ i ≤ d.length ∧ dk.length = d.length ∧ Hid (insO (ltRem p hs) (d.length - i) i dk = insSort (ltRem p hs) d) ∧ Hid (Lst wr bs dk) ∧ w.grownBy wr (some bs) ∧ Hid (∀ x ∈ dk, x ∈ d)) (fun i _ => d.length - (intOf i).toNat)
  case atStart => exact ⟨1, d, by go_num, by omega, hd1, rfl, rfl, HLw, grownBy_self _ _, fun x hx => hx⟩
  case round =>
    obtain ⟨i, dk, rfl, hi1, hin, hdl, HO, HL, hgr, HMk⟩ := hrel
    by_cases hlt : i < d.length
    · have hltz : (i : Int) < (d.length : Int) := by omega
      go_wp2_with fail
      go_loopw [9] (fun vj wr2 => ∃ (j : Nat) (dj : List Int), vj = .int .i64 j ∧ j ≤ i ∧ dj.length = d.length ∧ Hid (insI (ltRem p hs) j dj = insI (ltRem p hs) i dk) ∧ Hid (Lst wr2 bs dj) ∧ w.grownBy wr2 (some bs) ∧ Hid (∀ x ∈ dj, x ∈ d)) (fun j _ => (intOf j).toNat)
      case atStart => exact ⟨i, dk, rfl, Nat.le_refl _, hdl, rfl, HL, hgr, HMk⟩
      case round =>
        obtain ⟨j, dj, rfl, hji, hjl, HI, HLj, hgj, HMj⟩ := hrel
        have OUT : Hid (insI (ltRem p hs) j dj = dj → insO (ltRem p hs) (d.length - (i + 1)) (i + 1) dj = insSort (ltRem p hs) d) := by
          show _ → _
          intro hs'
          rw [← HO.out, show d.length - i = (d.length - (i + 1)) + 1 by omega]
          simp only [insO]
          rw [← HI.out, hs']
        cases j with
        | zero =>
          have hz : ((0 : Nat) : Int) = 0 := rfl
          have hO := OUT.out rfl
          have HO2 := Lib.hid hO
          clear hO
          go_wp2_with fail
          go_big_region
          all_goals go_wp2_with fail
          go_roundw
          case rel => exact ⟨i + 1, dj, by go_num, by omega, by omega, hjl, HO2, HLj.out.drewN 1, only_drewN hgj 1, HMj⟩
          case measure => simp [intOf]; omega
        | succ jp =>
          have jl1 : jp + 1 < dj.length := by omega
          have jl0 : jp < dj.length := by omega
          have cj := HLj.out.at_ jl1
          have cp := HLj.out.at_ jl0
          have fj := HLj.out.free (jp + 1)
          have fp := HLj.out.free jp
          have jz : (jp : Int) + 1 < (d.length : Int) := by omega
          have jz1 : (jp : Int) < (d.length : Int) := by omega
          have hwp : IntKind.i64.wrap (jp : Int) = (jp : Int) := IntWalk.i64_in _ (by omega)
          have p0 : (0 : Int) ≤ (jp : Int) + 1 := by omega
          have p1 : (0 : Int) < (jp : Int) + 1 := by omega
          have e0 : ((jp : Int) + 1).toNat = jp + 1 := by omega
          have hbs := HLj.out.lt
          have g1 : dj.getD (jp + 1) 0 = dj[jp + 1] := by simp [List.getD_eq_getElem?_getD, List.getElem?_eq_getElem jl1]
          have g2 : dj.getD jp 0 = dj[jp] := by simp [List.getD_eq_getElem?_getD, List.getElem?_eq_getElem jl0]
          have m1 := HM.out _ (HMj.out _ (List.getElem_mem jl1))
          have m2 := HM.out _ (HMj.out _ (List.getElem_mem jl0))
          have hCC := fun W (hW : Below wr.heap.size wr W) => HC W (grownBy_trans hgj ⟨hW.os, hW.tape, hW.output, hW.size, fun k hk _ => hW.block k hk⟩) dj[jp + 1] dj[jp] m1 m2
          clear m1 m2
          by_cases hlv : cmpRem p hs dj[jp + 1] dj[jp] < 0
          · have hI := insI_go (lt := ltRem p hs) (j := jp) (d := dj) (by unfold ltRem; rw [g1, g2]; exact decide_eq_true hlv)
            have HI2 := Lib.hid hI
            clear hI g1 g2
            go_wp2_with fail
            go_region_held3 (fun w' => w'.cell? ⟨bs, jp + 1, none⟩ = some (.int .i64 dj[jp + 1]) ∧ w'.cell? ⟨bs, jp, none⟩ = some (.int .i64 dj[jp]) ∧ Below wr.heap.size wr w') (first | exact ⟨cj, cp, (Below.refl _ _).drew⟩ | exact keepL hbs (by assumption) (by assumption))
              (first | (go_at_call 121; refine ((hCC _ (and3s (by assumption))).out).mono ?_; rintro e w' ⟨rfl, hbT⟩))
            have hbz : Below wr.heap.size wr _ := and3s (by assumption)
            obtain ⟨c1', c2', _⟩ := (by assumption : World.cell? _ _ = _ ∧ World.cell? _ _ = _ ∧ Below _ _ _)
            have hL2 := HLj.out.below hbz
            have f1' := hL2.free (jp + 1)
            have f2' := hL2.free jp
            have HL2 := Lib.hid hL2
            have hz2 := hL2.lt
            clear hL2 hCC cj cp fj fp
            go_wp2_with fail
            go_region
            all_goals go_wp2_with fail
            go_roundw
            case rel =>
              refine ⟨jp, swapL dj jp, rfl, by omega, by rw [swapL_length]; exact hjl, ?_, ?_, ?_, ?_⟩
              · show _ = _
                rw [← HI.out, HI2.out]
              · show Lst _ _ _
                rw [swapL_eq jl1]
                exact ((HL2.out.put jl1 dj[jp]).put (by rw [List.length_set]; exact jl0) dj[jp + 1]).drewN 1
              · exact only_drewN (grownBy_trans (grownBy_trans (grownBy_trans hgj (below_grown _ hbz)) (grownBy_setCell _ _ _ _)) (grownBy_setCell _ _ _ _)) 1
              · exact fun x hx => HMj.out x (swapL_mem jl1 x hx)
            case measure => simp [intOf]
          · have hI := insI_stop (lt := ltRem p hs) (j := jp) (d := dj) (by unfold ltRem; rw [g1, g2]; exact decide_eq_false hlv)
            have HO2 := Lib.hid (OUT.out hI)
            clear hI g1 g2 OUT
            go_wp2_with fail
            go_region_held3 (fun w' => w'.cell? ⟨bs, jp + 1, none⟩ = some (.int .i64 dj[jp + 1]) ∧ w'.cell? ⟨bs, jp, none⟩ = some (.int .i64 dj[jp]) ∧ Below wr.heap.size wr w') (first | exact ⟨cj, cp, (Below.refl _ _).drew⟩ | exact keepL hbs (by assumption) (by assumption))
              (first | (go_at_call 121; refine ((hCC _ (and3s (by assumption))).out).mono ?_; rintro e w' ⟨rfl, hbT⟩))
            have hbz : Below wr.heap.size wr _ := and3s (by assumption)
            go_wp2_with fail
            go_roundw
            case rel => exact ⟨i + 1, dj, by go_num, by omega, by omega, hjl, HO2, HLj.out.below hbz, grownBy_trans hgj (below_grown _ hbz), HMj⟩
            case measure => simp [intOf]; omega
    · have hii : i = d.length := by omega
      subst hii
      have h := HO.out
      rw [Nat.sub_self] at h
      have h2 : insSort (ltRem p hs) d = dk := h.symm
      have H2 := Lib.hid h2
      clear h h2
      go_wp2_with fail
      go_end0
      exact ⟨rfl, by rw [H2.out]; exact HL.out, hgr⟩
end Go.Proofs.Ytfojjecnmfkcfaa
