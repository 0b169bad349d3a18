/- next: the house that pays the next penny, on a desk with at most six houses that are right. -/
import Derived.Test.YtfojjecnmfkcfaaDesk
import Derived.Deep.QuietTactic
import Derived.BigQuiet
namespace Go.Proofs.Ytfojjecnmfkcfaa
open Go.RowKit
set_option linter.unusedVariables false
theorem Desk.drewN {w : World} {g : Nat} {p : Int} {A : Option Addr} {n c : Nat} {ps : List Int} (h : Desk w g p A n c ps) (m : Nat) : Desk (w.drewN m) g p A n c ps := ⟨h.lt, h.pence, h.houses, h.len, h.pays, h.free⟩
theorem Desk.alloc {w : World} {g : Nat} {p : Int} {A : Option Addr} {n c : Nat} {ps : List Int} (h : Desk w g p A n c ps) (o : Obj) : Desk (w.alloc o) g p A n c ps := h.below (below_new w o)
theorem Rd.drewN {w : World} {B : Nat} {A : Option Addr} {xs : List Value} (h : Rd w B A xs) (n : Nat) : Rd (w.drewN n) B A xs := h
/-- Does house k, with one penny more, come before house j? -/
def befo (hs : List (Int × Int × Int)) (ps : List Int) (k j : Nat) : Bool := decide ((hs.getD j (0, 0, 0)).1 * (ps.getD k 0 + 1) < (hs.getD k (0, 0, 0)).1 * (ps.getD j 0 + 1))
def canB (hs : List (Int × Int × Int)) (ps : List Int) (k : Nat) : Bool := decide (ps.getD k 0 < (hs.getD k (0, 0, 0)).2.2)
/-- The house that pays the next penny, of the first k ones; -1 if none can. -/
def bestK (hs : List (Int × Int × Int)) (ps : List Int) : Nat → Int
  | 0 => -1
  | k + 1 => if canB hs ps k && (bestK hs ps k == -1 || befo hs ps k (bestK hs ps k).toNat) then (k : Int) else bestK hs ps k
theorem bestK_cases (hs : List (Int × Int × Int)) (ps : List Int) : ∀ k, bestK hs ps k = -1 ∨ ∃ j : Nat, j < k ∧ bestK hs ps k = j := by
  intro k
  induction k with
  | zero => exact .inl rfl
  | succ k ih =>
    simp only [bestK]
    split
    · exact .inr ⟨k, by omega, rfl⟩
    · rcases ih with h | ⟨j, h1, h2⟩
      · exact .inl h
      · exact .inr ⟨j, by omega, h2⟩
theorem mul_bd {a b M N : Int} (h1 : 0 ≤ a) (h2 : a ≤ M) (h3 : 0 ≤ b) (h4 : b ≤ N) (hM : 0 ≤ M) : 0 ≤ a * b ∧ a * b ≤ M * N :=
  ⟨Int.mul_nonneg h1 h3, Int.mul_le_mul h2 h4 h3 hM⟩
set_option maxHeartbeats 1000000 in
theorem next_any (g : Nat) (p : Int) (A : Option Addr) (c : Nat) (hs : List (Int × Int × Int)) (ps : List Int) (w : World) (hd : Desk w g p A hs.length c ps) (hr : Rd w w.heap.size A (trips hs)) (ho : housesOk hs) (hps : ∀ x ∈ ps, 0 ≤ x ∧ x ≤ 600) :
    Calls Try.prog 154 #[.pointer (some ⟨g, 0, none⟩), .agg #[greaterV]] w fun e w' => e = .returned (.int .i64 (bestK hs ps hs.length)) ∧ Below w.heap.size w w' := by
  have hp := hd.pence
  have hh := hd.houses
  have hl := ho.1
  have hgl := hd.lt
  have HD := Lib.hid hd
  clear hd
  unfold greaterV
  go_enter Try.func154, Try.ntmps154
  go_wp2_with fail
  go_loopw [5, 7, 8, 17] (fun o _ _ i wr => ∃ k : Nat, k ≤ hs.length ∧ i = .int .i64 k ∧ o = .int .i64 (bestK hs ps k) ∧ wr.cell? ⟨w.heap.size, 0, none⟩ = some (.func (.func 142) #[] #[]) ∧ w.heap.size < wr.heap.size ∧ Below w.heap.size w wr) (fun _ _ _ i _ => hs.length - (intOf i).toNat)
  case atStart => exact ⟨0, by omega, rfl, rfl, by simp, by simp, by go_grown⟩
  case round =>
    obtain ⟨k, hk, rfl, rfl, hbx, hbs, hbw⟩ := hrel
    by_cases hlt : k < hs.length
    · have hdk := HD.out.below hbw
      obtain ⟨b, off, rfl, hbb, hc1, hc2, hc3⟩ := (hr.below hbw).trip hlt
      have hbb' : b < wr.heap.size := Nat.lt_of_lt_of_le hbb hbw.size
      have hg' : g < wr.heap.size := Nat.lt_of_lt_of_le hgl hbw.size
      have hhw := hdk.houses
      have hgd : hs.getD k (0, 0, 0) = hs[k] := by simp [List.getD_eq_getElem?_getD, List.getElem?_eq_getElem hlt]
      have hk6 : k < ps.length := by rw [hdk.len]; omega
      have hgp : ps.getD k 0 = ps[k] := by simp [List.getD_eq_getElem?_getD, List.getElem?_eq_getElem hk6]
      have HC : ∀ (o : Obj) (n : Nat) (r : Bool), canB hs ps k = r → Hid (Calls Try.prog 106 #[.pointer (some ⟨g, 0, none⟩), .int .i64 k] ((wr.alloc o).drewN n) fun e w' => e = .returned (.bool r) ∧ ∃ m, w' = ((wr.alloc o).drewN n).drewN m) := by
        intro o n r hrr
        refine can_at g p _ c hs ps _ ((hdk.alloc o).drewN n) ?_ hl k hlt r ?_
        · exact ((hr.next hbw).alloc o).drewN n
        · rw [← hrr]; unfold canB; rw [hgd, hgp]
      by_cases hcan : canB hs ps k = true
      · have HC1 := fun o n => HC o n true hcan
        clear HC
        rcases bestK_cases hs ps k with hb1 | ⟨j, hj, hb1⟩
        · have hF : bestK hs ps (k + 1) = (k : Int) := by simp only [bestK]; rw [hcan, hb1]; rfl
          have HF := Lib.hid hF
          rw [hb1]
          clear hF hb1 hgd hgp
          have HH := Lib.hid hcan
          clear hcan
          go_wp2_with fail
          go_quiet ((go_at_call 106; exact Calls.quiet_of (HC1 _ _).out))
          go_wp2_with fail
          go_roundw
          case rel => exact ⟨k + 1, by omega, by go_num, by rw [HF.out], (World.cell?_alloc_lt wr _ ⟨w.heap.size, 0, none⟩ hbs).trans hbx, by simp; omega, below_drewN (hbw.alloc hbw.size _) _⟩
          case measure => simp [intOf]; omega
        · have Hb1 := Lib.hid hb1
          clear hb1
          have hjl : j < hs.length := by omega
          obtain ⟨hj1, hj2, hj3⟩ := (hr.below hbw).trip' hjl
          have hj6 : j < ps.length := by rw [hdk.len]; omega
          have hgj : hs.getD j (0, 0, 0) = hs[j] := by simp [List.getD_eq_getElem?_getD, List.getElem?_eq_getElem hjl]
          have hgq : ps.getD j 0 = ps[j] := by simp [List.getD_eq_getElem?_getD, List.getElem?_eq_getElem hj6]
          have hpk := hdk.at_ (i := k) (by omega)
          have hpj := hdk.at_ (i := j) (by omega)
          obtain ⟨x1, x2⟩ := hps ps[k] (List.getElem_mem _)
          obtain ⟨y1, y2⟩ := hps ps[j] (List.getElem_mem _)
          obtain ⟨u1, u2, _⟩ := ho.2 hs[k] (List.getElem_mem _)
          obtain ⟨v1, v2, _⟩ := ho.2 hs[j] (List.getElem_mem _)
          have m1 := mul_bd u1 u2 (show 0 ≤ ps[j] + 1 by omega) (show ps[j] + 1 ≤ 601 by omega) (by omega)
          have m2 := mul_bd v1 v2 (show 0 ≤ ps[k] + 1 by omega) (show ps[k] + 1 ≤ 601 by omega) (by omega)
          have HB : befo hs ps k j = decide (hs[j].1 * (ps[k] + 1) < hs[k].1 * (ps[j] + 1)) := by unfold befo; rw [hgd, hgj, hgp, hgq]
          have HN : (bestK hs ps k == -1) = false := by rw [Hb1.out, beq_eq_false_iff_ne]; omega
          have HFst : ∀ W : World, Hid (Calls Try.prog 142 #[.int .i64 hs[k].1, .int .i64 (ps[k] + 1), .int .i64 hs[j].1, .int .i64 (ps[j] + 1)] W fun e w' => e = .returned (.bool (befo hs ps k j)) ∧ w' = W) := by
            intro W
            rw [HB]
            exact first_any _ _ _ _ W (by omega) (by omega) (by omega) (by omega)
          have hF : bestK hs ps (k + 1) = if befo hs ps k j = true then (k : Int) else bestK hs ps k := by
            simp only [bestK]
            rw [hcan, HN, Hb1.out, Int.toNat_natCast]
            simp
          rw [Hb1.out] at hF
          have HF := Lib.hid hF
          have HH := Lib.hid hcan
          have hj0 : ((j : Int) == -1) = false := by rw [beq_eq_false_iff_ne]; omega
          have hj7 : (j : Int) < 6 := by omega
          have hj8 : (j : Int) < hs.length := by omega
          have hk7 : (k : Int) < 6 := by omega
          have q1 : IntKind.i64.wrap (ps[k] + 1) = ps[k] + 1 := IntWalk.i64_in _ (by omega)
          have q2 : IntKind.i64.wrap (ps[j] + 1) = ps[j] + 1 := IntWalk.i64_in _ (by omega)
          rw [Hb1.out]
          clear hF hgd hgp hgj hgq HB HN hcan m1 m2
          by_cases hbe : befo hs ps k j = true
          · have HF2 := HF.out
            rw [if_pos hbe] at HF2
            have HF2' := Lib.hid HF2
            rw [hbe] at HFst
            clear HF2 hbe
            go_wp2_with fail
            go_quiet ((first | (go_at_call 106; exact Calls.quiet_of (HC1 _ _).out) | (go_at_call 142; exact Calls.quiet_of_same (HFst _).out)))
            clear q1 q2
            go_wp2_with fail
            go_roundw
            case rel => exact ⟨k + 1, by omega, by go_num, by rw [HF2'.out], (World.cell?_alloc_lt wr _ ⟨w.heap.size, 0, none⟩ hbs).trans hbx, by simp; omega, below_drewN (hbw.alloc hbw.size _) _⟩
            case measure => simp [intOf]; omega
          · have HF2 := HF.out
            rw [if_neg hbe] at HF2
            have HF2' := Lib.hid HF2
            have hbe' : befo hs ps k j = false := by simpa using hbe
            rw [hbe'] at HFst
            clear HF2 hbe hbe'
            go_wp2_with fail
            go_quiet ((first | (go_at_call 106; exact Calls.quiet_of (HC1 _ _).out) | (go_at_call 142; exact Calls.quiet_of_same (HFst _).out)))
            clear q1 q2
            go_wp2_with fail
            go_roundw
            case rel => exact ⟨k + 1, by omega, by go_num, by rw [HF2'.out], (World.cell?_alloc_lt wr _ ⟨w.heap.size, 0, none⟩ hbs).trans hbx, by simp; omega, below_drewN (hbw.alloc hbw.size _) _⟩
            case measure => simp [intOf]; omega
      · have hcan' : canB hs ps k = false := by simpa using hcan
        have HC1 := fun o n => HC o n false hcan'
        have hF : bestK hs ps (k + 1) = bestK hs ps k := by simp only [bestK]; rw [hcan']; rfl
        have HF := Lib.hid hF
        have HH := Lib.hid hcan'
        clear HC hF hgd hgp hcan' hcan
        go_wp2_with fail
        go_quiet ((go_at_call 106; exact Calls.quiet_of (HC1 _ _).out))
        go_wp2_with fail
        go_roundw
        case rel => exact ⟨k + 1, by omega, by go_num, by rw [HF.out], (World.cell?_alloc_lt wr _ ⟨w.heap.size, 0, none⟩ hbs).trans hbx, by simp; omega, below_drewN (hbw.alloc hbw.size _) _⟩
        case measure => simp [intOf]; omega
    · have hkk : k = hs.length := by omega
      have Hk := Lib.hid hkk
      clear hkk
      go_wp2_with fail
      go_ret
      exact ⟨ret_int (by rw [Hk.out]), hbw⟩
end Go.Proofs.Ytfojjecnmfkcfaa
