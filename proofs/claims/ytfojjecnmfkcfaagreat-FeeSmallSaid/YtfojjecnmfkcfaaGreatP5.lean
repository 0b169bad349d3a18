/- Check and opened: the error of a bill, and a desk, at every bill of at most 1000 houses. total, can, greater and its order, on a desk with at most six houses that are right. next: the house that pays the next penny, on a desk with at most six houses that are right. Pennies that are poured: plain mathematics. pennies: the iterator gives one penny after the other to the house that is next. A region that reads and calls quietly, in the frame of a round of a range over a function: one walk in the order of the text serves every order, if no operation defers. -/
import Derived.Test.YtfojjecnmfkcfaaGreatP4
import Derived.Test.YtfojjecnmfkcfaaGreatP1
import Derived.Laws.EntriesVeiled
import Derived.Deep.QuietTactic
import Derived.BigQuiet
import Derived.RangeFuncNested
import Derived.RangeFuncBound
import Derived.RangeFuncCalls
import Derived.RangeFuncLeaves
import Derived.OwnWalkIn
import Derived.TacticsInMore
import Derived.LoopNIn
import Derived.LoopIn
import Derived.Sort.QuietIn
import Derived.Deep.RegionHeld3
import Derived.Deep.DeepCutAuto
import Derived.Deep.Cut
namespace Go.Proofs.YtfojjecnmfkcfaaGreat
open Go.RowKit
set_option linter.unusedVariables false
def ckBill (p : Int) (hs : List (Int × Int × Int)) : Int :=
  if ¬ (inB p 0 500 = true) then 4 else if ¬ (inB hs.length 1 6 = true) then 3 else if hs.any houseOkP = true then 4 else 0
theorem ckBill_ok {p : Int} {hs : List (Int × Int × Int)} (h : ckBill p hs = 0) : 0 ≤ p ∧ p ≤ 500 ∧ 1 ≤ hs.length ∧ hs.length ≤ 6 ∧ ∀ x ∈ hs, 0 ≤ x.1 ∧ x.1 ≤ 1000 ∧ 0 ≤ x.2.1 ∧ x.2.1 ≤ x.2.2 ∧ x.2.2 ≤ 500 := by
  unfold ckBill at h
  split at h
  · omega
  · split at h
    · omega
    · split at h
      · omega
      · rename_i h1 h2 h3
        simp only [Decidable.not_not, inB_iff] at h1 h2
        refine ⟨h1.1, h1.2, by omega, by omega, fun x hx => ?_⟩
        have := List.any_eq_false.1 (by simpa using h3) x hx
        simp only [houseOkP, Bool.not_eq_true', houseOk, Bool.not_eq_false, Bool.and_eq_true, inB_iff, decide_eq_true_eq] at this
        omega
set_option maxHeartbeats 400000 in
theorem check_any (A : Option Addr) (c : Nat) (p : Int) (hs : List (Int × Int × Int)) (w : World) (hr : Rd w w.heap.size A (trips hs)) (hl : hs.length ≤ 1000) :
    Calls Tryz.prog 14 #[.agg #[.int .i64 p, .slice A hs.length c]] w fun e w' => e = .returned (.int .i64 (ckBill p hs)) ∧ Below w.heap.size w w' := by
  have HE := fun w1 (hb : Below w.heap.size w w1) => Lib.hid (everyHouse_any A c hs w1 (hr.next hb) hl)
  unfold F_House at HE
  by_cases h1 : inB p 0 500 = true
  · by_cases h2 : inB hs.length 1 6 = true
    · by_cases h3 : hs.any houseOkP = true
      · have hF : ckBill p hs = 4 := by unfold ckBill; rw [if_neg (by simpa using h1), if_neg (by simpa using h2), if_pos h3]
        have HF := Lib.hid hF
        clear hF
        go_enter Tryz.func14, Tryz.ntmps14
        go_wp2_with fail
        refine (in_any _ _ _ _).mono ?_
        rintro e w1 ⟨rfl, rfl⟩
        go_wp2_with fail
        refine (in_any _ _ _ _).mono ?_
        rintro e w1 ⟨rfl, rfl⟩
        go_wp2_with fail
        refine (HE _ (by go_grown)).out.mono ?_
        rintro e w1 ⟨rfl, hb1⟩
        have hbw : Below w.heap.size w w1 := Below.trans (by go_grown) (hb1.mono (by simp))
        go_wp2_with fail
        go_ret
        exact ⟨ret_int HF.out.symm, hbw⟩
      · have h3' : hs.any houseOkP = false := by simpa using h3
        have hF : ckBill p hs = 0 := by unfold ckBill; rw [if_neg (by simpa using h1), if_neg (by simpa using h2), if_neg h3]
        have HF := Lib.hid hF
        clear hF h3
        go_enter Tryz.func14, Tryz.ntmps14
        go_wp2_with fail
        refine (in_any _ _ _ _).mono ?_
        rintro e w1 ⟨rfl, rfl⟩
        go_wp2_with fail
        refine (in_any _ _ _ _).mono ?_
        rintro e w1 ⟨rfl, rfl⟩
        go_wp2_with fail
        refine (HE _ (by go_grown)).out.mono ?_
        rintro e w1 ⟨rfl, hb1⟩
        have hbw : Below w.heap.size w w1 := Below.trans (by go_grown) (hb1.mono (by simp))
        go_wp2_with fail
        go_ret
        exact ⟨ret_int HF.out.symm, hbw⟩
    · have hF : ckBill p hs = 3 := by unfold ckBill; rw [if_neg (by simpa using h1), if_pos h2]
      have HF := Lib.hid hF
      clear hF
      go_enter Tryz.func14, Tryz.ntmps14
      go_wp2_with fail
      refine (in_any _ _ _ _).mono ?_
      rintro e w1 ⟨rfl, rfl⟩
      go_wp2_with fail
      refine (in_any _ _ _ _).mono ?_
      rintro e w1 ⟨rfl, rfl⟩
      go_wp2_with fail
      go_ret
      exact ⟨ret_int HF.out.symm, by go_grown⟩
  · have hF : ckBill p hs = 4 := by unfold ckBill; rw [if_pos h1]
    have HF := Lib.hid hF
    clear hF
    go_enter Tryz.func14, Tryz.ntmps14
    go_wp2_with fail
    refine (in_any _ _ _ _).mono ?_
    rintro e w1 ⟨rfl, rfl⟩
    go_wp2_with fail
    go_ret
    exact ⟨ret_int HF.out.symm, by go_grown⟩
/-- A desk: a bill at work, in a block of its own. -/
structure Desk (w : World) (g : Nat) (p : Int) (A : Option Addr) (n c : Nat) (ps : List Int) : Prop where
  lt : g < w.heap.size
  pence : w.cell? ⟨g, 0, none⟩ = some (.int .i64 p)
  houses : w.cell? ⟨g, 1, none⟩ = some (.slice A n c)
  len : ps.length = 6
  pays : ∀ i u, ps[i]? = some u → w.cell? ⟨g, 2 + i, none⟩ = some (.int .i64 u)
  free : ∀ o, w.frozen? ⟨g, o, none⟩ = false
theorem Desk.below {w w' : World} {g : Nat} {p : Int} {A : Option Addr} {n c : Nat} {ps : List Int} (h : Desk w g p A n c ps) (hb : Below w.heap.size w w') : Desk w' g p A n c ps :=
  ⟨Nat.lt_of_lt_of_le h.lt hb.size, (hb.cell (p := ⟨g, 0, none⟩) h.lt).trans h.pence, (hb.cell (p := ⟨g, 1, none⟩) h.lt).trans h.houses, h.len, fun i u hu => (hb.cell (p := ⟨g, 2 + i, none⟩) h.lt).trans (h.pays i u hu), fun o => (hb.frozen (p := ⟨g, o, none⟩) h.lt).trans (h.free o)⟩
/-- The call opens a desk, or returns an error. -/
def Opened (p : Int) (A : Option Addr) (n c : Nat) (W : World) (code : Int) (e : Ending) (w' : World) : Prop :=
  (code = 0 ∧ ∃ g, e = .returned (.tuple #[.pointer (some ⟨g, 0, none⟩), .int .i64 0]) ∧ W.heap.size ≤ g ∧ Desk w' g p A n c [0, 0, 0, 0, 0, 0] ∧ Below W.heap.size W w') ∨
  (code ≠ 0 ∧ e = .returned (.tuple #[.pointer none, .int .i64 code]) ∧ Below W.heap.size W w')
set_option maxHeartbeats 400000 in
theorem opened_any (A : Option Addr) (c : Nat) (p : Int) (hs : List (Int × Int × Int)) (w : World) (hr : Rd w w.heap.size A (trips hs)) (hl : hs.length ≤ 1000) :
    Calls Tryz.prog 59 #[.agg #[.int .i64 p, .slice A hs.length c]] w (Opened p A hs.length c w (ckBill p hs)) := by
  have HC := fun w1 (hb : Below w.heap.size w w1) => Lib.hid (check_any A c p hs w1 (hr.next hb) hl)
  by_cases h0 : ckBill p hs = 0
  · rw [h0] at HC ⊢
    clear h0
    go_enter Tryz.func59, Tryz.ntmps59
    go_wp2_with fail
    refine (HC _ (by go_grown)).out.mono ?_
    rintro e w1 ⟨rfl, hb1⟩
    have hbw : Below w.heap.size w w1 := Below.trans (by go_grown) (hb1.mono (by simp))
    have hc0 := hb1.cell (p := ⟨w.heap.size, 0, none⟩) (by simp)
    have hc1 := hb1.cell (p := ⟨w.heap.size, 1, none⟩) (by simp)
    simp at hc0 hc1
    have hz := hb1.size
    simp at hz
    go_wp2_with fail
    go_ret2
    refine .inl ⟨rfl, w1.heap.size, rfl, by omega, ⟨by simp, by simp, by simp, rfl, ?_, by simp⟩, by exact hbw.alloc hbw.size _⟩
    intro i u hu
    match i with
    | 0 | 1 | 2 | 3 | 4 | 5 => simp at hu; subst hu; simp
    | i + 6 => simp at hu
  · have h0' : (ckBill p hs == 0) = false := by simpa using h0
    have h0'' : (ckBill p hs != 0) = true := by simpa using h0
    have H0 := Lib.hid h0
    clear h0
    go_enter Tryz.func59, Tryz.ntmps59
    go_wp2_with fail
    refine (HC _ (by go_grown)).out.mono ?_
    rintro e w1 ⟨rfl, hb1⟩
    have hbw : Below w.heap.size w w1 := Below.trans (by go_grown) (hb1.mono (by simp))
    go_wp2_with fail
    go_ret2
    exact .inr ⟨H0.out, rfl, hbw⟩
end Go.Proofs.YtfojjecnmfkcfaaGreat
namespace Go.Proofs.YtfojjecnmfkcfaaGreat
open Go.RowKit
set_option linter.unusedVariables false
def valueSum (hs : List (Int × Int × Int)) : Int := (hs.map (·.1)).sum
theorem map_take_sum (hs : List (Int × Int × Int)) (k : Nat) (h : k < hs.length) : ((hs.map (·.1)).take (k + 1)).sum = ((hs.map (·.1)).take k).sum + hs[k].1 := by
  rw [take_sum _ _ (by simpa using h)]; simp
def housesOk (hs : List (Int × Int × Int)) : Prop := hs.length ≤ 6 ∧ ∀ x ∈ hs, 0 ≤ x.1 ∧ x.1 ≤ 1000 ∧ 0 ≤ x.2.1 ∧ x.2.1 ≤ x.2.2 ∧ x.2.2 ≤ 500
theorem valueSum_bd (hs : List (Int × Int × Int)) (ho : housesOk hs) (k : Nat) : 0 ≤ ((hs.map (·.1)).take k).sum ∧ ((hs.map (·.1)).take k).sum ≤ 6000 := by
  rw [← List.map_take]
  have key : ∀ l : List (Int × Int × Int), (∀ x ∈ l, 0 ≤ x.1 ∧ x.1 ≤ 1000) → 0 ≤ (l.map (·.1)).sum ∧ (l.map (·.1)).sum ≤ 1000 * l.length := by
    intro l
    induction l with
    | nil => intro _; simp
    | cons a l ih =>
      intro h
      have h1 := ih (fun x hx => h x (List.mem_cons_of_mem _ hx))
      have h2 := h a List.mem_cons_self
      simp only [List.map_cons, List.sum_cons, List.length_cons]
      omega
  have h := key (hs.take k) (fun x hx => by have := ho.2 x (List.mem_of_mem_take hx); omega)
  have hl : (hs.take k).length ≤ 6 := by rw [List.length_take]; have := ho.1; omega
  omega
set_option maxHeartbeats 400000 in
theorem total_any (g : Nat) (p : Int) (A : Option Addr) (c : Nat) (hs : List (Int × Int × Int)) (ps : List Int) (w : World) (hd : Desk w g p A hs.length c ps) (hr : Rd w w.heap.size A (trips hs)) (ho : housesOk hs) :
    Calls Tryz.prog 76 #[.pointer (some ⟨g, 0, none⟩)] w fun e w' => e = .returned (.int .i64 (valueSum hs)) ∧ Below w.heap.size w w' := by
  have hp := hd.pence
  have hh := hd.houses
  have hl := ho.1
  go_enter Tryz.func76, Tryz.ntmps76
  go_wp2_with fail
  go_loopw [3, 5, 12] (fun o _ i wr => ∃ k : Nat, k ≤ hs.length ∧ i = .int .i64 k ∧ o = .int .i64 ((hs.map (·.1)).take k).sum ∧ Below w.heap.size w wr) (fun _ _ i _ => hs.length - (intOf i).toNat)
  case atStart => exact ⟨0, by omega, rfl, by simp, Below.refl _ _⟩
  case round =>
    obtain ⟨k, hk, rfl, rfl, hbw⟩ := hrel
    obtain ⟨v1, v2⟩ := valueSum_bd hs ho k
    by_cases hlt : k < hs.length
    · obtain ⟨b, off, rfl, hbb, hc1, hc2, hc3⟩ := (hr.below hbw).trip hlt
      obtain ⟨u1, u2, _, _, _⟩ := ho.2 hs[k] (List.getElem_mem _)
      have HS := Lib.hid (map_take_sum hs k hlt)
      have hbb' : b < wr.heap.size := Nat.lt_of_lt_of_le hbb hbw.size
      go_wp2_with fail
      refine (sum2_any (by simp) _ _ (by omega) (by omega) (by omega) (by omega)).mono ?_
      rintro e w1 ⟨rfl, rfl⟩
      go_wp2_with fail
      go_roundw
      case rel => exact ⟨k + 1, by omega, by go_num, by rw [HS.out], (hbw.alloc hbw.size _).alloc (by simp; have := hbw.size; omega) _⟩
      case measure => simp [intOf]; omega
    · have hf : valueSum hs = ((hs.map (·.1)).take k).sum := by unfold valueSum; rw [List.take_of_length_le (by simp; omega)]
      have HF := Lib.hid hf
      clear hf
      go_wp2_with fail
      go_ret
      exact ⟨ret_int HF.out.symm, hbw⟩
/-- The pays of a desk as the array 'd.pays' has them. -/
theorem Desk.at_ {w : World} {g : Nat} {p : Int} {A : Option Addr} {n c : Nat} {ps : List Int} (h : Desk w g p A n c ps) {i : Nat} (hi : i < 6) : w.cell? ⟨g, 2 + i, none⟩ = some (.int .i64 (ps[i]'(by rw [h.len]; exact hi))) :=
  h.pays i _ (List.getElem?_eq_getElem (by rw [h.len]; exact hi))
theorem can_at (g : Nat) (p : Int) (A : Option Addr) (c : Nat) (hs : List (Int × Int × Int)) (ps : List Int) (w : World) (hd : Desk w g p A hs.length c ps) (hr : Rd w w.heap.size A (trips hs)) (hl : hs.length ≤ 6) (i : Nat) (hi : i < hs.length) (r : Bool)
    (hres : decide (ps[i]'(by rw [hd.len]; omega) < hs[i].2.2) = r) :
    Calls Tryz.prog 87 #[.pointer (some ⟨g, 0, none⟩), .int .i64 i] w fun e w' => e = .returned (.bool r) ∧ ∃ n, w' = w.drewN n := by
  have hp := hd.pence
  have hh := hd.houses
  have hq := hd.at_ (i := i) (by omega)
  obtain ⟨b, off, rfl, hbb, hc1, hc2, hc3⟩ := hr.trip hi
  have hi6 : (i : Int) < 6 := by omega
  have hi2 : (i : Int) < hs.length := by omega
  have hi0 : (0 : Int) ≤ (i : Int) := by omega
  have HR := Lib.hid hres
  clear hres
  go_enter Tryz.func87, Tryz.ntmps87
  go_wp2_with fail
  go_quiet (fail)
  go_wp2_with fail
  go_ret
  exact ⟨ret_bool HR.out, _, rfl⟩
def greaterV : Value := .func (.func 119) #[] #[]
theorem greater_any (w : World) : Calls Tryz.prog 86 #[] w fun e w' => e = .returned (.agg #[greaterV]) ∧ Below w.heap.size w w' := by
  unfold greaterV
  go_enter Tryz.func86, Tryz.ntmps86
  go_wp2_with fail
  exact bodyPost_ret (v := .agg #[.func (.func 119) #[] #[]]) (by simp [results, Tryz.results86, go_sem]) rfl ⟨rfl, by go_grown⟩
theorem first_any (a b c d : Int) (w : World) (h1 : -1000000 ≤ a * d) (h2 : a * d ≤ 1000000) (h3 : -1000000 ≤ c * b) (h4 : c * b ≤ 1000000) :
    Calls Tryz.prog 119 #[.int .i64 a, .int .i64 b, .int .i64 c, .int .i64 d] w fun e w' => e = .returned (.bool (decide (c * b < a * d))) ∧ w' = w := by
  go_enter Tryz.func119, Tryz.ntmps119
  go_wp2_with fail
  go_ret
  exact ⟨rfl, rfl⟩
end Go.Proofs.YtfojjecnmfkcfaaGreat
namespace Go.Proofs.YtfojjecnmfkcfaaGreat
open Go.RowKit
set_option linter.unusedVariables false
theorem Desk.drewN {w : World} {g : Nat} {p : Int} {A : Option Addr} {n c : Nat} {ps : List Int} (h : Desk w g p A n c ps) (m : Nat) : Desk (w.drewN m) g p A n c ps := ⟨h.lt, h.pence, h.houses, h.len, h.pays, h.free⟩
theorem Desk.alloc {w : World} {g : Nat} {p : Int} {A : Option Addr} {n c : Nat} {ps : List Int} (h : Desk w g p A n c ps) (o : Obj) : Desk (w.alloc o) g p A n c ps := h.below (below_new w o)
theorem Rd.drewN {w : World} {B : Nat} {A : Option Addr} {xs : List Value} (h : Rd w B A xs) (n : Nat) : Rd (w.drewN n) B A xs := h
/-- Does house k, with one penny more, come before house j? -/
def befo (hs : List (Int × Int × Int)) (ps : List Int) (k j : Nat) : Bool := decide ((hs.getD j (0, 0, 0)).1 * (ps.getD k 0 + 1) < (hs.getD k (0, 0, 0)).1 * (ps.getD j 0 + 1))
def canB (hs : List (Int × Int × Int)) (ps : List Int) (k : Nat) : Bool := decide (ps.getD k 0 < (hs.getD k (0, 0, 0)).2.2)
/-- The house that pays the next penny, of the first k ones; -1 if none can. -/
def bestK (hs : List (Int × Int × Int)) (ps : List Int) : Nat → Int
  | 0 => -1
  | k + 1 => if canB hs ps k && (bestK hs ps k == -1 || befo hs ps k (bestK hs ps k).toNat) then (k : Int) else bestK hs ps k
theorem bestK_cases (hs : List (Int × Int × Int)) (ps : List Int) : ∀ k, bestK hs ps k = -1 ∨ ∃ j : Nat, j < k ∧ bestK hs ps k = j := by
  intro k
  induction k with
  | zero => exact .inl rfl
  | succ k ih =>
    simp only [bestK]
    split
    · exact .inr ⟨k, by omega, rfl⟩
    · rcases ih with h | ⟨j, h1, h2⟩
      · exact .inl h
      · exact .inr ⟨j, by omega, h2⟩
theorem mul_bd {a b M N : Int} (h1 : 0 ≤ a) (h2 : a ≤ M) (h3 : 0 ≤ b) (h4 : b ≤ N) (hM : 0 ≤ M) : 0 ≤ a * b ∧ a * b ≤ M * N :=
  ⟨Int.mul_nonneg h1 h3, Int.mul_le_mul h2 h4 h3 hM⟩
set_option maxHeartbeats 1000000 in
theorem next_any (g : Nat) (p : Int) (A : Option Addr) (c : Nat) (hs : List (Int × Int × Int)) (ps : List Int) (w : World) (hd : Desk w g p A hs.length c ps) (hr : Rd w w.heap.size A (trips hs)) (ho : housesOk hs) (hps : ∀ x ∈ ps, 0 ≤ x ∧ x ≤ 600) :
    Calls Tryz.prog 125 #[.pointer (some ⟨g, 0, none⟩), .agg #[greaterV]] w fun e w' => e = .returned (.int .i64 (bestK hs ps hs.length)) ∧ Below w.heap.size w w' := by
  have hp := hd.pence
  have hh := hd.houses
  have hl := ho.1
  have hgl := hd.lt
  have HD := Lib.hid hd
  clear hd
  unfold greaterV
  go_enter Tryz.func125, Tryz.ntmps125
  go_wp2_with fail
  go_loopw [5, 7, 8, 17] (fun o _ _ i wr => ∃ k : Nat, k ≤ hs.length ∧ i = .int .i64 k ∧ o = .int .i64 (bestK hs ps k) ∧ wr.cell? ⟨w.heap.size, 0, none⟩ = some (.func (.func 119) #[] #[]) ∧ w.heap.size < wr.heap.size ∧ Below w.heap.size w wr) (fun _ _ _ i _ => hs.length - (intOf i).toNat)
  case atStart => exact ⟨0, by omega, rfl, rfl, by simp, by simp, by go_grown⟩
  case round =>
    obtain ⟨k, hk, rfl, rfl, hbx, hbs, hbw⟩ := hrel
    by_cases hlt : k < hs.length
    · have hdk := HD.out.below hbw
      obtain ⟨b, off, rfl, hbb, hc1, hc2, hc3⟩ := (hr.below hbw).trip hlt
      have hbb' : b < wr.heap.size := Nat.lt_of_lt_of_le hbb hbw.size
      have hg' : g < wr.heap.size := Nat.lt_of_lt_of_le hgl hbw.size
      have hhw := hdk.houses
      have hgd : hs.getD k (0, 0, 0) = hs[k] := by simp [List.getD_eq_getElem?_getD, List.getElem?_eq_getElem hlt]
      have hk6 : k < ps.length := by rw [hdk.len]; omega
      have hgp : ps.getD k 0 = ps[k] := by simp [List.getD_eq_getElem?_getD, List.getElem?_eq_getElem hk6]
      have HC : ∀ (o : Obj) (n : Nat) (r : Bool), canB hs ps k = r → Hid (Calls Tryz.prog 87 #[.pointer (some ⟨g, 0, none⟩), .int .i64 k] ((wr.alloc o).drewN n) fun e w' => e = .returned (.bool r) ∧ ∃ m, w' = ((wr.alloc o).drewN n).drewN m) := by
        intro o n r hrr
        refine can_at g p _ c hs ps _ ((hdk.alloc o).drewN n) ?_ hl k hlt r ?_
        · exact ((hr.next hbw).alloc o).drewN n
        · rw [← hrr]; unfold canB; rw [hgd, hgp]
      by_cases hcan : canB hs ps k = true
      · have HC1 := fun o n => HC o n true hcan
        clear HC
        rcases bestK_cases hs ps k with hb1 | ⟨j, hj, hb1⟩
        · have hF : bestK hs ps (k + 1) = (k : Int) := by simp only [bestK]; rw [hcan, hb1]; rfl
          have HF := Lib.hid hF
          rw [hb1]
          clear hF hb1 hgd hgp
          have HH := Lib.hid hcan
          clear hcan
          go_wp2_with fail
          go_quiet ((go_at_call 87; exact Calls.quiet_of (HC1 _ _).out))
          go_wp2_with fail
          go_roundw
          case rel => exact ⟨k + 1, by omega, by go_num, by rw [HF.out], (World.cell?_alloc_lt wr _ ⟨w.heap.size, 0, none⟩ hbs).trans hbx, by simp; omega, below_drewN (hbw.alloc hbw.size _) _⟩
          case measure => simp [intOf]; omega
        · have Hb1 := Lib.hid hb1
          clear hb1
          have hjl : j < hs.length := by omega
          obtain ⟨hj1, hj2, hj3⟩ := (hr.below hbw).trip' hjl
          have hj6 : j < ps.length := by rw [hdk.len]; omega
          have hgj : hs.getD j (0, 0, 0) = hs[j] := by simp [List.getD_eq_getElem?_getD, List.getElem?_eq_getElem hjl]
          have hgq : ps.getD j 0 = ps[j] := by simp [List.getD_eq_getElem?_getD, List.getElem?_eq_getElem hj6]
          have hpk := hdk.at_ (i := k) (by omega)
          have hpj := hdk.at_ (i := j) (by omega)
          obtain ⟨x1, x2⟩ := hps ps[k] (List.getElem_mem _)
          obtain ⟨y1, y2⟩ := hps ps[j] (List.getElem_mem _)
          obtain ⟨u1, u2, _⟩ := ho.2 hs[k] (List.getElem_mem _)
          obtain ⟨v1, v2, _⟩ := ho.2 hs[j] (List.getElem_mem _)
          have m1 := mul_bd u1 u2 (show 0 ≤ ps[j] + 1 by omega) (show ps[j] + 1 ≤ 601 by omega) (by omega)
          have m2 := mul_bd v1 v2 (show 0 ≤ ps[k] + 1 by omega) (show ps[k] + 1 ≤ 601 by omega) (by omega)
          have HB : befo hs ps k j = decide (hs[j].1 * (ps[k] + 1) < hs[k].1 * (ps[j] + 1)) := by unfold befo; rw [hgd, hgj, hgp, hgq]
          have HN : (bestK hs ps k == -1) = false := by rw [Hb1.out, beq_eq_false_iff_ne]; omega
          have HFst : ∀ W : World, Hid (Calls Tryz.prog 119 #[.int .i64 hs[k].1, .int .i64 (ps[k] + 1), .int .i64 hs[j].1, .int .i64 (ps[j] + 1)] W fun e w' => e = .returned (.bool (befo hs ps k j)) ∧ w' = W) := by
            intro W
            rw [HB]
            exact first_any _ _ _ _ W (by omega) (by omega) (by omega) (by omega)
          have hF : bestK hs ps (k + 1) = if befo hs ps k j = true then (k : Int) else bestK hs ps k := by
            simp only [bestK]
            rw [hcan, HN, Hb1.out, Int.toNat_natCast]
            simp
          rw [Hb1.out] at hF
          have HF := Lib.hid hF
          have HH := Lib.hid hcan
          have hj0 : ((j : Int) == -1) = false := by rw [beq_eq_false_iff_ne]; omega
          have hj7 : (j : Int) < 6 := by omega
          have hj8 : (j : Int) < hs.length := by omega
          have hk7 : (k : Int) < 6 := by omega
          have q1 : IntKind.i64.wrap (ps[k] + 1) = ps[k] + 1 := IntWalk.i64_in _ (by omega)
          have q2 : IntKind.i64.wrap (ps[j] + 1) = ps[j] + 1 := IntWalk.i64_in _ (by omega)
          rw [Hb1.out]
          clear hF hgd hgp hgj hgq HB HN hcan m1 m2
          by_cases hbe : befo hs ps k j = true
          · have HF2 := HF.out
            rw [if_pos hbe] at HF2
            have HF2' := Lib.hid HF2
            rw [hbe] at HFst
            clear HF2 hbe
            go_wp2_with fail
            go_quiet ((first | (go_at_call 87; exact Calls.quiet_of (HC1 _ _).out) | (go_at_call 119; exact Calls.quiet_of_same (HFst _).out)))
            clear q1 q2
            go_wp2_with fail
            go_roundw
            case rel => exact ⟨k + 1, by omega, by go_num, by rw [HF2'.out], (World.cell?_alloc_lt wr _ ⟨w.heap.size, 0, none⟩ hbs).trans hbx, by simp; omega, below_drewN (hbw.alloc hbw.size _) _⟩
            case measure => simp [intOf]; omega
          · have HF2 := HF.out
            rw [if_neg hbe] at HF2
            have HF2' := Lib.hid HF2
            have hbe' : befo hs ps k j = false := by simpa using hbe
            rw [hbe'] at HFst
            clear HF2 hbe hbe'
            go_wp2_with fail
            go_quiet ((first | (go_at_call 87; exact Calls.quiet_of (HC1 _ _).out) | (go_at_call 119; exact Calls.quiet_of_same (HFst _).out)))
            clear q1 q2
            go_wp2_with fail
            go_roundw
            case rel => exact ⟨k + 1, by omega, by go_num, by rw [HF2'.out], (World.cell?_alloc_lt wr _ ⟨w.heap.size, 0, none⟩ hbs).trans hbx, by simp; omega, below_drewN (hbw.alloc hbw.size _) _⟩
            case measure => simp [intOf]; omega
      · have hcan' : canB hs ps k = false := by simpa using hcan
        have HC1 := fun o n => HC o n false hcan'
        have hF : bestK hs ps (k + 1) = bestK hs ps k := by simp only [bestK]; rw [hcan']; rfl
        have HF := Lib.hid hF
        have HH := Lib.hid hcan'
        clear HC hF hgd hgp hcan' hcan
        go_wp2_with fail
        go_quiet ((go_at_call 87; exact Calls.quiet_of (HC1 _ _).out))
        go_wp2_with fail
        go_roundw
        case rel => exact ⟨k + 1, by omega, by go_num, by rw [HF.out], (World.cell?_alloc_lt wr _ ⟨w.heap.size, 0, none⟩ hbs).trans hbx, by simp; omega, below_drewN (hbw.alloc hbw.size _) _⟩
        case measure => simp [intOf]; omega
    · have hkk : k = hs.length := by omega
      have Hk := Lib.hid hkk
      clear hkk
      go_wp2_with fail
      go_ret
      exact ⟨ret_int (by rw [Hk.out]), hbw⟩
end Go.Proofs.YtfojjecnmfkcfaaGreat
namespace Go.Proofs.YtfojjecnmfkcfaaGreat
open Go.RowKit
set_option linter.unusedVariables false
/-- One penny more for a house. -/
def bump (ps : List Int) (j : Nat) : List Int := ps.set j (ps.getD j 0 + 1)
/-- At most n pennies more, each for the house that comes next. -/
def pour (hs : List (Int × Int × Int)) : Nat → List Int → List Int
  | 0, ps => ps
  | n + 1, ps => if bestK hs ps hs.length = -1 then ps else pour hs n (bump ps (bestK hs ps hs.length).toNat)
theorem bump_length (ps : List Int) (j : Nat) : (bump ps j).length = ps.length := by simp [bump]
theorem sum_set (ps : List Int) : ∀ (j : Nat) (v : Int), j < ps.length → (ps.set j v).sum = ps.sum - ps.getD j 0 + v := by
  induction ps with
  | nil => intro j v h; simp at h
  | cons a ps ih =>
    intro j v h
    cases j with
    | zero => simp; omega
    | succ j =>
      have := ih j v (by simpa using h)
      simp only [List.set_cons_succ, List.sum_cons, List.getD_cons_succ]
      rw [this]; omega
theorem bump_sum (ps : List Int) (j : Nat) (h : j < ps.length) : (bump ps j).sum = ps.sum + 1 := by
  unfold bump; rw [sum_set ps j _ h]; omega
theorem bestK_can (hs : List (Int × Int × Int)) (ps : List Int) : ∀ (k j : Nat), bestK hs ps k = j → canB hs ps j = true := by
  intro k
  induction k with
  | zero => intro j h; simp only [bestK] at h; omega
  | succ k ih =>
    intro j h
    simp only [bestK] at h
    split at h
    · rename_i h1
      obtain rfl : k = j := by omega
      simp only [Bool.and_eq_true] at h1
      exact h1.1
    · exact ih j h
/-- Pays that a desk may have. -/
def paysOk (hs : List (Int × Int × Int)) (ps : List Int) : Prop := ps.length = 6 ∧ ∀ j, 0 ≤ ps.getD j 0 ∧ ps.getD j 0 ≤ 500 
theorem paysOk_mem {hs : List (Int × Int × Int)} {ps : List Int} (h : paysOk hs ps) : ∀ x ∈ ps, 0 ≤ x ∧ x ≤ 600 := by
  intro x hx
  obtain ⟨i, hi, rfl⟩ := List.mem_iff_getElem.1 hx
  have := h.2 i
  rw [List.getD_eq_getElem?_getD, List.getElem?_eq_getElem hi] at this
  simp at this
  omega
theorem bump_getD (ps : List Int) (j i : Nat) (h : j < ps.length) : (bump ps j).getD i 0 = if i = j then ps.getD j 0 + 1 else ps.getD i 0 := by
  unfold bump
  rw [List.getD_eq_getElem?_getD, List.getElem?_set]
  by_cases e : j = i
  · subst e; simp [h]
  · rw [if_neg e, if_neg (fun h => e h.symm)]; simp [List.getD_eq_getElem?_getD]
theorem paysOk_bump {hs : List (Int × Int × Int)} (ho : housesOk hs) {ps : List Int} (h : paysOk hs ps) {j : Nat} (hj : j < hs.length) (hc : canB hs ps j = true) : paysOk hs (bump ps j) := by
  refine ⟨by rw [bump_length]; exact h.1, fun i => ?_⟩
  have hl := ho.1
  rw [bump_getD ps j i (by rw [h.1]; omega)]
  split
  · have h1 := h.2 j
    unfold canB at hc
    rw [decide_eq_true_eq, List.getD_eq_getElem?_getD (l := hs), List.getElem?_eq_getElem hj, Option.getD_some] at hc
    have := ho.2 hs[j] (List.getElem_mem _)
    omega
  · exact h.2 i
theorem Desk.bump {w : World} {g : Nat} {p : Int} {A : Option Addr} {n c : Nat} {ps : List Int} (h : Desk w g p A n c ps) {j : Nat} (hj : j < 6) (v : Int) : Desk (w.setCell ⟨g, 2 + j, none⟩ (.int .i64 v)) g p A n c (ps.set j v) := by
  have hat := h.at_ hj
  refine ⟨by simpa [World.setCell] using h.lt, ?_, ?_, by rw [List.length_set]; exact h.len, fun i u hu => ?_, fun o => by rw [World.frozen?_setCell]; exact h.free o⟩
  · rw [World.cell?_setCell_other _ _ _ _ (by intro e; injection e; omega)]; exact h.pence
  · rw [World.cell?_setCell_other _ _ _ _ (by intro e; injection e; omega)]; exact h.houses
  · rw [List.getElem?_set] at hu
    by_cases e : j = i
    · subst e
      rw [if_pos rfl, if_pos (by rw [h.len]; exact hj)] at hu
      cases hu
      exact World.cell?_setCell_same' _ _ _ (by rw [hat]; rfl)
    · rw [if_neg e] at hu
      rw [World.cell?_setCell_other _ _ _ _ (by intro e'; injection e'; omega)]
      exact h.pays i u hu
end Go.Proofs.YtfojjecnmfkcfaaGreat
namespace Go.Proofs.YtfojjecnmfkcfaaGreat
open Go.RowKit
set_option linter.unusedVariables false
attribute [local go_sem] Oper.semAt_some
/-- The record of a range over a function. -/
def recOf (fn : FuncId) (tmps : Array Value) (ps : Array Tmp) (assign body : Code) (D : Nat) (st : LoopState) (pe : Option Code) : Loop :=
  { state := st, pending := pe, fn := fn, tmps := tmps, params := ps, assign := assign, body := body, defers := D }
/-- A range over a function in a plain frame: what is owed is the iterator's contract at the new record. -/
theorem wp_range {P : Program} {gop : Operand} {ps : Array Tmp} {assign body : Code} {Q : Exit → Act → World → Prop} {a : Act} {W0 : World} (n : Nat) {gf : Nat} {lb : Array Value} (hg : a.eval gop = .func (.func gf) #[] lb)
    (eg : ∀ args w, (callFunc gf args).run P w = .ok (.enter gf args) w)
    (h : ∀ (fn : FuncId) (rec : LoopState → Option Code → Loop), rec = recOf fn a.tmps ps assign body W0.heap.size → Calls P gf (#[.func (.yield (W0.heap.size + 1)) #[] #[]] ++ lb) ((W0.alloc (.deferred (some []))).alloc (.loop (rec .ready none))) fun e W' => (∃ v, e = .returned v) ∧
      ∃ st pe, st ≠ .busy ∧ W'.heap[W0.heap.size + 1]? = some (.loop (rec st pe)) ∧
        (match pe with
          | none => Q .normal { a with defers := [{ target := .collected W0.heap.size, args := #[] }] ++ a.defers } (W'.putObj (W0.heap.size + 1) (.loop (rec .exhausted pe)))
          | some c => c.wpIn Fence.wide n P Q { a with defers := [{ target := .collected W0.heap.size, args := #[] }] ++ a.defers } (W'.putObj (W0.heap.size + 1) (.loop (rec .exhausted pe))))) :
    (Code.rangeFunc gop ps assign body).wp P Q a W0 := by
  refine (wpIn_wide (n := n)).1 (wpIn_rangeFunc ?_)
  intro fn hfn
  obtain ⟨W1, hW1⟩ : ∃ W1, (W0.alloc (.deferred (some []))).alloc (.loop (recOf fn a.tmps ps assign body W0.heap.size .ready none)) = W1 := ⟨_, rfl⟩
  refine ⟨W0.heap.size + 1, [{ target := .collected W0.heap.size, args := #[] }], W1, { target := .fn (.func gf) lb, args := #[.func (.yield (W0.heap.size + 1)) #[] #[]] }, W1, gf,
    #[.func (.yield (W0.heap.size + 1)) #[] #[]] ++ lb, W1, ?_, ?_, ?_, ?_, ?_, ?_⟩
  · rw [← hW1]; exact run_enterLoop_outer _ _ _ _ _
  · simp only [resolve, hg]
    simp [go_sem]
  · intro f' hf'; trivial
  · simp [invoke, go_sem, eg]
  · intro hd; simp [Fence.wide] at hd
  · rw [← hW1]
    refine callsIn_wide.2 ((h fn _ rfl).mono ?_)
    rintro e W2 ⟨⟨v, rfl⟩, st, pe, hst, hl, hq⟩
    refine ⟨pe, _, run_endLoop hl hst, ?_⟩
    cases pe with
    | none => exact hq
    | some c => exact hq
/-- One round of it, for a body whose assignment is nothing. -/
theorem yield_round {P : Program} {l m : Nat} {fn : FuncId} {tmps : Array Value} {ps : Array Tmp} {body : Code} {D : Nat} {args : Array Value} {W : World} {R : Ending → World → Prop}
    (hl : W.heap[l]? = some (.loop (recOf fn tmps ps .skip body D .ready none))) (hs : args.size = ps.size)
    (hb : body.wpIn (Fence.wide.inRound l) m P (roundPost P l R) { tmps := (ps.zip args).foldl (fun t (p, v) => t.setIfInBounds p v) tmps, defers := [] } (W.putObj l (.loop (recOf fn tmps ps .skip body D .busy none)))) :
    YieldAt Fence.wide m P l args W R := by
  have hy := run_yield (P := P) (args := args) hl hs
  refine ⟨fn, _, .skip, body, hy, roundIn_of_wpIn trivial ?_⟩
  exact wpIn_skip ⟨_, run_beginRound hl rfl, hb⟩
/-- Where 'bid' stands between two pennies: the desk, and the loop's record and block. -/
structure Bd (w0 : World) (g l D : Nat) (rec : LoopState → Option Code → Loop) (p : Int) (A : Option Addr) (n c : Nat) (ps : List Int) (st : LoopState) (pe : Option Code) (W : World) : Prop where
  fr : w0.grownBy W (some g)
  desk : Desk W g p A n c ps
  loop : W.heap[l]? = some (.loop (rec st pe))
  coll : W.heap[D]? = some (.deferred (some []))
section
variable {w0 W W' : World} {g l D : Nat} {rec : LoopState → Option Code → Loop} {p : Int} {A : Option Addr} {n c : Nat} {ps : List Int} {st : LoopState} {pe : Option Code}
theorem grown_below {a : World} {row : Option Nat} (h : a.grownBy W row) (hb : Below W.heap.size W W') : a.grownBy W' row :=
  ⟨hb.os.trans h.os, hb.tape.trans h.tape, hb.output.trans h.output, Nat.le_trans h.size hb.size, fun k hk hn => (hb.block k (Nat.lt_of_lt_of_le hk h.size)).trans (h.block k hk hn)⟩
theorem Bd.below (h : Bd w0 g l D rec p A n c ps st pe W) (hb : Below W.heap.size W W') : Bd w0 g l D rec p A n c ps st pe W' :=
  ⟨grown_below h.fr hb, h.desk.below hb, (hb.block l (Array.getElem?_eq_some_iff.1 h.loop).1).trans h.loop, (hb.block D (Array.getElem?_eq_some_iff.1 h.coll).1).trans h.coll⟩
theorem Bd.set_ (h : Bd w0 g l D rec p A n c ps st pe W) (hl : g ≠ l) (hD : g ≠ D) {j : Nat} (hj : j < 6) (v : Int) : Bd w0 g l D rec p A n c (ps.set j v) st pe (W.setCell ⟨g, 2 + j, none⟩ (.int .i64 v)) := by
  refine ⟨⟨h.fr.os, h.fr.tape, h.fr.output, by simpa [World.setCell] using h.fr.size, fun k hk hn => ?_⟩, h.desk.bump hj v, ?_, ?_⟩
  · exact (Below.heap_setCell W ⟨g, 2 + j, none⟩ _ k (fun e => hn (by rw [e]))).trans (h.fr.block k hk hn)
  · exact (Below.heap_setCell W ⟨g, 2 + j, none⟩ _ l (fun e => hl e.symm)).trans h.loop
  · exact (Below.heap_setCell W ⟨g, 2 + j, none⟩ _ D (fun e => hD e.symm)).trans h.coll
end
theorem Desk.of_cells {w w' : World} {g : Nat} {p : Int} {A : Option Addr} {n c : Nat} {ps : List Int} (h : Desk w g p A n c ps) (hs : g < w'.heap.size) (hg : w'.heap[g]? = w.heap[g]?) : Desk w' g p A n c ps :=
  ⟨hs, (World.cell?_of_block (a := ⟨g, 0, none⟩) hg).trans h.pence, (World.cell?_of_block (a := ⟨g, 1, none⟩) hg).trans h.houses, h.len, fun i u hu => (World.cell?_of_block (a := ⟨g, 2 + i, none⟩) hg).trans (h.pays i u hu), fun o => (World.frozen?_of_block (a := ⟨g, o, none⟩) hg).trans (h.free o)⟩
theorem putObj_size (W : World) (l : Nat) (o : Obj) : (W.putObj l o).heap.size = W.heap.size := by simp [World.putObj]
theorem Bd.put {w0 W : World} {g l D : Nat} {rec : LoopState → Option Code → Loop} {p : Int} {A : Option Addr} {n c : Nat} {ps : List Int} {st : LoopState} {pe : Option Code} (h : Bd w0 g l D rec p A n c ps st pe W) (hl : g ≠ l) (hlD : D ≠ l) (hw : w0.heap.size ≤ l) (st' : LoopState) (pe' : Option Code) :
    Bd w0 g l D rec p A n c ps st' pe' (W.putObj l (.loop (rec st' pe'))) := by
  have hlt := (Array.getElem?_eq_some_iff.1 h.loop).1
  refine ⟨⟨h.fr.os, h.fr.tape, h.fr.output, by rw [putObj_size]; exact h.fr.size, fun k hk hn => ?_⟩, h.desk.of_cells (by rw [putObj_size]; exact h.desk.lt) (World.putObj_heap_other hl), World.putObj_heap_same hlt, (World.putObj_heap_other hlD).trans h.coll⟩
  exact (World.putObj_heap_other (by omega)).trans (h.fr.block k hk hn)
theorem Rd.grown {w W : World} {B : Nat} {A : Option Addr} {xs : List Value} {g : Nat} (h : Rd w B A xs) (hg : w.grownBy W (some g)) (hB : B ≤ g) (hw : B ≤ w.heap.size) : Rd W B A xs :=
  h.keep fun b o hb => World.cell?_of_block (hg.block b (by omega) (by intro e; injection e; omega))
def deskSum (w : World) (g : Nat) : Int := intOf ((w.cell? ⟨g, 2, none⟩).getD undef) + intOf ((w.cell? ⟨g, 3, none⟩).getD undef) + intOf ((w.cell? ⟨g, 4, none⟩).getD undef) + intOf ((w.cell? ⟨g, 5, none⟩).getD undef) + intOf ((w.cell? ⟨g, 6, none⟩).getD undef) + intOf ((w.cell? ⟨g, 7, none⟩).getD undef)
theorem deskSum_eq {w : World} {g : Nat} {p : Int} {A : Option Addr} {n c : Nat} {ps : List Int} (h : Desk w g p A n c ps) : deskSum w g = ps.sum := by
  have a0 := h.at_ (i := 0) (by omega)
  have a1 := h.at_ (i := 1) (by omega)
  have a2 := h.at_ (i := 2) (by omega)
  have a3 := h.at_ (i := 3) (by omega)
  have a4 := h.at_ (i := 4) (by omega)
  have a5 := h.at_ (i := 5) (by omega)
  have hl := h.len
  unfold deskSum
  simp only [Nat.add_zero, Nat.reduceAdd] at a0 a1 a2 a3 a4 a5
  rw [a0, a1, a2, a3, a4, a5]
  match ps, hl with
  | [x0, x1, x2, x3, x4, x5], _ => simp [intOf]; omega
theorem keep1 {w0 w1 w2 : World} {b1 o1 : Nat} {v1 : Value} (hB : b1 < w0.heap.size) (h : w1.cell? ⟨b1, o1, none⟩ = some v1 ∧ Below w0.heap.size w0 w1)
    (hb : Below w1.heap.size w1 w2) : w2.cell? ⟨b1, o1, none⟩ = some v1 ∧ Below w0.heap.size w0 w2 := by
  obtain ⟨h1, h5⟩ := h
  exact ⟨(hb.cell (p := ⟨b1, o1, none⟩) (Nat.lt_of_lt_of_le hB h5.size)).trans h1, h5.trans (hb.mono h5.size)⟩
set_option maxHeartbeats 1000000 in
theorem pennies1_any (w0 : World) (m g l D bx : Nat) (rec : LoopState → Option Code → Loop) (p : Int) (A : Option Addr) (c : Nat) (hs : List (Int × Int × Int)) (ho : housesOk hs) (hr : Rd w0 g A (trips hs)) (hgw : g < w0.heap.size) (hl : g ≠ l) (hD : g ≠ D)
    (hbx : w0.cell? ⟨bx, 0, none⟩ = some (.pointer (some ⟨g, 0, none⟩))) (hbg : bx ≠ g) (hbw : bx < w0.heap.size)
    (HY : ∀ (h : Int) (ps : List Int) (W : World), Bd w0 g l D rec p A hs.length c ps .ready none W → paysOk hs ps → YieldAt Fence.wide m Tryz.prog l #[.int .i64 h] W fun e W' =>
      (ps.sum ≠ p ∧ e = .returned (.bool true) ∧ Bd w0 g l D rec p A hs.length c ps .ready none W') ∨ (ps.sum = p ∧ e = .returned (.bool false) ∧ Bd w0 g l D rec p A hs.length c ps .done (some (.exit 2)) W'))
    (W : World) (ps : List Int) (hB : Bd w0 g l D rec p A hs.length c ps .ready none W) (hps : paysOk hs ps) (hsum : ps.sum < p) (hp : p ≤ 500) :
    Calls Tryz.prog 124 #[.func (.yield l) #[] #[], .pointer (some ⟨bx, 0, none⟩)] W fun e W' => (∃ v, e = .returned v) ∧
      ∃ st pe, Bd w0 g l D rec p A hs.length c (pour hs (p - ps.sum).toNat ps) st pe W' ∧ (st = .ready ∧ pe = none ∨ st = .done ∧ pe = some (.exit 2)) := by
  have HB := Lib.hid hB
  have hcx : W.cell? ⟨bx, 0, none⟩ = some (.pointer (some ⟨g, 0, none⟩)) := (World.cell?_of_block (hB.fr.block bx hbw (by intro e; injection e with e; exact hbg e))).trans hbx
  clear hB
  obtain ⟨R, hR⟩ : ∃ R, R = pour hs (p - ps.sum).toNat ps := ⟨_, rfl⟩
  rw [← hR]
  have HR := Lib.hid hR
  clear hR
  go_enter Tryz.func124, Tryz.ntmps124
  go_wp2_with fail
  have hbW : bx < W.heap.size := Nat.lt_of_lt_of_le hbw HB.out.fr.size
  have HN : ∀ W1 : World, Below W.heap.size W W1 → Hid (Calls Tryz.prog 125 #[.pointer (some ⟨g, 0, none⟩), .agg #[greaterV]] W1 fun e w' => e = .returned (.int .i64 (bestK hs ps hs.length)) ∧ Below W1.heap.size W1 w') := by
    intro W1 hb1
    have h1 := HB.out.below hb1
    exact next_any g p A c hs ps W1 h1.desk ((hr.grown h1.fr (Nat.le_refl _) (Nat.le_of_lt hgw)).more (Nat.le_trans (Nat.le_of_lt hgw) h1.fr.size)) ho (paysOk_mem hps)
  go_region_held3 (fun w' => w'.cell? ⟨bx, 0, none⟩ = some (.pointer (some ⟨g, 0, none⟩)) ∧ Below W.heap.size W w') (first | exact ⟨hcx, (Below.refl _ _).drew⟩ | exact keep1 hbW (by assumption) (by assumption))
    (first | (go_at_call 86; refine (greater_any _).mono ?_; rintro e w' ⟨rfl, hb⟩) | (go_at_call 125; refine ((HN _ (And.right (by assumption))).out).mono ?_; rintro e w' ⟨rfl, hb⟩))
  all_goals go_wp2_with fail
  have hbz : Below W.heap.size W _ := And.right (by assumption)
  go_loopw [3] (fun h wr => ∃ ps' : List Int, paysOk hs ps' ∧ Bd w0 g l D rec p A hs.length c ps' .ready none wr ∧ ps'.sum < p ∧ pour hs (p - ps'.sum).toNat ps' = R ∧ h = .int .i64 (bestK hs ps' hs.length)) (fun _ wr => (p - deskSum wr g).toNat)
  case atStart => exact ⟨ps, hps, HB.out.below hbz, hsum, HR.out.symm, rfl⟩
  case round =>
    obtain ⟨ps', hpo, hbd, hsu, hpr, rfl⟩ := hrel
    have HB' := Lib.hid hbd
    have Hpr := Lib.hid hpr
    have hdk := hbd.desk
    have hcx' : wr.cell? ⟨bx, 0, none⟩ = some (.pointer (some ⟨g, 0, none⟩)) := (World.cell?_of_block (hbd.fr.block bx hbw (by intro e; injection e with e; exact hbg e))).trans hbx
    have hHs := deskSum_eq hdk
    clear hbd hpr hcx hbz
    rcases bestK_cases hs ps' hs.length with hb1 | ⟨j, hj, hb1⟩
    · have hfin : ps' = R := by
        rw [← Hpr.out]
        obtain ⟨q, hq⟩ : ∃ q, (p - ps'.sum).toNat = q + 1 := ⟨(p - ps'.sum).toNat - 1, by omega⟩
        rw [hq]; simp only [pour]; rw [if_pos hb1]
      have Hfin := Lib.hid hfin
      rw [hb1]
      clear hfin hb1 hHs
      go_wp2_with fail
      go_end0
      exact ⟨⟨_, rfl⟩, _, _, by rw [← Hfin.out]; exact HB'.out, .inl ⟨rfl, rfl⟩⟩
    · have hcan := bestK_can hs ps' hs.length j hb1
      rw [hb1]
      have Hb1 := Lib.hid hb1
      have HHs := Lib.hid hHs
      clear hb1 hHs
      have hj6 : (j : Int) < 6 := by have := ho.1; omega
      have hj0 : (0 : Int) ≤ (j : Int) := by omega
      have hj1 : ((j : Int) != -1) = true := by rw [bne_iff_ne]; omega
      have hat := hdk.at_ (i := j) (by omega)
      have hfz := hdk.free (2 + j)
      have hjl : j < ps'.length := by rw [hpo.1]; omega
      have hvb := hpo.2 j
      rw [List.getD_eq_getElem?_getD, List.getElem?_eq_getElem hjl, Option.getD_some] at hvb
      obtain ⟨v1, v2⟩ := hvb
      have Hcan := Lib.hid hcan
      clear hcan
      go_wp2_with fail
      have q1 : IntKind.i64.wrap (ps'[j] + 1) = ps'[j] + 1 := IntWalk.i64_in _ (by omega)
      go_region
      all_goals go_upto_region 4 with (fail)
      have hset : ps'.set j (ps'[j] + 1) = bump ps' j := by
        unfold bump; rw [List.getD_eq_getElem?_getD, List.getElem?_eq_getElem hjl, Option.getD_some]
      have hB1 := HB'.out.set_ hl hD (j := j) (by omega) (ps'[j] + 1)
      rw [hset] at hB1
      clear hset
      have hB2 : Bd w0 g l D rec p A hs.length c (bump ps' j) .ready none (wr.setCell ⟨g, 2 + j, none⟩ (.int .i64 (ps'[j] + 1))).drew := hB1.below ((Below.refl _ _).drew)
      have hpo1 := paysOk_bump ho hpo hj Hcan.out
      obtain ⟨fn, tmps, assign, body, hy, hRd⟩ := HY j (bump ps' j) _ hB2 hpo1
      have HRd := Lib.hid hRd
      clear hRd q1
      refine (wpIn_wide (n := m + 1)).1 ?_
      gi_wp2
      refine HRd.out.mono ?_
      rintro e W2 (⟨hne, rfl, hb2⟩ | ⟨heq, rfl, hb2⟩)
      · have hbs : (bump ps' j).sum = ps'.sum + 1 := bump_sum ps' j hjl
        have hpr2 : pour hs (p - (bump ps' j).sum).toNat (bump ps' j) = R := by
          rw [← Hpr.out]
          obtain ⟨q, hq⟩ : ∃ q, (p - ps'.sum).toNat = q + 1 := ⟨(p - ps'.sum).toNat - 1, by omega⟩
          rw [hq, show (p - (bump ps' j).sum).toNat = q from by omega]
          simp only [pour]
          rw [if_neg (by rw [Hb1.out]; omega), Hb1.out, Int.toNat_natCast]
        have Hpr2 := Lib.hid hpr2
        have hlt2 : (bump ps' j).sum < p := by omega
        have Hbs := Lib.hid hbs
        have HB2 := Lib.hid hb2
        have hcx2 : W2.cell? ⟨bx, 0, none⟩ = some (.pointer (some ⟨g, 0, none⟩)) := (World.cell?_of_block (hb2.fr.block bx hbw (by intro e; injection e with e; exact hbg e))).trans hbx
        have hbW2 : bx < W2.heap.size := Nat.lt_of_lt_of_le hbw hb2.fr.size
        have HN2 : ∀ W1 : World, Below W2.heap.size W2 W1 → Hid (Calls Tryz.prog 125 #[.pointer (some ⟨g, 0, none⟩), .agg #[greaterV]] W1 fun e w' => e = .returned (.int .i64 (bestK hs (bump ps' j) hs.length)) ∧ Below W1.heap.size W1 w') := by
          intro W1 hb1
          have h1 := HB2.out.below hb1
          exact next_any g p A c hs (bump ps' j) W1 h1.desk ((hr.grown h1.fr (Nat.le_refl _) (Nat.le_of_lt hgw)).more (Nat.le_trans (Nat.le_of_lt hgw) h1.fr.size)) ho (paysOk_mem hpo1)
        clear hpr2 hbs hb2 hy hB1 hB2 hne HN
        gi_wp2
        go_wp2_with fail
        go_region_held3 (fun w' => w'.cell? ⟨bx, 0, none⟩ = some (.pointer (some ⟨g, 0, none⟩)) ∧ Below W2.heap.size W2 w') (first | exact ⟨hcx2, (Below.refl _ _).drew⟩ | exact keep1 hbW2 (by assumption) (by assumption))
          (first | (go_at_call 86; refine (greater_any _).mono ?_; rintro e w' ⟨rfl, hb⟩) | (go_at_call 125; refine ((HN2 _ (And.right (by assumption))).out).mono ?_; rintro e w' ⟨rfl, hb⟩))
        all_goals go_wp2_with fail
        go_roundw
        case rel => exact ⟨bump ps' j, hpo1, HB2.out.below (And.right (by assumption)), hlt2, Hpr2.out, rfl⟩
        case measure =>
          have hbz2 : Below W2.heap.size W2 _ := And.right (by assumption)
          rw [deskSum_eq (HB2.out.below hbz2).desk, deskSum_eq hdk, Hbs.out]
          omega
      · have hpr2 : bump ps' j = R := by
          have hbs : (bump ps' j).sum = ps'.sum + 1 := bump_sum ps' j hjl
          rw [← Hpr.out]
          obtain ⟨q, hq⟩ : ∃ q, (p - ps'.sum).toNat = q + 1 := ⟨(p - ps'.sum).toNat - 1, by omega⟩
          rw [hq, show q = 0 from by omega]
          simp only [pour]
          rw [if_neg (by rw [Hb1.out]; omega), Hb1.out, Int.toNat_natCast]
        have Hpr2 := Lib.hid hpr2
        have HB2 := Lib.hid hb2
        clear hpr2 hb2 hy hB1 hB2 heq HN
        gi_wp2
        go_wp2_with fail
        refine bodyPost_ret (results_none rfl _ _ _) rfl ?_
        exact ⟨⟨_, rfl⟩, _, _, by rw [← Hpr2.out]; exact HB2.out, .inr ⟨rfl, rfl⟩⟩
end Go.Proofs.YtfojjecnmfkcfaaGreat
namespace Go.Proofs.YtfojjecnmfkcfaaGreat
open Go.RowKit
set_option linter.unusedVariables false
section
variable {F : Fence} {n : Nat} {P : Program} {ops : Array Oper} {C : World → Prop}
def noDefer (o : Oper) : Prop := ∀ c, o.op ≠ .defer c
theorem round_oper {o : Oper} {a : Act} {K : Act → Prop} {K' : Act → World → Prop} {Q' : Exit → Act → World → Prop} {w : World} (hd : noDefer o) (hw : C w) (h : ∀ a w', C w' → K a → K' a w')
    (ha : o.askedIn F P a C) (hh : o.quietIn F n P a C K) : o.wpIn F n P a w K' Q' := by
  obtain ⟨v, h1, h2⟩ := hh
  have h3 := h1 w hw
  unfold Oper.quietAtIn at h3
  unfold Oper.wpIn
  refine ⟨ha w hw, ?_⟩
  rw [Oper.semAt_plain F _ o hd]
  generalize (execOp a.eval o).run P w = r at *
  cases r with
  | ok x w' =>
    cases x <;> simp only [Oper.quietUponIn] at h3 <;> simp only [Oper.uponIn]
    case value u => obtain ⟨e1, e2⟩ := h3; rw [e1, e2]; exact h _ _ hw h2
    case skip => obtain ⟨e1, e2⟩ := h3; rw [e1, ← e2]; exact h _ _ hw h2
    case enter f args =>
      obtain ⟨e1, hd, hc⟩ := h3
      rw [e1]
      exact ⟨hd, hc.mono fun e w'' ⟨he, hw''⟩ => by subst he; exact h _ _ hw'' h2⟩
  | halt x w' => simp only [Oper.quietUponIn] at h3
theorem round_op {i : Nat} {a : Act} {K : Act → Prop} {K' : Act → World → Prop} {Q' : Exit → Act → World → Prop} {w : World} (hd : ∀ o ∈ ops, noDefer o) (hC : C w) (h : ∀ a w', C w' → K a → K' a w')
    (hh : qOpIn F n P ops C i K a) : wpOpIn F n P ops Q' i K' a w := by
  unfold qOpIn at hh
  unfold wpOpIn
  split
  · rename_i ho; simp only [ho] at hh; exact h _ _ hC hh
  · rename_i o ho
    simp only [ho] at hh
    obtain ⟨ha, hh⟩ := hh
    split
    · rename_i hw; simp only [hw, if_true] at hh; exact round_oper (hd o (Array.mem_of_getElem? ho)) hC h ha hh
    · rename_i hw; simp only [hw] at hh; exact ⟨ha w hC, h _ _ hC hh⟩
theorem round_any {Q : Act → Prop} {Q' : Exit → Act → World → Prop} (hd : ∀ o ∈ ops, noDefer o) (hQ : ∀ a w, C w → Q a → Q' .normal a w) : ∀ (fuel : Nat) (listed : Array Bool) (a : Act) (w : World), C w →
    wpAnyQIn F n P .any ops C Q fuel listed a → wpAnyIn F n P .any ops Q' fuel listed a w
  | 0, _, _, _, hw, h => ⟨h.1, hQ _ _ hw h.2⟩
  | fuel + 1, _, _, _, hw, h => ⟨fun h0 => hQ _ _ hw (h.1 h0), fun i hi => round_op hd hw (fun a' w' hw' => round_any hd hQ fuel _ a' w' hw') (h.2 i hi)⟩
theorem round_region {id : Nat} {Q : Exit → Act → World → Prop} {a : Act} {w : World} {l : List Oper} (hd : ∀ o ∈ l, noDefer o) (hm : P.follows .mixedOrders = true) (hB : Region.lexB .any l.toArray = true)
    (h : wpQuietIn F n P l.toArray (fun w' => ∃ n, w' = w.drewN n) (fun a' => ∀ w', (∃ n, w' = w.drewN n) → Q .normal a' w') l a) : (Code.region id l.toArray true).wpIn F n P Q a w := by
  simp only [Region.lexB, Bool.and_eq_true] at hB
  refine wpIn_region_any hm (round_any (Q := fun a' => ∀ w', (∃ n, w' = w.drewN n) → Q .normal a' w') (C := fun w' => ∃ n, w' = w.drewN n) (fun o ho => hd o (by simpa using ho)) (fun _ w' hw' h => h w' hw') _ _ _ _ ⟨1, rfl⟩ ?_)
  have := wpAnyQIn_lex (F := F) (n := n) (C := fun w' => ∃ n, w' = w.drewN n) (md := .any) hB.1 l 0 (Array.replicate l.length false) a (by simp) (by simpa using hB.2) h
  simpa using this
end
theorem CallsIn.quiet_round {P : Program} {l m : Nat} {f : FuncId} {args : Array Value} {w : World} {n : Nat} {v : Value}
    (h : Calls P f args (w.drewN n) fun e w' => e = .returned v ∧ w' = w.drewN n) : CallsIn (Fence.wide.inRound l) m P f args (w.drewN n) fun e w'' => e = .returned v ∧ ∃ k, w'' = w.drewN k :=
  CallsIn.inRound l (callsIn_wide.2 (h.mono fun _ _ ⟨he, hm⟩ => ⟨he, n, hm⟩))
theorem wide_fn (l : Nat) (f : FuncId) : (Fence.wide.inRound l).fn f = True := by simp [Fence.inRound, Fence.wide]
theorem wide_fn' (f : FuncId) : Fence.wide.fn f = True := by simp [Fence.wide]
theorem wide_depth : Fence.wide.depth = none := rfl
end Go.Proofs.YtfojjecnmfkcfaaGreat
