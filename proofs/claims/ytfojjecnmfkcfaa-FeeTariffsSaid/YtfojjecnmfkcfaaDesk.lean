/- total, can, greater and its order, on a desk with at most six houses that are right. -/
import Derived.Test.YtfojjecnmfkcfaaCheck
import Derived.Laws.EntriesVeiled
namespace Go.Proofs.Ytfojjecnmfkcfaa
open Go.RowKit
set_option linter.unusedVariables false
def valueSum (hs : List (Int × Int × Int)) : Int := (hs.map (·.1)).sum
theorem map_take_sum (hs : List (Int × Int × Int)) (k : Nat) (h : k < hs.length) : ((hs.map (·.1)).take (k + 1)).sum = ((hs.map (·.1)).take k).sum + hs[k].1 := by
  rw [take_sum _ _ (by simpa using h)]; simp
def housesOk (hs : List (Int × Int × Int)) : Prop := hs.length ≤ 6 ∧ ∀ x ∈ hs, 0 ≤ x.1 ∧ x.1 ≤ 1000 ∧ 0 ≤ x.2.1 ∧ x.2.1 ≤ x.2.2 ∧ x.2.2 ≤ 500
theorem valueSum_bd (hs : List (Int × Int × Int)) (ho : housesOk hs) (k : Nat) : 0 ≤ ((hs.map (·.1)).take k).sum ∧ ((hs.map (·.1)).take k).sum ≤ 6000 := by
  rw [← List.map_take]
  have key : ∀ l : List (Int × Int × Int), (∀ x ∈ l, 0 ≤ x.1 ∧ x.1 ≤ 1000) → 0 ≤ (l.map (·.1)).sum ∧ (l.map (·.1)).sum ≤ 1000 * l.length := by
    intro l
    induction l with
    | nil => intro _; simp
    | cons a l ih =>
      intro h
      have h1 := ih (fun x hx => h x (List.mem_cons_of_mem _ hx))
      have h2 := h a List.mem_cons_self
      simp only [List.map_cons, List.sum_cons, List.length_cons]
      omega
  have h := key (hs.take k) (fun x hx => by have := ho.2 x (List.mem_of_mem_take hx); omega)
  have hl : (hs.take k).length ≤ 6 := by rw [List.length_take]; have := ho.1; omega
  omega
set_option maxHeartbeats 400000 in
theorem total_any (g : Nat) (p : Int) (A : Option Addr) (c : Nat) (hs : List (Int × Int × Int)) (ps : List Int) (w : World) (hd : Desk w g p A hs.length c ps) (hr : Rd w w.heap.size A (trips hs)) (ho : housesOk hs) :
    Calls Try.prog 116 #[.pointer (some ⟨g, 0, none⟩)] w fun e w' => e = .returned (.int .i64 (valueSum hs)) ∧ Below w.heap.size w w' := by
  have hp := hd.pence
  have hh := hd.houses
  have hl := ho.1
  go_enter Try.func116, Try.ntmps116
  go_wp2_with fail
  go_loopw [3, 5, 12] (fun o _ i wr => ∃ k : Nat, k ≤ hs.length ∧ i = .int .i64 k ∧ o = .int .i64 ((hs.map (·.1)).take k).sum ∧ Below w.heap.size w wr) (fun _ _ i _ => hs.length - (intOf i).toNat)
  case atStart => exact ⟨0, by omega, rfl, by simp, Below.refl _ _⟩
  case round =>
    obtain ⟨k, hk, rfl, rfl, hbw⟩ := hrel
    obtain ⟨v1, v2⟩ := valueSum_bd hs ho k
    by_cases hlt : k < hs.length
    · obtain ⟨b, off, rfl, hbb, hc1, hc2, hc3⟩ := (hr.below hbw).trip hlt
      obtain ⟨u1, u2, _, _, _⟩ := ho.2 hs[k] (List.getElem_mem _)
      have HS := Lib.hid (map_take_sum hs k hlt)
      have hbb' : b < wr.heap.size := Nat.lt_of_lt_of_le hbb hbw.size
      go_wp2_with fail
      refine (sum2_any (by simp) _ _ (by omega) (by omega) (by omega) (by omega)).mono ?_
      rintro e w1 ⟨rfl, rfl⟩
      go_wp2_with fail
      go_roundw
      case rel => exact ⟨k + 1, by omega, by go_num, by rw [HS.out], (hbw.alloc hbw.size _).alloc (by simp; have := hbw.size; omega) _⟩
      case measure => simp [intOf]; omega
    · have hf : valueSum hs = ((hs.map (·.1)).take k).sum := by unfold valueSum; rw [List.take_of_length_le (by simp; omega)]
      have HF := Lib.hid hf
      clear hf
      go_wp2_with fail
      go_ret
      exact ⟨ret_int HF.out.symm, hbw⟩
/-- The pays of a desk as the array 'd.pays' has them. -/
theorem Desk.at_ {w : World} {g : Nat} {p : Int} {A : Option Addr} {n c : Nat} {ps : List Int} (h : Desk w g p A n c ps) {i : Nat} (hi : i < 6) : w.cell? ⟨g, 2 + i, none⟩ = some (.int .i64 (ps[i]'(by rw [h.len]; exact hi))) :=
  h.pays i _ (List.getElem?_eq_getElem (by rw [h.len]; exact hi))
theorem can_at (g : Nat) (p : Int) (A : Option Addr) (c : Nat) (hs : List (Int × Int × Int)) (ps : List Int) (w : World) (hd : Desk w g p A hs.length c ps) (hr : Rd w w.heap.size A (trips hs)) (hl : hs.length ≤ 6) (i : Nat) (hi : i < hs.length) (r : Bool)
    (hres : decide (ps[i]'(by rw [hd.len]; omega) < hs[i].2.2) = r) :
    Calls Try.prog 106 #[.pointer (some ⟨g, 0, none⟩), .int .i64 i] w fun e w' => e = .returned (.bool r) ∧ ∃ n, w' = w.drewN n := by
  have hp := hd.pence
  have hh := hd.houses
  have hq := hd.at_ (i := i) (by omega)
  obtain ⟨b, off, rfl, hbb, hc1, hc2, hc3⟩ := hr.trip hi
  have hi6 : (i : Int) < 6 := by omega
  have hi2 : (i : Int) < hs.length := by omega
  have hi0 : (0 : Int) ≤ (i : Int) := by omega
  have HR := Lib.hid hres
  clear hres
  go_enter Try.func106, Try.ntmps106
  go_wp2_with fail
  go_quiet (fail)
  go_wp2_with fail
  go_ret
  exact ⟨ret_bool HR.out, _, rfl⟩
def greaterV : Value := .func (.func 142) #[] #[]
theorem greater_any (w : World) : Calls Try.prog 105 #[] w fun e w' => e = .returned (.agg #[greaterV]) ∧ Below w.heap.size w w' := by
  unfold greaterV
  go_enter Try.func105, Try.ntmps105
  go_wp2_with fail
  exact bodyPost_ret (v := .agg #[.func (.func 142) #[] #[]]) (by simp [results, Try.results105, go_sem]) rfl ⟨rfl, by go_grown⟩
theorem first_any (a b c d : Int) (w : World) (h1 : -1000000 ≤ a * d) (h2 : a * d ≤ 1000000) (h3 : -1000000 ≤ c * b) (h4 : c * b ≤ 1000000) :
    Calls Try.prog 142 #[.int .i64 a, .int .i64 b, .int .i64 c, .int .i64 d] w fun e w' => e = .returned (.bool (decide (c * b < a * d))) ∧ w' = w := by
  go_enter Try.func142, Try.ntmps142
  go_wp2_with fail
  go_ret
  exact ⟨rfl, rfl⟩
end Go.Proofs.Ytfojjecnmfkcfaa
