/- Two lists compared (Alike of steps, houses, ratios, pairs, entries, numbers): true just where they are equal, at every two slices of at most 100000 elements. every, of houses, entries, numbers: whether something is so of each element, at every slice of at most 1000 elements. -/
import Derived.Test.YtfojjecnmfkcfaaGreatP1
import Derived.Test.YtfojjecnmfkcfaaGreatProg
import Derived.Laws.StructEq
import Derived.Deep.QuietTactic
import Derived.BigQuiet
namespace Go.Proofs.YtfojjecnmfkcfaaGreat
open Go.RowKit
set_option linter.unusedVariables false
theorem take_step {α : Type} (a b : List α) (k : Nat) (h1 : k < a.length) (h2 : k < b.length) (he : a.take k = b.take k) (hk : a[k] = b[k]) : a.take (k + 1) = b.take (k + 1) := by
  rw [List.take_succ_eq_append_getElem h1, List.take_succ_eq_append_getElem h2, he, hk]
theorem ne_of_get {α : Type} (a b : List α) (k : Nat) (h1 : k < a.length) (h2 : k < b.length) (hk : ¬ a[k] = b[k]) : ¬ a = b := by
  intro h; subst h; exact hk rfl
theorem guardStep : Tryz.prog.eqGuardType Tryz.prog.depth 35 = false := by kernel_rfl
theorem neqStep (w : World) (x0 x1 y0 y1 : Int) (r : Bool) (h : r = !(decide (x0 = y0) && decide (x1 = y1))) : (binOp .neq 35 (.agg #[.int .i64 x0, .int .i64 x1]) (.agg #[.int .i64 y0, .int .i64 y1])).run Tryz.prog w = .ok (.bool r) w := by
  have u3 := Tryz.underlying3
  have a3 := Tryz.isAgg3
  have z3 := Tryz.sizeOf3
  have hS : Tryz.prog.underlying 35 = some (.struct (Tryz.prog.fieldsOf 35)) := by kernel_rfl
  have hp : Tryz.prog.stoodInHeld 35 = false := by kernel_rfl
  rw [run_neq_struct, show (10000 : Nat) = 9999 + 1 from rfl, run_equalIn_agg w 9999 35 _ _ hS hp]
  simp only [Program.fieldsOf, Tryz.underlying35]
  go_simp
  subst h
  by_cases h0 : x0 = y0 <;> by_cases h1 : x1 = y1 <;> simp [h0, h1]
set_option maxHeartbeats 400000 in
theorem alikeStep_any (A B : Option Addr) (c d : Nat) (a b : List (Int × Int)) (w : World) (hr : Rd w w.heap.size A (pairs a)) (hs : Rd w w.heap.size B (pairs b)) (hl : a.length ≤ 100000) :
    Calls Tryz.prog 54 #[.slice A a.length c, .slice B b.length d] w fun e w' => e = .returned (.bool (decide (a = b))) ∧ Below w.heap.size w w' := by
  by_cases hlen : a.length = b.length
  · have hz : ((a.length : Int) != (b.length : Int)) = false := by rw [bne_eq_false_iff_eq]; omega
    have Hlen := Lib.hid hlen
    have hl2 : b.length ≤ a.length := by omega
    have hl3 : a.length ≤ b.length := by omega
    clear hlen
    go_enter Tryz.func54, Tryz.ntmps54
    go_wp2_with fail
    go_loopw [5, 6, 14] (fun _ _ i wr => ∃ k : Nat, k ≤ a.length ∧ i = .int .i64 k ∧ a.take k = b.take k ∧ Below w.heap.size w wr) (fun _ _ i _ => a.length - (intOf i).toNat)
    case atStart => exact ⟨0, by omega, rfl, by simp, Below.refl _ _⟩
    case round =>
      obtain ⟨k, hk, rfl, heq, hbw⟩ := hrel
      have Heq := Lib.hid heq
      clear heq
      by_cases hlt : k < a.length
      · have hlt2 : k < b.length := by omega
        obtain ⟨b1, o1, rfl, hb1, hc0, hc1⟩ := (hr.below hbw).pair hlt
        obtain ⟨b2, o2, rfl, hb2, hd0, hd1⟩ := (hs.below hbw).pair hlt2
        have hk0 : (k : Int) < b.length := by omega
        have hb1' : b1 < wr.heap.size := Nat.lt_of_lt_of_le hb1 hbw.size
        have hb2' : b2 < wr.heap.size := Nat.lt_of_lt_of_le hb2 hbw.size
        by_cases he : a[k] = b[k]
        · have hq := fun w => neqStep w a[k].1 a[k].2 b[k].1 b[k].2 false (by rw [he]; simp)
          have hg := guardStep
          have HT := Lib.hid (take_step a b k hlt hlt2 Heq.out he)
          clear he
          go_wp2_with fail
          go_quiet (fail)
          go_wp2_with fail
          go_roundw
          case rel => exact ⟨k + 1, by omega, by go_num, HT.out, below_drewN (hbw.alloc hbw.size _) _⟩
          case measure => simp [intOf]; omega
        · have hq := fun w => neqStep w a[k].1 a[k].2 b[k].1 b[k].2 true (by
            have h' : ¬ (a[k].1 = b[k].1 ∧ a[k].2 = b[k].2) := fun h => he (Prod.ext h.1 h.2)
            simp only [← Bool.decide_and]
            rw [decide_eq_false h']; rfl)
          have hg := guardStep
          have HT := Lib.hid (ne_of_get a b k hlt hlt2 he)
          clear he
          go_wp2_with fail
          go_quiet (fail)
          go_wp2_with fail
          go_ret
          exact ⟨ret_bool (decide_eq_false HT.out).symm, below_drewN (hbw.alloc hbw.size _) _⟩
      · have HT : a = b := by
          have h := Heq.out
          rwa [List.take_of_length_le (by omega), List.take_of_length_le (by omega)] at h
        have HT := Lib.hid HT
        go_wp2_with fail
        go_ret
        exact ⟨ret_bool (decide_eq_true HT.out).symm, hbw⟩
  · have hz : ((a.length : Int) != (b.length : Int)) = true := by rw [bne_iff_ne]; omega
    have HT : ¬ a = b := fun h => hlen (by rw [h])
    have HT := Lib.hid HT
    clear hlen
    go_enter Tryz.func54, Tryz.ntmps54
    go_wp2_with fail
    go_ret
    exact ⟨ret_bool (decide_eq_false HT.out).symm, Below.refl _ _⟩
theorem guardHouse : Tryz.prog.eqGuardType Tryz.prog.depth 37 = false := by kernel_rfl
theorem neqHouse (w : World) (x0 x1 x2 y0 y1 y2 : Int) (r : Bool) (h : r = !(decide (x0 = y0) && decide (x1 = y1) && decide (x2 = y2))) : (binOp .neq 37 (.agg #[.int .i64 x0, .int .i64 x1, .int .i64 x2]) (.agg #[.int .i64 y0, .int .i64 y1, .int .i64 y2])).run Tryz.prog w = .ok (.bool r) w := by
  have u3 := Tryz.underlying3
  have a3 := Tryz.isAgg3
  have z3 := Tryz.sizeOf3
  have hS : Tryz.prog.underlying 37 = some (.struct (Tryz.prog.fieldsOf 37)) := by kernel_rfl
  have hp : Tryz.prog.stoodInHeld 37 = false := by kernel_rfl
  rw [run_neq_struct, show (10000 : Nat) = 9999 + 1 from rfl, run_equalIn_agg w 9999 37 _ _ hS hp]
  simp only [Program.fieldsOf, Tryz.underlying37]
  go_simp
  subst h
  by_cases h0 : x0 = y0 <;> by_cases h1 : x1 = y1 <;> by_cases h2 : x2 = y2 <;> simp [h0, h1, h2]
set_option maxHeartbeats 400000 in
theorem alikeHouse_any (A B : Option Addr) (c d : Nat) (a b : List (Int × Int × Int)) (w : World) (hr : Rd w w.heap.size A (trips a)) (hs : Rd w w.heap.size B (trips b)) (hl : a.length ≤ 100000) :
    Calls Tryz.prog 84 #[.slice A a.length c, .slice B b.length d] w fun e w' => e = .returned (.bool (decide (a = b))) ∧ Below w.heap.size w w' := by
  by_cases hlen : a.length = b.length
  · have hz : ((a.length : Int) != (b.length : Int)) = false := by rw [bne_eq_false_iff_eq]; omega
    have Hlen := Lib.hid hlen
    have hl2 : b.length ≤ a.length := by omega
    have hl3 : a.length ≤ b.length := by omega
    clear hlen
    go_enter Tryz.func84, Tryz.ntmps84
    go_wp2_with fail
    go_loopw [5, 6, 14] (fun _ _ i wr => ∃ k : Nat, k ≤ a.length ∧ i = .int .i64 k ∧ a.take k = b.take k ∧ Below w.heap.size w wr) (fun _ _ i _ => a.length - (intOf i).toNat)
    case atStart => exact ⟨0, by omega, rfl, by simp, Below.refl _ _⟩
    case round =>
      obtain ⟨k, hk, rfl, heq, hbw⟩ := hrel
      have Heq := Lib.hid heq
      clear heq
      by_cases hlt : k < a.length
      · have hlt2 : k < b.length := by omega
        obtain ⟨b1, o1, rfl, hb1, hc0, hc1, hc2⟩ := (hr.below hbw).trip hlt
        obtain ⟨b2, o2, rfl, hb2, hd0, hd1, hd2⟩ := (hs.below hbw).trip hlt2
        have hk0 : (k : Int) < b.length := by omega
        have hb1' : b1 < wr.heap.size := Nat.lt_of_lt_of_le hb1 hbw.size
        have hb2' : b2 < wr.heap.size := Nat.lt_of_lt_of_le hb2 hbw.size
        by_cases he : a[k] = b[k]
        · have hq := fun w => neqHouse w a[k].1 a[k].2.1 a[k].2.2 b[k].1 b[k].2.1 b[k].2.2 false (by rw [he]; simp)
          have hg := guardHouse
          have HT := Lib.hid (take_step a b k hlt hlt2 Heq.out he)
          clear he
          go_wp2_with fail
          go_quiet (fail)
          go_wp2_with fail
          go_roundw
          case rel => exact ⟨k + 1, by omega, by go_num, HT.out, below_drewN (hbw.alloc hbw.size _) _⟩
          case measure => simp [intOf]; omega
        · have hq := fun w => neqHouse w a[k].1 a[k].2.1 a[k].2.2 b[k].1 b[k].2.1 b[k].2.2 true (by
            have h' : ¬ ((a[k].1 = b[k].1 ∧ a[k].2.1 = b[k].2.1) ∧ a[k].2.2 = b[k].2.2) := fun h => he (Prod.ext h.1.1 (Prod.ext h.1.2 h.2))
            simp only [← Bool.decide_and]
            rw [decide_eq_false h']; rfl)
          have hg := guardHouse
          have HT := Lib.hid (ne_of_get a b k hlt hlt2 he)
          clear he
          go_wp2_with fail
          go_quiet (fail)
          go_wp2_with fail
          go_ret
          exact ⟨ret_bool (decide_eq_false HT.out).symm, below_drewN (hbw.alloc hbw.size _) _⟩
      · have HT : a = b := by
          have h := Heq.out
          rwa [List.take_of_length_le (by omega), List.take_of_length_le (by omega)] at h
        have HT := Lib.hid HT
        go_wp2_with fail
        go_ret
        exact ⟨ret_bool (decide_eq_true HT.out).symm, hbw⟩
  · have hz : ((a.length : Int) != (b.length : Int)) = true := by rw [bne_iff_ne]; omega
    have HT : ¬ a = b := fun h => hlen (by rw [h])
    have HT := Lib.hid HT
    clear hlen
    go_enter Tryz.func84, Tryz.ntmps84
    go_wp2_with fail
    go_ret
    exact ⟨ret_bool (decide_eq_false HT.out).symm, Below.refl _ _⟩
theorem guardRatio : Tryz.prog.eqGuardType Tryz.prog.depth 65 = false := by kernel_rfl
theorem neqRatio (w : World) (x0 x1 y0 y1 : Int) (r : Bool) (h : r = !(decide (x0 = y0) && decide (x1 = y1))) : (binOp .neq 65 (.agg #[.int .i64 x0, .int .i64 x1]) (.agg #[.int .i64 y0, .int .i64 y1])).run Tryz.prog w = .ok (.bool r) w := by
  have u3 := Tryz.underlying3
  have a3 := Tryz.isAgg3
  have z3 := Tryz.sizeOf3
  have hS : Tryz.prog.underlying 65 = some (.struct (Tryz.prog.fieldsOf 65)) := by kernel_rfl
  have hp : Tryz.prog.stoodInHeld 65 = false := by kernel_rfl
  rw [run_neq_struct, show (10000 : Nat) = 9999 + 1 from rfl, run_equalIn_agg w 9999 65 _ _ hS hp]
  simp only [Program.fieldsOf, Tryz.underlying65]
  go_simp
  subst h
  by_cases h0 : x0 = y0 <;> by_cases h1 : x1 = y1 <;> simp [h0, h1]
set_option maxHeartbeats 400000 in
theorem alikeRatio_any (A B : Option Addr) (c d : Nat) (a b : List (Int × Int)) (w : World) (hr : Rd w w.heap.size A (pairs a)) (hs : Rd w w.heap.size B (pairs b)) (hl : a.length ≤ 100000) :
    Calls Tryz.prog 22 #[.slice A a.length c, .slice B b.length d] w fun e w' => e = .returned (.bool (decide (a = b))) ∧ Below w.heap.size w w' := by
  by_cases hlen : a.length = b.length
  · have hz : ((a.length : Int) != (b.length : Int)) = false := by rw [bne_eq_false_iff_eq]; omega
    have Hlen := Lib.hid hlen
    have hl2 : b.length ≤ a.length := by omega
    have hl3 : a.length ≤ b.length := by omega
    clear hlen
    go_enter Tryz.func22, Tryz.ntmps22
    go_wp2_with fail
    go_loopw [5, 6, 14] (fun _ _ i wr => ∃ k : Nat, k ≤ a.length ∧ i = .int .i64 k ∧ a.take k = b.take k ∧ Below w.heap.size w wr) (fun _ _ i _ => a.length - (intOf i).toNat)
    case atStart => exact ⟨0, by omega, rfl, by simp, Below.refl _ _⟩
    case round =>
      obtain ⟨k, hk, rfl, heq, hbw⟩ := hrel
      have Heq := Lib.hid heq
      clear heq
      by_cases hlt : k < a.length
      · have hlt2 : k < b.length := by omega
        obtain ⟨b1, o1, rfl, hb1, hc0, hc1⟩ := (hr.below hbw).pair hlt
        obtain ⟨b2, o2, rfl, hb2, hd0, hd1⟩ := (hs.below hbw).pair hlt2
        have hk0 : (k : Int) < b.length := by omega
        have hb1' : b1 < wr.heap.size := Nat.lt_of_lt_of_le hb1 hbw.size
        have hb2' : b2 < wr.heap.size := Nat.lt_of_lt_of_le hb2 hbw.size
        by_cases he : a[k] = b[k]
        · have hq := fun w => neqRatio w a[k].1 a[k].2 b[k].1 b[k].2 false (by rw [he]; simp)
          have hg := guardRatio
          have HT := Lib.hid (take_step a b k hlt hlt2 Heq.out he)
          clear he
          go_wp2_with fail
          go_quiet (fail)
          go_wp2_with fail
          go_roundw
          case rel => exact ⟨k + 1, by omega, by go_num, HT.out, below_drewN (hbw.alloc hbw.size _) _⟩
          case measure => simp [intOf]; omega
        · have hq := fun w => neqRatio w a[k].1 a[k].2 b[k].1 b[k].2 true (by
            have h' : ¬ (a[k].1 = b[k].1 ∧ a[k].2 = b[k].2) := fun h => he (Prod.ext h.1 h.2)
            simp only [← Bool.decide_and]
            rw [decide_eq_false h']; rfl)
          have hg := guardRatio
          have HT := Lib.hid (ne_of_get a b k hlt hlt2 he)
          clear he
          go_wp2_with fail
          go_quiet (fail)
          go_wp2_with fail
          go_ret
          exact ⟨ret_bool (decide_eq_false HT.out).symm, below_drewN (hbw.alloc hbw.size _) _⟩
      · have HT : a = b := by
          have h := Heq.out
          rwa [List.take_of_length_le (by omega), List.take_of_length_le (by omega)] at h
        have HT := Lib.hid HT
        go_wp2_with fail
        go_ret
        exact ⟨ret_bool (decide_eq_true HT.out).symm, hbw⟩
  · have hz : ((a.length : Int) != (b.length : Int)) = true := by rw [bne_iff_ne]; omega
    have HT : ¬ a = b := fun h => hlen (by rw [h])
    have HT := Lib.hid HT
    clear hlen
    go_enter Tryz.func22, Tryz.ntmps22
    go_wp2_with fail
    go_ret
    exact ⟨ret_bool (decide_eq_false HT.out).symm, Below.refl _ _⟩
theorem guardPair : Tryz.prog.eqGuardType Tryz.prog.depth 77 = false := by kernel_rfl
theorem neqPair (w : World) (x0 x1 y0 y1 : Int) (r : Bool) (h : r = !(decide (x0 = y0) && decide (x1 = y1))) : (binOp .neq 77 (.agg #[.int .i64 x0, .int .i64 x1]) (.agg #[.int .i64 y0, .int .i64 y1])).run Tryz.prog w = .ok (.bool r) w := by
  have u3 := Tryz.underlying3
  have a3 := Tryz.isAgg3
  have z3 := Tryz.sizeOf3
  have hS : Tryz.prog.underlying 77 = some (.struct (Tryz.prog.fieldsOf 77)) := by kernel_rfl
  have hp : Tryz.prog.stoodInHeld 77 = false := by kernel_rfl
  rw [run_neq_struct, show (10000 : Nat) = 9999 + 1 from rfl, run_equalIn_agg w 9999 77 _ _ hS hp]
  simp only [Program.fieldsOf, Tryz.underlying77]
  go_simp
  subst h
  by_cases h0 : x0 = y0 <;> by_cases h1 : x1 = y1 <;> simp [h0, h1]
set_option maxHeartbeats 400000 in
theorem alikePair_any (A B : Option Addr) (c d : Nat) (a b : List (Int × Int)) (w : World) (hr : Rd w w.heap.size A (pairs a)) (hs : Rd w w.heap.size B (pairs b)) (hl : a.length ≤ 100000) :
    Calls Tryz.prog 73 #[.slice A a.length c, .slice B b.length d] w fun e w' => e = .returned (.bool (decide (a = b))) ∧ Below w.heap.size w w' := by
  by_cases hlen : a.length = b.length
  · have hz : ((a.length : Int) != (b.length : Int)) = false := by rw [bne_eq_false_iff_eq]; omega
    have Hlen := Lib.hid hlen
    have hl2 : b.length ≤ a.length := by omega
    have hl3 : a.length ≤ b.length := by omega
    clear hlen
    go_enter Tryz.func73, Tryz.ntmps73
    go_wp2_with fail
    go_loopw [5, 6, 14] (fun _ _ i wr => ∃ k : Nat, k ≤ a.length ∧ i = .int .i64 k ∧ a.take k = b.take k ∧ Below w.heap.size w wr) (fun _ _ i _ => a.length - (intOf i).toNat)
    case atStart => exact ⟨0, by omega, rfl, by simp, Below.refl _ _⟩
    case round =>
      obtain ⟨k, hk, rfl, heq, hbw⟩ := hrel
      have Heq := Lib.hid heq
      clear heq
      by_cases hlt : k < a.length
      · have hlt2 : k < b.length := by omega
        obtain ⟨b1, o1, rfl, hb1, hc0, hc1⟩ := (hr.below hbw).pair hlt
        obtain ⟨b2, o2, rfl, hb2, hd0, hd1⟩ := (hs.below hbw).pair hlt2
        have hk0 : (k : Int) < b.length := by omega
        have hb1' : b1 < wr.heap.size := Nat.lt_of_lt_of_le hb1 hbw.size
        have hb2' : b2 < wr.heap.size := Nat.lt_of_lt_of_le hb2 hbw.size
        by_cases he : a[k] = b[k]
        · have hq := fun w => neqPair w a[k].1 a[k].2 b[k].1 b[k].2 false (by rw [he]; simp)
          have hg := guardPair
          have HT := Lib.hid (take_step a b k hlt hlt2 Heq.out he)
          clear he
          go_wp2_with fail
          go_quiet (fail)
          go_wp2_with fail
          go_roundw
          case rel => exact ⟨k + 1, by omega, by go_num, HT.out, below_drewN (hbw.alloc hbw.size _) _⟩
          case measure => simp [intOf]; omega
        · have hq := fun w => neqPair w a[k].1 a[k].2 b[k].1 b[k].2 true (by
            have h' : ¬ (a[k].1 = b[k].1 ∧ a[k].2 = b[k].2) := fun h => he (Prod.ext h.1 h.2)
            simp only [← Bool.decide_and]
            rw [decide_eq_false h']; rfl)
          have hg := guardPair
          have HT := Lib.hid (ne_of_get a b k hlt hlt2 he)
          clear he
          go_wp2_with fail
          go_quiet (fail)
          go_wp2_with fail
          go_ret
          exact ⟨ret_bool (decide_eq_false HT.out).symm, below_drewN (hbw.alloc hbw.size _) _⟩
      · have HT : a = b := by
          have h := Heq.out
          rwa [List.take_of_length_le (by omega), List.take_of_length_le (by omega)] at h
        have HT := Lib.hid HT
        go_wp2_with fail
        go_ret
        exact ⟨ret_bool (decide_eq_true HT.out).symm, hbw⟩
  · have hz : ((a.length : Int) != (b.length : Int)) = true := by rw [bne_iff_ne]; omega
    have HT : ¬ a = b := fun h => hlen (by rw [h])
    have HT := Lib.hid HT
    clear hlen
    go_enter Tryz.func73, Tryz.ntmps73
    go_wp2_with fail
    go_ret
    exact ⟨ret_bool (decide_eq_false HT.out).symm, Below.refl _ _⟩
theorem guardEntry : Tryz.prog.eqGuardType Tryz.prog.depth 39 = false := by kernel_rfl
theorem neqEntry (w : World) (x0 x1 y0 y1 : Int) (r : Bool) (h : r = !(decide (x0 = y0) && decide (x1 = y1))) : (binOp .neq 39 (.agg #[.int .i64 x0, .int .i64 x1]) (.agg #[.int .i64 y0, .int .i64 y1])).run Tryz.prog w = .ok (.bool r) w := by
  have u3 := Tryz.underlying3
  have a3 := Tryz.isAgg3
  have z3 := Tryz.sizeOf3
  have hS : Tryz.prog.underlying 39 = some (.struct (Tryz.prog.fieldsOf 39)) := by kernel_rfl
  have hp : Tryz.prog.stoodInHeld 39 = false := by kernel_rfl
  rw [run_neq_struct, show (10000 : Nat) = 9999 + 1 from rfl, run_equalIn_agg w 9999 39 _ _ hS hp]
  simp only [Program.fieldsOf, Tryz.underlying39]
  go_simp
  subst h
  by_cases h0 : x0 = y0 <;> by_cases h1 : x1 = y1 <;> simp [h0, h1]
set_option maxHeartbeats 400000 in
theorem alikeEntry_any (A B : Option Addr) (c d : Nat) (a b : List (Int × Int)) (w : World) (hr : Rd w w.heap.size A (pairs a)) (hs : Rd w w.heap.size B (pairs b)) (hl : a.length ≤ 100000) :
    Calls Tryz.prog 101 #[.slice A a.length c, .slice B b.length d] w fun e w' => e = .returned (.bool (decide (a = b))) ∧ Below w.heap.size w w' := by
  by_cases hlen : a.length = b.length
  · have hz : ((a.length : Int) != (b.length : Int)) = false := by rw [bne_eq_false_iff_eq]; omega
    have Hlen := Lib.hid hlen
    have hl2 : b.length ≤ a.length := by omega
    have hl3 : a.length ≤ b.length := by omega
    clear hlen
    go_enter Tryz.func101, Tryz.ntmps101
    go_wp2_with fail
    go_loopw [5, 6, 14] (fun _ _ i wr => ∃ k : Nat, k ≤ a.length ∧ i = .int .i64 k ∧ a.take k = b.take k ∧ Below w.heap.size w wr) (fun _ _ i _ => a.length - (intOf i).toNat)
    case atStart => exact ⟨0, by omega, rfl, by simp, Below.refl _ _⟩
    case round =>
      obtain ⟨k, hk, rfl, heq, hbw⟩ := hrel
      have Heq := Lib.hid heq
      clear heq
      by_cases hlt : k < a.length
      · have hlt2 : k < b.length := by omega
        obtain ⟨b1, o1, rfl, hb1, hc0, hc1⟩ := (hr.below hbw).pair hlt
        obtain ⟨b2, o2, rfl, hb2, hd0, hd1⟩ := (hs.below hbw).pair hlt2
        have hk0 : (k : Int) < b.length := by omega
        have hb1' : b1 < wr.heap.size := Nat.lt_of_lt_of_le hb1 hbw.size
        have hb2' : b2 < wr.heap.size := Nat.lt_of_lt_of_le hb2 hbw.size
        by_cases he : a[k] = b[k]
        · have hq := fun w => neqEntry w a[k].1 a[k].2 b[k].1 b[k].2 false (by rw [he]; simp)
          have hg := guardEntry
          have HT := Lib.hid (take_step a b k hlt hlt2 Heq.out he)
          clear he
          go_wp2_with fail
          go_quiet (fail)
          go_wp2_with fail
          go_roundw
          case rel => exact ⟨k + 1, by omega, by go_num, HT.out, below_drewN (hbw.alloc hbw.size _) _⟩
          case measure => simp [intOf]; omega
        · have hq := fun w => neqEntry w a[k].1 a[k].2 b[k].1 b[k].2 true (by
            have h' : ¬ (a[k].1 = b[k].1 ∧ a[k].2 = b[k].2) := fun h => he (Prod.ext h.1 h.2)
            simp only [← Bool.decide_and]
            rw [decide_eq_false h']; rfl)
          have hg := guardEntry
          have HT := Lib.hid (ne_of_get a b k hlt hlt2 he)
          clear he
          go_wp2_with fail
          go_quiet (fail)
          go_wp2_with fail
          go_ret
          exact ⟨ret_bool (decide_eq_false HT.out).symm, below_drewN (hbw.alloc hbw.size _) _⟩
      · have HT : a = b := by
          have h := Heq.out
          rwa [List.take_of_length_le (by omega), List.take_of_length_le (by omega)] at h
        have HT := Lib.hid HT
        go_wp2_with fail
        go_ret
        exact ⟨ret_bool (decide_eq_true HT.out).symm, hbw⟩
  · have hz : ((a.length : Int) != (b.length : Int)) = true := by rw [bne_iff_ne]; omega
    have HT : ¬ a = b := fun h => hlen (by rw [h])
    have HT := Lib.hid HT
    clear hlen
    go_enter Tryz.func101, Tryz.ntmps101
    go_wp2_with fail
    go_ret
    exact ⟨ret_bool (decide_eq_false HT.out).symm, Below.refl _ _⟩
set_option maxHeartbeats 400000 in
theorem alikeInt_any (A B : Option Addr) (c d : Nat) (a b : List (Int)) (w : World) (hr : Rd w w.heap.size A (ints a)) (hs : Rd w w.heap.size B (ints b)) (hl : a.length ≤ 100000) :
    Calls Tryz.prog 25 #[.slice A a.length c, .slice B b.length d] w fun e w' => e = .returned (.bool (decide (a = b))) ∧ Below w.heap.size w w' := by
  by_cases hlen : a.length = b.length
  · have hz : ((a.length : Int) != (b.length : Int)) = false := by rw [bne_eq_false_iff_eq]; omega
    have Hlen := Lib.hid hlen
    have hl2 : b.length ≤ a.length := by omega
    have hl3 : a.length ≤ b.length := by omega
    clear hlen
    go_enter Tryz.func25, Tryz.ntmps25
    go_wp2_with fail
    go_loopw [5, 6, 14] (fun _ _ i wr => ∃ k : Nat, k ≤ a.length ∧ i = .int .i64 k ∧ a.take k = b.take k ∧ Below w.heap.size w wr) (fun _ _ i _ => a.length - (intOf i).toNat)
    case atStart => exact ⟨0, by omega, rfl, by simp, Below.refl _ _⟩
    case round =>
      obtain ⟨k, hk, rfl, heq, hbw⟩ := hrel
      have Heq := Lib.hid heq
      clear heq
      by_cases hlt : k < a.length
      · have hlt2 : k < b.length := by omega
        obtain ⟨b1, o1, rfl, hb1, hc0⟩ := (hr.below hbw).int hlt
        obtain ⟨b2, o2, rfl, hb2, hd0⟩ := (hs.below hbw).int hlt2
        have hk0 : (k : Int) < b.length := by omega
        have hb1' : b1 < wr.heap.size := Nat.lt_of_lt_of_le hb1 hbw.size
        have hb2' : b2 < wr.heap.size := Nat.lt_of_lt_of_le hb2 hbw.size
        by_cases he : a[k] = b[k]
        · have hq : (a[k] != b[k]) = false := by rw [he]; simp
          have HT := Lib.hid (take_step a b k hlt hlt2 Heq.out he)
          clear he
          go_wp2_with fail
          go_roundw
          case rel => exact ⟨k + 1, by omega, by go_num, HT.out, hbw⟩
          case measure => simp [intOf]; omega
        · have hq : (a[k] != b[k]) = true := by simpa using he
          have HT := Lib.hid (ne_of_get a b k hlt hlt2 he)
          clear he
          go_wp2_with fail
          go_ret
          exact ⟨ret_bool (decide_eq_false HT.out).symm, hbw⟩
      · have HT : a = b := by
          have h := Heq.out
          rwa [List.take_of_length_le (by omega), List.take_of_length_le (by omega)] at h
        have HT := Lib.hid HT
        go_wp2_with fail
        go_ret
        exact ⟨ret_bool (decide_eq_true HT.out).symm, hbw⟩
  · have hz : ((a.length : Int) != (b.length : Int)) = true := by rw [bne_iff_ne]; omega
    have HT : ¬ a = b := fun h => hlen (by rw [h])
    have HT := Lib.hid HT
    clear hlen
    go_enter Tryz.func25, Tryz.ntmps25
    go_wp2_with fail
    go_ret
    exact ⟨ret_bool (decide_eq_false HT.out).symm, Below.refl _ _⟩
end Go.Proofs.YtfojjecnmfkcfaaGreat
namespace Go.Proofs.YtfojjecnmfkcfaaGreat
open Go.RowKit
set_option linter.unusedVariables false
def houseOk (v l m : Int) : Bool := inB v 0 1000 && (inB l 0 m && decide (m ≤ 500))
def houseOkP (h : Int × Int × Int) : Bool := !houseOk h.1 h.2.1 h.2.2
set_option maxHeartbeats 400000 in
theorem predHouse_any (v l m : Int) (w : World) : Calls Tryz.prog 68 #[.agg #[.int .i64 v, .int .i64 l, .int .i64 m]] w fun e w' => e = .returned (.bool (houseOk v l m)) ∧ Below w.heap.size w w' := by
  by_cases h1 : inB v 0 1000 = true
  · by_cases h2 : inB l 0 m = true
    · by_cases h3 : m ≤ 500
      all_goals
        go_enter Tryz.func68, Tryz.ntmps68
        go_wp2_with fail
        refine (in_any _ _ _ _).mono ?_
        rintro e w1 ⟨rfl, rfl⟩
        go_wp2_with fail
        refine (in_any _ _ _ _).mono ?_
        rintro e w1 ⟨rfl, rfl⟩
        go_wp2_with fail
        go_ret
        exact ⟨ret_bool (by simp [houseOk, h1, h2, h3]), by go_grown⟩
    · go_enter Tryz.func68, Tryz.ntmps68
      go_wp2_with fail
      refine (in_any _ _ _ _).mono ?_
      rintro e w1 ⟨rfl, rfl⟩
      go_wp2_with fail
      refine (in_any _ _ _ _).mono ?_
      rintro e w1 ⟨rfl, rfl⟩
      go_wp2_with fail
      go_ret
      exact ⟨ret_bool (by simp [houseOk, h1, h2]), by go_grown⟩
  · go_enter Tryz.func68, Tryz.ntmps68
    go_wp2_with fail
    refine (in_any _ _ _ _).mono ?_
    rintro e w1 ⟨rfl, rfl⟩
    go_wp2_with fail
    go_ret
    exact ⟨ret_bool (by simp [houseOk, h1]), by go_grown⟩
def entryOk (d p : Int) : Bool := inB d 0 400 && inB p 1 10000
def entryOkP (s : Int × Int) : Bool := !entryOk s.1 s.2
theorem predEntry_any (d p : Int) (w : World) : Calls Tryz.prog 69 #[.agg #[.int .i64 d, .int .i64 p]] w fun e w' => e = .returned (.bool (entryOk d p)) ∧ Below w.heap.size w w' := by
  go_enter Tryz.func69, Tryz.ntmps69
  go_wp2_with (go_at_call 62; refine (in_any _ _ _ _).mono ?_; rintro e w' ⟨rfl, rfl⟩)
  all_goals
    go_ret
    exact ⟨ret_bool (by simp [entryOk, *]), by go_grown⟩
def shareOkP (n : Int) : Bool := !inB n 0 500
theorem predShare_any (n : Int) (w : World) : Calls Tryz.prog 118 #[.int .i64 n] w fun e w' => e = .returned (.bool (inB n 0 500)) ∧ Below w.heap.size w w' := by
  go_enter Tryz.func118, Tryz.ntmps118
  go_wp2_with (go_at_call 62; refine (in_any _ _ _ _).mono ?_; rintro e w' ⟨rfl, rfl⟩)
  go_ret
  exact ⟨rfl, Below.refl _ _⟩
def leftOkP (days n : Int) : Bool := !inB n 0 days
theorem predLeft_any (n days : Int) (q : Addr) (w : World) (hq : w.cell? q = some (.int .i64 days)) (hqb : q.block < w.heap.size) : Calls Tryz.prog 91 #[.int .i64 n, .pointer (some q)] w fun e w' => e = .returned (.bool (inB n 0 days)) ∧ Below w.heap.size w w' := by
  go_enter Tryz.func91, Tryz.ntmps91
  go_wp2_with (go_at_call 62; refine (in_any _ _ _ _).mono ?_; rintro e w' ⟨rfl, rfl⟩)
  go_ret
  exact ⟨rfl, Below.refl _ _⟩

def F_House : Value := .func (.func 68) #[] #[]
theorem everyHouse1_any (v l m : Int) (a : Addr) (w : World) (ha : w.cell? a = some (F_House)) (hb : a.block < w.heap.size) :
    Calls Tryz.prog 114 #[.agg #[.int .i64 v, .int .i64 l, .int .i64 m], .pointer (some a)] w fun e w' => e = .returned (.bool (!houseOk v l m)) ∧ Below w.heap.size w w' := by
  unfold F_House at ha
  go_enter Tryz.func114, Tryz.ntmps114
  go_wp2_with fail
  refine (predHouse_any _ _ _ _).mono ?_
  rintro e w1 ⟨rfl, hb1⟩
  go_wp2_with fail
  go_ret
  exact ⟨rfl, ((Below.refl _ _).alloc (Nat.le_refl _) _).trans (hb1.mono (by simp))⟩
def G_House (a : Addr) : Value := .func (.func 114) #[] #[.pointer (some a)]
set_option maxHeartbeats 400000 in
theorem indexHouse_any (A : Option Addr) (c : Nat) (t : List (Int × Int × Int)) (a : Addr) (w : World) (ha : w.cell? a = some (F_House)) (hb : a.block < w.heap.size) (hr : Rd w w.heap.size A (trips t)) (hl : t.length ≤ 1000) :
    Calls Tryz.prog 127 #[.slice A t.length c, G_House a] w (Found (t.any houseOkP) w) := by
  unfold G_House
  go_enter Tryz.func127, Tryz.ntmps127
  go_wp2_with fail
  go_loopw [5, 8] (fun _ i wr => ∃ k : Nat, k ≤ t.length ∧ i = .int .i64 k ∧ (t.take k).any houseOkP = false ∧ Below w.heap.size w wr) (fun _ i _ => t.length - (intOf i).toNat)
  case atStart => exact ⟨0, Nat.zero_le _, rfl, by simp, Below.refl _ _⟩
  case round =>
    obtain ⟨k, hk, rfl, hno, hbw⟩ := hrel
    by_cases hlt : k < t.length
    · obtain ⟨b, off, rfl, hbb, hc1, hc2, hc3⟩ := (hr.below hbw).trip hlt
      go_wp2_with fail
      refine (everyHouse1_any _ _ _ _ _ (by rw [hbw.cell hb]; exact ha) (Nat.lt_of_lt_of_le hb hbw.size)).mono ?_
      rintro e w1 ⟨rfl, hb1⟩
      have hbw1 := hbw.trans (hb1.mono hbw.size)
      have hs := any_take_succ houseOkP t k hlt
      by_cases hp : houseOk t[k].1 t[k].2.1 t[k].2.2 = true
      · have hs1 : (t.take (k + 1)).any houseOkP = false := by rw [hs, hno]; simp [houseOkP, hp]
        have hs2 := Lib.hid hs1
        clear hs hs1
        have hp2 : (!houseOk t[k].1 t[k].2.1 t[k].2.2) = false := by simp [hp]
        go_wp2_with fail
        go_roundw
        case rel => exact ⟨k + 1, by omega, by go_num, hs2.out, hbw1⟩
        case measure => simp [intOf]; omega
      · have hs1 : t.any houseOkP = true := List.any_eq_true.2 ⟨t[k], List.getElem_mem _, by simp [houseOkP, hp]⟩
        have hs2 := Lib.hid hs1
        clear hs hs1
        go_wp2_with fail
        go_ret
        exact ⟨k, rfl, by rw [hs2.out]; simp, hbw1⟩
    · have hs1 : t.any houseOkP = false := by rwa [List.take_of_length_le (by omega)] at hno
      have hs2 := Lib.hid hs1
      clear hno hs1
      go_wp2_with fail
      go_ret
      exact ⟨-1, rfl, by rw [hs2.out]; rfl, hbw⟩
theorem containsHouse_any (A : Option Addr) (c : Nat) (t : List (Int × Int × Int)) (a : Addr) (w : World) (ha : w.cell? a = some (F_House)) (hb : a.block < w.heap.size) (hr : Rd w w.heap.size A (trips t)) (hl : t.length ≤ 1000) :
    Calls Tryz.prog 113 #[.slice A t.length c, G_House a] w fun e w' => e = .returned (.bool (t.any houseOkP)) ∧ Below w.heap.size w w' := by
  have H := Lib.hid (indexHouse_any A c t a w ha hb hr hl)
  unfold G_House at H ⊢
  go_enter Tryz.func113, Tryz.ntmps113
  go_wp2_with fail
  refine H.out.mono ?_
  rintro e w1 ⟨i, rfl, hi, hb1⟩
  go_wp2_with fail
  go_ret
  exact ⟨rfl, hb1⟩
theorem everyHouse_any (A : Option Addr) (c : Nat) (t : List (Int × Int × Int)) (w : World) (hr : Rd w w.heap.size A (trips t)) (hl : t.length ≤ 1000) :
    Calls Tryz.prog 67 #[.slice A t.length c, F_House] w fun e w' => e = .returned (.bool (!t.any houseOkP)) ∧ Below w.heap.size w w' := by
  have H := Lib.hid (containsHouse_any A c t ⟨w.heap.size, 0, none⟩ (w.alloc (.cells #[F_House] 123)) (by simp) (by simp) (hr.alloc _) hl)
  unfold F_House at H ⊢
  unfold G_House at H
  go_enter Tryz.func67, Tryz.ntmps67
  go_wp2_with fail
  refine H.out.mono ?_
  rintro e w1 ⟨rfl, hb1⟩
  go_wp2_with fail
  go_ret
  exact ⟨rfl, ((Below.refl _ _).alloc (Nat.le_refl _) _).trans (hb1.mono (by simp))⟩

def F_Entry : Value := .func (.func 69) #[] #[]
theorem everyEntry1_any (d p : Int) (a : Addr) (w : World) (ha : w.cell? a = some (F_Entry)) (hb : a.block < w.heap.size) :
    Calls Tryz.prog 116 #[.agg #[.int .i64 d, .int .i64 p], .pointer (some a)] w fun e w' => e = .returned (.bool (!entryOk d p)) ∧ Below w.heap.size w w' := by
  unfold F_Entry at ha
  go_enter Tryz.func116, Tryz.ntmps116
  go_wp2_with fail
  refine (predEntry_any _ _ _).mono ?_
  rintro e w1 ⟨rfl, hb1⟩
  go_wp2_with fail
  go_ret
  exact ⟨rfl, ((Below.refl _ _).alloc (Nat.le_refl _) _).trans (hb1.mono (by simp))⟩
def G_Entry (a : Addr) : Value := .func (.func 116) #[] #[.pointer (some a)]
set_option maxHeartbeats 400000 in
theorem indexEntry_any (A : Option Addr) (c : Nat) (t : List (Int × Int)) (a : Addr) (w : World) (ha : w.cell? a = some (F_Entry)) (hb : a.block < w.heap.size) (hr : Rd w w.heap.size A (pairs t)) (hl : t.length ≤ 1000) :
    Calls Tryz.prog 128 #[.slice A t.length c, G_Entry a] w (Found (t.any entryOkP) w) := by
  unfold G_Entry
  go_enter Tryz.func128, Tryz.ntmps128
  go_wp2_with fail
  go_loopw [5, 8] (fun _ i wr => ∃ k : Nat, k ≤ t.length ∧ i = .int .i64 k ∧ (t.take k).any entryOkP = false ∧ Below w.heap.size w wr) (fun _ i _ => t.length - (intOf i).toNat)
  case atStart => exact ⟨0, Nat.zero_le _, rfl, by simp, Below.refl _ _⟩
  case round =>
    obtain ⟨k, hk, rfl, hno, hbw⟩ := hrel
    by_cases hlt : k < t.length
    · obtain ⟨b, off, rfl, hbb, hc1, hc2⟩ := (hr.below hbw).pair hlt
      go_wp2_with fail
      refine (everyEntry1_any _ _ _ _ (by rw [hbw.cell hb]; exact ha) (Nat.lt_of_lt_of_le hb hbw.size)).mono ?_
      rintro e w1 ⟨rfl, hb1⟩
      have hbw1 := hbw.trans (hb1.mono hbw.size)
      have hs := any_take_succ entryOkP t k hlt
      by_cases hp : entryOk t[k].1 t[k].2 = true
      · have hs1 : (t.take (k + 1)).any entryOkP = false := by rw [hs, hno]; simp [entryOkP, hp]
        have hs2 := Lib.hid hs1
        clear hs hs1
        have hp2 : (!entryOk t[k].1 t[k].2) = false := by simp [hp]
        go_wp2_with fail
        go_roundw
        case rel => exact ⟨k + 1, by omega, by go_num, hs2.out, hbw1⟩
        case measure => simp [intOf]; omega
      · have hs1 : t.any entryOkP = true := List.any_eq_true.2 ⟨t[k], List.getElem_mem _, by simp [entryOkP, hp]⟩
        have hs2 := Lib.hid hs1
        clear hs hs1
        go_wp2_with fail
        go_ret
        exact ⟨k, rfl, by rw [hs2.out]; simp, hbw1⟩
    · have hs1 : t.any entryOkP = false := by rwa [List.take_of_length_le (by omega)] at hno
      have hs2 := Lib.hid hs1
      clear hno hs1
      go_wp2_with fail
      go_ret
      exact ⟨-1, rfl, by rw [hs2.out]; rfl, hbw⟩
theorem containsEntry_any (A : Option Addr) (c : Nat) (t : List (Int × Int)) (a : Addr) (w : World) (ha : w.cell? a = some (F_Entry)) (hb : a.block < w.heap.size) (hr : Rd w w.heap.size A (pairs t)) (hl : t.length ≤ 1000) :
    Calls Tryz.prog 115 #[.slice A t.length c, G_Entry a] w fun e w' => e = .returned (.bool (t.any entryOkP)) ∧ Below w.heap.size w w' := by
  have H := Lib.hid (indexEntry_any A c t a w ha hb hr hl)
  unfold G_Entry at H ⊢
  go_enter Tryz.func115, Tryz.ntmps115
  go_wp2_with fail
  refine H.out.mono ?_
  rintro e w1 ⟨i, rfl, hi, hb1⟩
  go_wp2_with fail
  go_ret
  exact ⟨rfl, hb1⟩
theorem everyEntry_any (A : Option Addr) (c : Nat) (t : List (Int × Int)) (w : World) (hr : Rd w w.heap.size A (pairs t)) (hl : t.length ≤ 1000) :
    Calls Tryz.prog 70 #[.slice A t.length c, F_Entry] w fun e w' => e = .returned (.bool (!t.any entryOkP)) ∧ Below w.heap.size w w' := by
  have H := Lib.hid (containsEntry_any A c t ⟨w.heap.size, 0, none⟩ (w.alloc (.cells #[F_Entry] 124)) (by simp) (by simp) (hr.alloc _) hl)
  unfold F_Entry at H ⊢
  unfold G_Entry at H
  go_enter Tryz.func70, Tryz.ntmps70
  go_wp2_with fail
  refine H.out.mono ?_
  rintro e w1 ⟨rfl, hb1⟩
  go_wp2_with fail
  go_ret
  exact ⟨rfl, ((Below.refl _ _).alloc (Nat.le_refl _) _).trans (hb1.mono (by simp))⟩

def F_Share : Value := .func (.func 118) #[] #[]
theorem everyShare1_any (n : Int) (a : Addr) (w : World) (ha : w.cell? a = some (F_Share)) (hb : a.block < w.heap.size) :
    Calls Tryz.prog 121 #[.int .i64 n, .pointer (some a)] w fun e w' => e = .returned (.bool (!inB n 0 500)) ∧ Below w.heap.size w w' := by
  unfold F_Share at ha
  go_enter Tryz.func121, Tryz.ntmps121
  go_wp2_with fail
  refine (predShare_any _ _).mono ?_
  rintro e w1 ⟨rfl, hb1⟩
  go_wp2_with fail
  go_ret
  exact ⟨rfl, hb1⟩
def G_Share (a : Addr) : Value := .func (.func 121) #[] #[.pointer (some a)]
set_option maxHeartbeats 400000 in
theorem indexShare_any (A : Option Addr) (c : Nat) (t : List (Int)) (a : Addr) (w : World) (ha : w.cell? a = some (F_Share)) (hb : a.block < w.heap.size) (hr : Rd w w.heap.size A (ints t)) (hl : t.length ≤ 1000) :
    Calls Tryz.prog 131 #[.slice A t.length c, G_Share a] w (Found (t.any shareOkP) w) := by
  unfold G_Share
  go_enter Tryz.func131, Tryz.ntmps131
  go_wp2_with fail
  go_loopw [5, 8] (fun _ i wr => ∃ k : Nat, k ≤ t.length ∧ i = .int .i64 k ∧ (t.take k).any shareOkP = false ∧ Below w.heap.size w wr) (fun _ i _ => t.length - (intOf i).toNat)
  case atStart => exact ⟨0, Nat.zero_le _, rfl, by simp, Below.refl _ _⟩
  case round =>
    obtain ⟨k, hk, rfl, hno, hbw⟩ := hrel
    by_cases hlt : k < t.length
    · obtain ⟨b, off, rfl, hbb, hc1⟩ := (hr.below hbw).int hlt
      go_wp2_with fail
      refine (everyShare1_any _ _ _ (by rw [hbw.cell hb]; exact ha) (Nat.lt_of_lt_of_le hb hbw.size)).mono ?_
      rintro e w1 ⟨rfl, hb1⟩
      have hbw1 := hbw.trans (hb1.mono hbw.size)
      have hs := any_take_succ shareOkP t k hlt
      by_cases hp : inB t[k] 0 500 = true
      · have hs1 : (t.take (k + 1)).any shareOkP = false := by rw [hs, hno]; simp [shareOkP, hp]
        have hs2 := Lib.hid hs1
        clear hs hs1
        have hp2 : (!inB t[k] 0 500) = false := by simp [hp]
        go_wp2_with fail
        go_roundw
        case rel => exact ⟨k + 1, by omega, by go_num, hs2.out, hbw1⟩
        case measure => simp [intOf]; omega
      · have hs1 : t.any shareOkP = true := List.any_eq_true.2 ⟨t[k], List.getElem_mem _, by simp [shareOkP, hp]⟩
        have hs2 := Lib.hid hs1
        clear hs hs1
        go_wp2_with fail
        go_ret
        exact ⟨k, rfl, by rw [hs2.out]; simp, hbw1⟩
    · have hs1 : t.any shareOkP = false := by rwa [List.take_of_length_le (by omega)] at hno
      have hs2 := Lib.hid hs1
      clear hno hs1
      go_wp2_with fail
      go_ret
      exact ⟨-1, rfl, by rw [hs2.out]; rfl, hbw⟩
theorem containsShare_any (A : Option Addr) (c : Nat) (t : List (Int)) (a : Addr) (w : World) (ha : w.cell? a = some (F_Share)) (hb : a.block < w.heap.size) (hr : Rd w w.heap.size A (ints t)) (hl : t.length ≤ 1000) :
    Calls Tryz.prog 120 #[.slice A t.length c, G_Share a] w fun e w' => e = .returned (.bool (t.any shareOkP)) ∧ Below w.heap.size w w' := by
  have H := Lib.hid (indexShare_any A c t a w ha hb hr hl)
  unfold G_Share at H ⊢
  go_enter Tryz.func120, Tryz.ntmps120
  go_wp2_with fail
  refine H.out.mono ?_
  rintro e w1 ⟨i, rfl, hi, hb1⟩
  go_wp2_with fail
  go_ret
  exact ⟨rfl, hb1⟩
theorem everyShare_any (A : Option Addr) (c : Nat) (t : List (Int)) (w : World) (hr : Rd w w.heap.size A (ints t)) (hl : t.length ≤ 1000) :
    Calls Tryz.prog 90 #[.slice A t.length c, F_Share] w fun e w' => e = .returned (.bool (!t.any shareOkP)) ∧ Below w.heap.size w w' := by
  have H := Lib.hid (containsShare_any A c t ⟨w.heap.size, 0, none⟩ (w.alloc (.cells #[F_Share] 146)) (by simp) (by simp) (hr.alloc _) hl)
  unfold F_Share at H ⊢
  unfold G_Share at H
  go_enter Tryz.func90, Tryz.ntmps90
  go_wp2_with fail
  refine H.out.mono ?_
  rintro e w1 ⟨rfl, hb1⟩
  go_wp2_with fail
  go_ret
  exact ⟨rfl, ((Below.refl _ _).alloc (Nat.le_refl _) _).trans (hb1.mono (by simp))⟩

def F_Left (q : Addr) : Value := .func (.func 91) #[] #[.pointer (some q)]
theorem everyLeft1_any (n : Int) (days : Int) (q : Addr) (a : Addr) (w : World) (hq : w.cell? q = some (.int .i64 days)) (hqb : q.block < w.heap.size) (ha : w.cell? a = some (F_Left q)) (hb : a.block < w.heap.size) :
    Calls Tryz.prog 121 #[.int .i64 n, .pointer (some a)] w fun e w' => e = .returned (.bool (!inB n 0 days)) ∧ Below w.heap.size w w' := by
  unfold F_Left at ha
  go_enter Tryz.func121, Tryz.ntmps121
  go_wp2_with fail
  refine (predLeft_any _ days q _ hq hqb).mono ?_
  rintro e w1 ⟨rfl, hb1⟩
  go_wp2_with fail
  go_ret
  exact ⟨rfl, hb1⟩
def G_Left (a : Addr) : Value := .func (.func 121) #[] #[.pointer (some a)]
set_option maxHeartbeats 400000 in
theorem indexLeft_any (A : Option Addr) (c : Nat) (t : List (Int)) (days : Int) (q : Addr) (a : Addr) (w : World) (hq : w.cell? q = some (.int .i64 days)) (hqb : q.block < w.heap.size) (ha : w.cell? a = some (F_Left q)) (hb : a.block < w.heap.size) (hr : Rd w w.heap.size A (ints t)) (hl : t.length ≤ 1000) :
    Calls Tryz.prog 131 #[.slice A t.length c, G_Left a] w (Found (t.any (leftOkP days)) w) := by
  unfold G_Left
  go_enter Tryz.func131, Tryz.ntmps131
  go_wp2_with fail
  go_loopw [5, 8] (fun _ i wr => ∃ k : Nat, k ≤ t.length ∧ i = .int .i64 k ∧ (t.take k).any (leftOkP days) = false ∧ Below w.heap.size w wr) (fun _ i _ => t.length - (intOf i).toNat)
  case atStart => exact ⟨0, Nat.zero_le _, rfl, by simp, Below.refl _ _⟩
  case round =>
    obtain ⟨k, hk, rfl, hno, hbw⟩ := hrel
    by_cases hlt : k < t.length
    · obtain ⟨b, off, rfl, hbb, hc1⟩ := (hr.below hbw).int hlt
      go_wp2_with fail
      refine (everyLeft1_any _ days q _ _ ((hbw.cell hqb).trans hq) (Nat.lt_of_lt_of_le hqb hbw.size) (by rw [hbw.cell hb]; exact ha) (Nat.lt_of_lt_of_le hb hbw.size)).mono ?_
      rintro e w1 ⟨rfl, hb1⟩
      have hbw1 := hbw.trans (hb1.mono hbw.size)
      have hs := any_take_succ (leftOkP days) t k hlt
      by_cases hp : inB t[k] 0 days = true
      · have hs1 : (t.take (k + 1)).any (leftOkP days) = false := by rw [hs, hno]; simp [leftOkP, hp]
        have hs2 := Lib.hid hs1
        clear hs hs1
        have hp2 : (!inB t[k] 0 days) = false := by simp [hp]
        go_wp2_with fail
        go_roundw
        case rel => exact ⟨k + 1, by omega, by go_num, hs2.out, hbw1⟩
        case measure => simp [intOf]; omega
      · have hs1 : t.any (leftOkP days) = true := List.any_eq_true.2 ⟨t[k], List.getElem_mem _, by simp [leftOkP, hp]⟩
        have hs2 := Lib.hid hs1
        clear hs hs1
        go_wp2_with fail
        go_ret
        exact ⟨k, rfl, by rw [hs2.out]; simp, hbw1⟩
    · have hs1 : t.any (leftOkP days) = false := by rwa [List.take_of_length_le (by omega)] at hno
      have hs2 := Lib.hid hs1
      clear hno hs1
      go_wp2_with fail
      go_ret
      exact ⟨-1, rfl, by rw [hs2.out]; rfl, hbw⟩
theorem containsLeft_any (A : Option Addr) (c : Nat) (t : List (Int)) (days : Int) (q : Addr) (a : Addr) (w : World) (hq : w.cell? q = some (.int .i64 days)) (hqb : q.block < w.heap.size) (ha : w.cell? a = some (F_Left q)) (hb : a.block < w.heap.size) (hr : Rd w w.heap.size A (ints t)) (hl : t.length ≤ 1000) :
    Calls Tryz.prog 120 #[.slice A t.length c, G_Left a] w fun e w' => e = .returned (.bool (t.any (leftOkP days))) ∧ Below w.heap.size w w' := by
  have H := Lib.hid (indexLeft_any A c t days q a w hq hqb ha hb hr hl)
  unfold G_Left at H ⊢
  go_enter Tryz.func120, Tryz.ntmps120
  go_wp2_with fail
  refine H.out.mono ?_
  rintro e w1 ⟨i, rfl, hi, hb1⟩
  go_wp2_with fail
  go_ret
  exact ⟨rfl, hb1⟩
theorem everyLeft_any (A : Option Addr) (c : Nat) (t : List (Int)) (days : Int) (q : Addr) (w : World) (hq : w.cell? q = some (.int .i64 days)) (hqb : q.block < w.heap.size) (hr : Rd w w.heap.size A (ints t)) (hl : t.length ≤ 1000) :
    Calls Tryz.prog 90 #[.slice A t.length c, F_Left q] w fun e w' => e = .returned (.bool (!t.any (leftOkP days))) ∧ Below w.heap.size w w' := by
  have H := Lib.hid (containsLeft_any A c t days q ⟨w.heap.size, 0, none⟩ (w.alloc (.cells #[F_Left q] 146)) ((World.cell?_alloc_lt _ _ _ hqb).trans hq) (by simp; omega) (by simp) (by simp) (hr.alloc _) hl)
  unfold F_Left at H ⊢
  unfold G_Left at H
  go_enter Tryz.func90, Tryz.ntmps90
  go_wp2_with fail
  refine H.out.mono ?_
  rintro e w1 ⟨rfl, hb1⟩
  go_wp2_with fail
  go_ret
  exact ⟨rfl, ((Below.refl _ _).alloc (Nat.le_refl _) _).trans (hb1.mono (by simp))⟩
end Go.Proofs.YtfojjecnmfkcfaaGreat
