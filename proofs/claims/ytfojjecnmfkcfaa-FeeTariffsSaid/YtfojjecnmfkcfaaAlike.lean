/- Two lists compared (Alike of steps, houses, ratios, pairs, entries, numbers): true just where they are equal, at every two slices of at most 100000 elements. -/
import Derived.Test.YtfojjecnmfkcfaaBase
import Derived.Test.YtfojjecnmfkcfaaProg
import Derived.Laws.StructEq
import Derived.Deep.QuietTactic
import Derived.BigQuiet
namespace Go.Proofs.Ytfojjecnmfkcfaa
open Go.RowKit
set_option linter.unusedVariables false
theorem take_step {α : Type} (a b : List α) (k : Nat) (h1 : k < a.length) (h2 : k < b.length) (he : a.take k = b.take k) (hk : a[k] = b[k]) : a.take (k + 1) = b.take (k + 1) := by
  rw [List.take_succ_eq_append_getElem h1, List.take_succ_eq_append_getElem h2, he, hk]
theorem ne_of_get {α : Type} (a b : List α) (k : Nat) (h1 : k < a.length) (h2 : k < b.length) (hk : ¬ a[k] = b[k]) : ¬ a = b := by
  intro h; subst h; exact hk rfl
theorem guardStep : Try.prog.eqGuardType Try.prog.depth 26 = false := by kernel_rfl
theorem neqStep (w : World) (x0 x1 y0 y1 : Int) (r : Bool) (h : r = !(decide (x0 = y0) && decide (x1 = y1))) : (binOp .neq 26 (.agg #[.int .i64 x0, .int .i64 x1]) (.agg #[.int .i64 y0, .int .i64 y1])).run Try.prog w = .ok (.bool r) w := by
  have u3 := Try.underlying3
  have a3 := Try.isAgg3
  have z3 := Try.sizeOf3
  have hS : Try.prog.underlying 26 = some (.struct (Try.prog.fieldsOf 26)) := by kernel_rfl
  have hp : Try.prog.stoodInHeld 26 = false := by kernel_rfl
  rw [run_neq_struct, show (10000 : Nat) = 9999 + 1 from rfl, run_equalIn_agg w 9999 26 _ _ hS hp]
  simp only [Program.fieldsOf, Try.underlying26]
  go_simp
  subst h
  by_cases h0 : x0 = y0 <;> by_cases h1 : x1 = y1 <;> simp [h0, h1]
set_option maxHeartbeats 400000 in
theorem alikeStep_any (A B : Option Addr) (c d : Nat) (a b : List (Int × Int)) (w : World) (hr : Rd w w.heap.size A (pairs a)) (hs : Rd w w.heap.size B (pairs b)) (hl : a.length ≤ 100000) :
    Calls Try.prog 25 #[.slice A a.length c, .slice B b.length d] w fun e w' => e = .returned (.bool (decide (a = b))) ∧ Below w.heap.size w w' := by
  by_cases hlen : a.length = b.length
  · have hz : ((a.length : Int) != (b.length : Int)) = false := by rw [bne_eq_false_iff_eq]; omega
    have Hlen := Lib.hid hlen
    have hl2 : b.length ≤ a.length := by omega
    have hl3 : a.length ≤ b.length := by omega
    clear hlen
    go_enter Try.func25, Try.ntmps25
    go_wp2_with fail
    go_loopw [5, 6, 14] (fun _ _ i wr => ∃ k : Nat, k ≤ a.length ∧ i = .int .i64 k ∧ a.take k = b.take k ∧ Below w.heap.size w wr) (fun _ _ i _ => a.length - (intOf i).toNat)
    case atStart => exact ⟨0, by omega, rfl, by simp, Below.refl _ _⟩
    case round =>
      obtain ⟨k, hk, rfl, heq, hbw⟩ := hrel
      have Heq := Lib.hid heq
      clear heq
      by_cases hlt : k < a.length
      · have hlt2 : k < b.length := by omega
        obtain ⟨b1, o1, rfl, hb1, hc0, hc1⟩ := (hr.below hbw).pair hlt
        obtain ⟨b2, o2, rfl, hb2, hd0, hd1⟩ := (hs.below hbw).pair hlt2
        have hk0 : (k : Int) < b.length := by omega
        have hb1' : b1 < wr.heap.size := Nat.lt_of_lt_of_le hb1 hbw.size
        have hb2' : b2 < wr.heap.size := Nat.lt_of_lt_of_le hb2 hbw.size
        by_cases he : a[k] = b[k]
        · have hq := fun w => neqStep w a[k].1 a[k].2 b[k].1 b[k].2 false (by rw [he]; simp)
          have hg := guardStep
          have HT := Lib.hid (take_step a b k hlt hlt2 Heq.out he)
          clear he
          go_wp2_with fail
          go_quiet (fail)
          go_wp2_with fail
          go_roundw
          case rel => exact ⟨k + 1, by omega, by go_num, HT.out, below_drewN (hbw.alloc hbw.size _) _⟩
          case measure => simp [intOf]; omega
        · have hq := fun w => neqStep w a[k].1 a[k].2 b[k].1 b[k].2 true (by
            have h' : ¬ (a[k].1 = b[k].1 ∧ a[k].2 = b[k].2) := fun h => he (Prod.ext h.1 h.2)
            simp only [← Bool.decide_and]
            rw [decide_eq_false h']; rfl)
          have hg := guardStep
          have HT := Lib.hid (ne_of_get a b k hlt hlt2 he)
          clear he
          go_wp2_with fail
          go_quiet (fail)
          go_wp2_with fail
          go_ret
          exact ⟨ret_bool (decide_eq_false HT.out).symm, below_drewN (hbw.alloc hbw.size _) _⟩
      · have HT : a = b := by
          have h := Heq.out
          rwa [List.take_of_length_le (by omega), List.take_of_length_le (by omega)] at h
        have HT := Lib.hid HT
        go_wp2_with fail
        go_ret
        exact ⟨ret_bool (decide_eq_true HT.out).symm, hbw⟩
  · have hz : ((a.length : Int) != (b.length : Int)) = true := by rw [bne_iff_ne]; omega
    have HT : ¬ a = b := fun h => hlen (by rw [h])
    have HT := Lib.hid HT
    clear hlen
    go_enter Try.func25, Try.ntmps25
    go_wp2_with fail
    go_ret
    exact ⟨ret_bool (decide_eq_false HT.out).symm, Below.refl _ _⟩
theorem guardHouse : Try.prog.eqGuardType Try.prog.depth 65 = false := by kernel_rfl
theorem neqHouse (w : World) (x0 x1 x2 y0 y1 y2 : Int) (r : Bool) (h : r = !(decide (x0 = y0) && decide (x1 = y1) && decide (x2 = y2))) : (binOp .neq 65 (.agg #[.int .i64 x0, .int .i64 x1, .int .i64 x2]) (.agg #[.int .i64 y0, .int .i64 y1, .int .i64 y2])).run Try.prog w = .ok (.bool r) w := by
  have u3 := Try.underlying3
  have a3 := Try.isAgg3
  have z3 := Try.sizeOf3
  have hS : Try.prog.underlying 65 = some (.struct (Try.prog.fieldsOf 65)) := by kernel_rfl
  have hp : Try.prog.stoodInHeld 65 = false := by kernel_rfl
  rw [run_neq_struct, show (10000 : Nat) = 9999 + 1 from rfl, run_equalIn_agg w 9999 65 _ _ hS hp]
  simp only [Program.fieldsOf, Try.underlying65]
  go_simp
  subst h
  by_cases h0 : x0 = y0 <;> by_cases h1 : x1 = y1 <;> by_cases h2 : x2 = y2 <;> simp [h0, h1, h2]
set_option maxHeartbeats 400000 in
theorem alikeHouse_any (A B : Option Addr) (c d : Nat) (a b : List (Int × Int × Int)) (w : World) (hr : Rd w w.heap.size A (trips a)) (hs : Rd w w.heap.size B (trips b)) (hl : a.length ≤ 100000) :
    Calls Try.prog 102 #[.slice A a.length c, .slice B b.length d] w fun e w' => e = .returned (.bool (decide (a = b))) ∧ Below w.heap.size w w' := by
  by_cases hlen : a.length = b.length
  · have hz : ((a.length : Int) != (b.length : Int)) = false := by rw [bne_eq_false_iff_eq]; omega
    have Hlen := Lib.hid hlen
    have hl2 : b.length ≤ a.length := by omega
    have hl3 : a.length ≤ b.length := by omega
    clear hlen
    go_enter Try.func102, Try.ntmps102
    go_wp2_with fail
    go_loopw [5, 6, 14] (fun _ _ i wr => ∃ k : Nat, k ≤ a.length ∧ i = .int .i64 k ∧ a.take k = b.take k ∧ Below w.heap.size w wr) (fun _ _ i _ => a.length - (intOf i).toNat)
    case atStart => exact ⟨0, by omega, rfl, by simp, Below.refl _ _⟩
    case round =>
      obtain ⟨k, hk, rfl, heq, hbw⟩ := hrel
      have Heq := Lib.hid heq
      clear heq
      by_cases hlt : k < a.length
      · have hlt2 : k < b.length := by omega
        obtain ⟨b1, o1, rfl, hb1, hc0, hc1, hc2⟩ := (hr.below hbw).trip hlt
        obtain ⟨b2, o2, rfl, hb2, hd0, hd1, hd2⟩ := (hs.below hbw).trip hlt2
        have hk0 : (k : Int) < b.length := by omega
        have hb1' : b1 < wr.heap.size := Nat.lt_of_lt_of_le hb1 hbw.size
        have hb2' : b2 < wr.heap.size := Nat.lt_of_lt_of_le hb2 hbw.size
        by_cases he : a[k] = b[k]
        · have hq := fun w => neqHouse w a[k].1 a[k].2.1 a[k].2.2 b[k].1 b[k].2.1 b[k].2.2 false (by rw [he]; simp)
          have hg := guardHouse
          have HT := Lib.hid (take_step a b k hlt hlt2 Heq.out he)
          clear he
          go_wp2_with fail
          go_quiet (fail)
          go_wp2_with fail
          go_roundw
          case rel => exact ⟨k + 1, by omega, by go_num, HT.out, below_drewN (hbw.alloc hbw.size _) _⟩
          case measure => simp [intOf]; omega
        · have hq := fun w => neqHouse w a[k].1 a[k].2.1 a[k].2.2 b[k].1 b[k].2.1 b[k].2.2 true (by
            have h' : ¬ ((a[k].1 = b[k].1 ∧ a[k].2.1 = b[k].2.1) ∧ a[k].2.2 = b[k].2.2) := fun h => he (Prod.ext h.1.1 (Prod.ext h.1.2 h.2))
            simp only [← Bool.decide_and]
            rw [decide_eq_false h']; rfl)
          have hg := guardHouse
          have HT := Lib.hid (ne_of_get a b k hlt hlt2 he)
          clear he
          go_wp2_with fail
          go_quiet (fail)
          go_wp2_with fail
          go_ret
          exact ⟨ret_bool (decide_eq_false HT.out).symm, below_drewN (hbw.alloc hbw.size _) _⟩
      · have HT : a = b := by
          have h := Heq.out
          rwa [List.take_of_length_le (by omega), List.take_of_length_le (by omega)] at h
        have HT := Lib.hid HT
        go_wp2_with fail
        go_ret
        exact ⟨ret_bool (decide_eq_true HT.out).symm, hbw⟩
  · have hz : ((a.length : Int) != (b.length : Int)) = true := by rw [bne_iff_ne]; omega
    have HT : ¬ a = b := fun h => hlen (by rw [h])
    have HT := Lib.hid HT
    clear hlen
    go_enter Try.func102, Try.ntmps102
    go_wp2_with fail
    go_ret
    exact ⟨ret_bool (decide_eq_false HT.out).symm, Below.refl _ _⟩
theorem guardRatio : Try.prog.eqGuardType Try.prog.depth 97 = false := by kernel_rfl
theorem neqRatio (w : World) (x0 x1 y0 y1 : Int) (r : Bool) (h : r = !(decide (x0 = y0) && decide (x1 = y1))) : (binOp .neq 97 (.agg #[.int .i64 x0, .int .i64 x1]) (.agg #[.int .i64 y0, .int .i64 y1])).run Try.prog w = .ok (.bool r) w := by
  have u3 := Try.underlying3
  have a3 := Try.isAgg3
  have z3 := Try.sizeOf3
  have hS : Try.prog.underlying 97 = some (.struct (Try.prog.fieldsOf 97)) := by kernel_rfl
  have hp : Try.prog.stoodInHeld 97 = false := by kernel_rfl
  rw [run_neq_struct, show (10000 : Nat) = 9999 + 1 from rfl, run_equalIn_agg w 9999 97 _ _ hS hp]
  simp only [Program.fieldsOf, Try.underlying97]
  go_simp
  subst h
  by_cases h0 : x0 = y0 <;> by_cases h1 : x1 = y1 <;> simp [h0, h1]
set_option maxHeartbeats 400000 in
theorem alikeRatio_any (A B : Option Addr) (c d : Nat) (a b : List (Int × Int)) (w : World) (hr : Rd w w.heap.size A (pairs a)) (hs : Rd w w.heap.size B (pairs b)) (hl : a.length ≤ 100000) :
    Calls Try.prog 56 #[.slice A a.length c, .slice B b.length d] w fun e w' => e = .returned (.bool (decide (a = b))) ∧ Below w.heap.size w w' := by
  by_cases hlen : a.length = b.length
  · have hz : ((a.length : Int) != (b.length : Int)) = false := by rw [bne_eq_false_iff_eq]; omega
    have Hlen := Lib.hid hlen
    have hl2 : b.length ≤ a.length := by omega
    have hl3 : a.length ≤ b.length := by omega
    clear hlen
    go_enter Try.func56, Try.ntmps56
    go_wp2_with fail
    go_loopw [5, 6, 14] (fun _ _ i wr => ∃ k : Nat, k ≤ a.length ∧ i = .int .i64 k ∧ a.take k = b.take k ∧ Below w.heap.size w wr) (fun _ _ i _ => a.length - (intOf i).toNat)
    case atStart => exact ⟨0, by omega, rfl, by simp, Below.refl _ _⟩
    case round =>
      obtain ⟨k, hk, rfl, heq, hbw⟩ := hrel
      have Heq := Lib.hid heq
      clear heq
      by_cases hlt : k < a.length
      · have hlt2 : k < b.length := by omega
        obtain ⟨b1, o1, rfl, hb1, hc0, hc1⟩ := (hr.below hbw).pair hlt
        obtain ⟨b2, o2, rfl, hb2, hd0, hd1⟩ := (hs.below hbw).pair hlt2
        have hk0 : (k : Int) < b.length := by omega
        have hb1' : b1 < wr.heap.size := Nat.lt_of_lt_of_le hb1 hbw.size
        have hb2' : b2 < wr.heap.size := Nat.lt_of_lt_of_le hb2 hbw.size
        by_cases he : a[k] = b[k]
        · have hq := fun w => neqRatio w a[k].1 a[k].2 b[k].1 b[k].2 false (by rw [he]; simp)
          have hg := guardRatio
          have HT := Lib.hid (take_step a b k hlt hlt2 Heq.out he)
          clear he
          go_wp2_with fail
          go_quiet (fail)
          go_wp2_with fail
          go_roundw
          case rel => exact ⟨k + 1, by omega, by go_num, HT.out, below_drewN (hbw.alloc hbw.size _) _⟩
          case measure => simp [intOf]; omega
        · have hq := fun w => neqRatio w a[k].1 a[k].2 b[k].1 b[k].2 true (by
            have h' : ¬ (a[k].1 = b[k].1 ∧ a[k].2 = b[k].2) := fun h => he (Prod.ext h.1 h.2)
            simp only [← Bool.decide_and]
            rw [decide_eq_false h']; rfl)
          have hg := guardRatio
          have HT := Lib.hid (ne_of_get a b k hlt hlt2 he)
          clear he
          go_wp2_with fail
          go_quiet (fail)
          go_wp2_with fail
          go_ret
          exact ⟨ret_bool (decide_eq_false HT.out).symm, below_drewN (hbw.alloc hbw.size _) _⟩
      · have HT : a = b := by
          have h := Heq.out
          rwa [List.take_of_length_le (by omega), List.take_of_length_le (by omega)] at h
        have HT := Lib.hid HT
        go_wp2_with fail
        go_ret
        exact ⟨ret_bool (decide_eq_true HT.out).symm, hbw⟩
  · have hz : ((a.length : Int) != (b.length : Int)) = true := by rw [bne_iff_ne]; omega
    have HT : ¬ a = b := fun h => hlen (by rw [h])
    have HT := Lib.hid HT
    clear hlen
    go_enter Try.func56, Try.ntmps56
    go_wp2_with fail
    go_ret
    exact ⟨ret_bool (decide_eq_false HT.out).symm, Below.refl _ _⟩
theorem guardPair : Try.prog.eqGuardType Try.prog.depth 69 = false := by kernel_rfl
theorem neqPair (w : World) (x0 x1 y0 y1 : Int) (r : Bool) (h : r = !(decide (x0 = y0) && decide (x1 = y1))) : (binOp .neq 69 (.agg #[.int .i64 x0, .int .i64 x1]) (.agg #[.int .i64 y0, .int .i64 y1])).run Try.prog w = .ok (.bool r) w := by
  have u3 := Try.underlying3
  have a3 := Try.isAgg3
  have z3 := Try.sizeOf3
  have hS : Try.prog.underlying 69 = some (.struct (Try.prog.fieldsOf 69)) := by kernel_rfl
  have hp : Try.prog.stoodInHeld 69 = false := by kernel_rfl
  rw [run_neq_struct, show (10000 : Nat) = 9999 + 1 from rfl, run_equalIn_agg w 9999 69 _ _ hS hp]
  simp only [Program.fieldsOf, Try.underlying69]
  go_simp
  subst h
  by_cases h0 : x0 = y0 <;> by_cases h1 : x1 = y1 <;> simp [h0, h1]
set_option maxHeartbeats 400000 in
theorem alikePair_any (A B : Option Addr) (c d : Nat) (a b : List (Int × Int)) (w : World) (hr : Rd w w.heap.size A (pairs a)) (hs : Rd w w.heap.size B (pairs b)) (hl : a.length ≤ 100000) :
    Calls Try.prog 82 #[.slice A a.length c, .slice B b.length d] w fun e w' => e = .returned (.bool (decide (a = b))) ∧ Below w.heap.size w w' := by
  by_cases hlen : a.length = b.length
  · have hz : ((a.length : Int) != (b.length : Int)) = false := by rw [bne_eq_false_iff_eq]; omega
    have Hlen := Lib.hid hlen
    have hl2 : b.length ≤ a.length := by omega
    have hl3 : a.length ≤ b.length := by omega
    clear hlen
    go_enter Try.func82, Try.ntmps82
    go_wp2_with fail
    go_loopw [5, 6, 14] (fun _ _ i wr => ∃ k : Nat, k ≤ a.length ∧ i = .int .i64 k ∧ a.take k = b.take k ∧ Below w.heap.size w wr) (fun _ _ i _ => a.length - (intOf i).toNat)
    case atStart => exact ⟨0, by omega, rfl, by simp, Below.refl _ _⟩
    case round =>
      obtain ⟨k, hk, rfl, heq, hbw⟩ := hrel
      have Heq := Lib.hid heq
      clear heq
      by_cases hlt : k < a.length
      · have hlt2 : k < b.length := by omega
        obtain ⟨b1, o1, rfl, hb1, hc0, hc1⟩ := (hr.below hbw).pair hlt
        obtain ⟨b2, o2, rfl, hb2, hd0, hd1⟩ := (hs.below hbw).pair hlt2
        have hk0 : (k : Int) < b.length := by omega
        have hb1' : b1 < wr.heap.size := Nat.lt_of_lt_of_le hb1 hbw.size
        have hb2' : b2 < wr.heap.size := Nat.lt_of_lt_of_le hb2 hbw.size
        by_cases he : a[k] = b[k]
        · have hq := fun w => neqPair w a[k].1 a[k].2 b[k].1 b[k].2 false (by rw [he]; simp)
          have hg := guardPair
          have HT := Lib.hid (take_step a b k hlt hlt2 Heq.out he)
          clear he
          go_wp2_with fail
          go_quiet (fail)
          go_wp2_with fail
          go_roundw
          case rel => exact ⟨k + 1, by omega, by go_num, HT.out, below_drewN (hbw.alloc hbw.size _) _⟩
          case measure => simp [intOf]; omega
        · have hq := fun w => neqPair w a[k].1 a[k].2 b[k].1 b[k].2 true (by
            have h' : ¬ (a[k].1 = b[k].1 ∧ a[k].2 = b[k].2) := fun h => he (Prod.ext h.1 h.2)
            simp only [← Bool.decide_and]
            rw [decide_eq_false h']; rfl)
          have hg := guardPair
          have HT := Lib.hid (ne_of_get a b k hlt hlt2 he)
          clear he
          go_wp2_with fail
          go_quiet (fail)
          go_wp2_with fail
          go_ret
          exact ⟨ret_bool (decide_eq_false HT.out).symm, below_drewN (hbw.alloc hbw.size _) _⟩
      · have HT : a = b := by
          have h := Heq.out
          rwa [List.take_of_length_le (by omega), List.take_of_length_le (by omega)] at h
        have HT := Lib.hid HT
        go_wp2_with fail
        go_ret
        exact ⟨ret_bool (decide_eq_true HT.out).symm, hbw⟩
  · have hz : ((a.length : Int) != (b.length : Int)) = true := by rw [bne_iff_ne]; omega
    have HT : ¬ a = b := fun h => hlen (by rw [h])
    have HT := Lib.hid HT
    clear hlen
    go_enter Try.func82, Try.ntmps82
    go_wp2_with fail
    go_ret
    exact ⟨ret_bool (decide_eq_false HT.out).symm, Below.refl _ _⟩
theorem guardEntry : Try.prog.eqGuardType Try.prog.depth 80 = false := by kernel_rfl
theorem neqEntry (w : World) (x0 x1 y0 y1 : Int) (r : Bool) (h : r = !(decide (x0 = y0) && decide (x1 = y1))) : (binOp .neq 80 (.agg #[.int .i64 x0, .int .i64 x1]) (.agg #[.int .i64 y0, .int .i64 y1])).run Try.prog w = .ok (.bool r) w := by
  have u3 := Try.underlying3
  have a3 := Try.isAgg3
  have z3 := Try.sizeOf3
  have hS : Try.prog.underlying 80 = some (.struct (Try.prog.fieldsOf 80)) := by kernel_rfl
  have hp : Try.prog.stoodInHeld 80 = false := by kernel_rfl
  rw [run_neq_struct, show (10000 : Nat) = 9999 + 1 from rfl, run_equalIn_agg w 9999 80 _ _ hS hp]
  simp only [Program.fieldsOf, Try.underlying80]
  go_simp
  subst h
  by_cases h0 : x0 = y0 <;> by_cases h1 : x1 = y1 <;> simp [h0, h1]
set_option maxHeartbeats 400000 in
theorem alikeEntry_any (A B : Option Addr) (c d : Nat) (a b : List (Int × Int)) (w : World) (hr : Rd w w.heap.size A (pairs a)) (hs : Rd w w.heap.size B (pairs b)) (hl : a.length ≤ 100000) :
    Calls Try.prog 131 #[.slice A a.length c, .slice B b.length d] w fun e w' => e = .returned (.bool (decide (a = b))) ∧ Below w.heap.size w w' := by
  by_cases hlen : a.length = b.length
  · have hz : ((a.length : Int) != (b.length : Int)) = false := by rw [bne_eq_false_iff_eq]; omega
    have Hlen := Lib.hid hlen
    have hl2 : b.length ≤ a.length := by omega
    have hl3 : a.length ≤ b.length := by omega
    clear hlen
    go_enter Try.func131, Try.ntmps131
    go_wp2_with fail
    go_loopw [5, 6, 14] (fun _ _ i wr => ∃ k : Nat, k ≤ a.length ∧ i = .int .i64 k ∧ a.take k = b.take k ∧ Below w.heap.size w wr) (fun _ _ i _ => a.length - (intOf i).toNat)
    case atStart => exact ⟨0, by omega, rfl, by simp, Below.refl _ _⟩
    case round =>
      obtain ⟨k, hk, rfl, heq, hbw⟩ := hrel
      have Heq := Lib.hid heq
      clear heq
      by_cases hlt : k < a.length
      · have hlt2 : k < b.length := by omega
        obtain ⟨b1, o1, rfl, hb1, hc0, hc1⟩ := (hr.below hbw).pair hlt
        obtain ⟨b2, o2, rfl, hb2, hd0, hd1⟩ := (hs.below hbw).pair hlt2
        have hk0 : (k : Int) < b.length := by omega
        have hb1' : b1 < wr.heap.size := Nat.lt_of_lt_of_le hb1 hbw.size
        have hb2' : b2 < wr.heap.size := Nat.lt_of_lt_of_le hb2 hbw.size
        by_cases he : a[k] = b[k]
        · have hq := fun w => neqEntry w a[k].1 a[k].2 b[k].1 b[k].2 false (by rw [he]; simp)
          have hg := guardEntry
          have HT := Lib.hid (take_step a b k hlt hlt2 Heq.out he)
          clear he
          go_wp2_with fail
          go_quiet (fail)
          go_wp2_with fail
          go_roundw
          case rel => exact ⟨k + 1, by omega, by go_num, HT.out, below_drewN (hbw.alloc hbw.size _) _⟩
          case measure => simp [intOf]; omega
        · have hq := fun w => neqEntry w a[k].1 a[k].2 b[k].1 b[k].2 true (by
            have h' : ¬ (a[k].1 = b[k].1 ∧ a[k].2 = b[k].2) := fun h => he (Prod.ext h.1 h.2)
            simp only [← Bool.decide_and]
            rw [decide_eq_false h']; rfl)
          have hg := guardEntry
          have HT := Lib.hid (ne_of_get a b k hlt hlt2 he)
          clear he
          go_wp2_with fail
          go_quiet (fail)
          go_wp2_with fail
          go_ret
          exact ⟨ret_bool (decide_eq_false HT.out).symm, below_drewN (hbw.alloc hbw.size _) _⟩
      · have HT : a = b := by
          have h := Heq.out
          rwa [List.take_of_length_le (by omega), List.take_of_length_le (by omega)] at h
        have HT := Lib.hid HT
        go_wp2_with fail
        go_ret
        exact ⟨ret_bool (decide_eq_true HT.out).symm, hbw⟩
  · have hz : ((a.length : Int) != (b.length : Int)) = true := by rw [bne_iff_ne]; omega
    have HT : ¬ a = b := fun h => hlen (by rw [h])
    have HT := Lib.hid HT
    clear hlen
    go_enter Try.func131, Try.ntmps131
    go_wp2_with fail
    go_ret
    exact ⟨ret_bool (decide_eq_false HT.out).symm, Below.refl _ _⟩
set_option maxHeartbeats 400000 in
theorem alikeInt_any (A B : Option Addr) (c d : Nat) (a b : List (Int)) (w : World) (hr : Rd w w.heap.size A (ints a)) (hs : Rd w w.heap.size B (ints b)) (hl : a.length ≤ 100000) :
    Calls Try.prog 30 #[.slice A a.length c, .slice B b.length d] w fun e w' => e = .returned (.bool (decide (a = b))) ∧ Below w.heap.size w w' := by
  by_cases hlen : a.length = b.length
  · have hz : ((a.length : Int) != (b.length : Int)) = false := by rw [bne_eq_false_iff_eq]; omega
    have Hlen := Lib.hid hlen
    have hl2 : b.length ≤ a.length := by omega
    have hl3 : a.length ≤ b.length := by omega
    clear hlen
    go_enter Try.func30, Try.ntmps30
    go_wp2_with fail
    go_loopw [5, 6, 14] (fun _ _ i wr => ∃ k : Nat, k ≤ a.length ∧ i = .int .i64 k ∧ a.take k = b.take k ∧ Below w.heap.size w wr) (fun _ _ i _ => a.length - (intOf i).toNat)
    case atStart => exact ⟨0, by omega, rfl, by simp, Below.refl _ _⟩
    case round =>
      obtain ⟨k, hk, rfl, heq, hbw⟩ := hrel
      have Heq := Lib.hid heq
      clear heq
      by_cases hlt : k < a.length
      · have hlt2 : k < b.length := by omega
        obtain ⟨b1, o1, rfl, hb1, hc0⟩ := (hr.below hbw).int hlt
        obtain ⟨b2, o2, rfl, hb2, hd0⟩ := (hs.below hbw).int hlt2
        have hk0 : (k : Int) < b.length := by omega
        have hb1' : b1 < wr.heap.size := Nat.lt_of_lt_of_le hb1 hbw.size
        have hb2' : b2 < wr.heap.size := Nat.lt_of_lt_of_le hb2 hbw.size
        by_cases he : a[k] = b[k]
        · have hq : (a[k] != b[k]) = false := by rw [he]; simp
          have HT := Lib.hid (take_step a b k hlt hlt2 Heq.out he)
          clear he
          go_wp2_with fail
          go_roundw
          case rel => exact ⟨k + 1, by omega, by go_num, HT.out, hbw⟩
          case measure => simp [intOf]; omega
        · have hq : (a[k] != b[k]) = true := by simpa using he
          have HT := Lib.hid (ne_of_get a b k hlt hlt2 he)
          clear he
          go_wp2_with fail
          go_ret
          exact ⟨ret_bool (decide_eq_false HT.out).symm, hbw⟩
      · have HT : a = b := by
          have h := Heq.out
          rwa [List.take_of_length_le (by omega), List.take_of_length_le (by omega)] at h
        have HT := Lib.hid HT
        go_wp2_with fail
        go_ret
        exact ⟨ret_bool (decide_eq_true HT.out).symm, hbw⟩
  · have hz : ((a.length : Int) != (b.length : Int)) = true := by rw [bne_iff_ne]; omega
    have HT : ¬ a = b := fun h => hlen (by rw [h])
    have HT := Lib.hid HT
    clear hlen
    go_enter Try.func30, Try.ntmps30
    go_wp2_with fail
    go_ret
    exact ⟨ret_bool (decide_eq_false HT.out).symm, Below.refl _ _⟩
end Go.Proofs.Ytfojjecnmfkcfaa
