/- Copies of lists read as the lists, in blocks of their own, at every slice of at most 100000 elements. -/
import Derived.Test.YtfojjecnmfkcfaaProg
import Derived.Test.YtfojjecnmfkcfaaBase
import Derived.Deep.QuietTactic
import Derived.BigQuiet
namespace Go.Proofs.Ytfojjecnmfkcfaa
open Go.RowKit
set_option linter.unusedVariables false
theorem infoStep : (Try.prog.info? 26).map (fun i => (i.zero, i.size, i.bytes)) = some (some (.agg #[.int .i64 0, .int .i64 0]), 2, 16) := by kernel_rfl
set_option maxHeartbeats 400000 in
theorem copyStep_any (A : Option Addr) (c : Nat) (t : List (Int × Int)) (w : World) (hr : Rd w w.heap.size A (pairs t)) (hl : t.length ≤ 100000) :
    Calls Try.prog 17 #[.slice A t.length c] w (RetOwn 26 2 t.length (pairs t) w) := by
  by_cases h0 : t.length = 0
  · have ht : t = [] := List.eq_nil_of_length_eq_zero h0
    subst ht
    go_enter Try.func17, Try.ntmps17
    go_wp2_with fail
    go_ret
    exact ⟨_, rfl, World.ownsRow_nil _ _ _ _, Below.refl _ _⟩
  · obtain ⟨b, off, rfl, hbb⟩ := hr.addr (k := 0) (by rw [pairs_length]; omega)
    have hz : ((t.length : Int) == 0) = false := by rw [beq_eq_false_iff_ne]; omega
    have hne : Hid (0 < t.length) := by show 0 < t.length; omega
    clear h0
    obtain ⟨i0, hi, hz0, hz1, hz2⟩ := info_parts infoStep
    have HN := Lib.hid (hr.alloc (.cells #[] 26)).news
    have HO := Lib.hid (World.ownsRow_made (base := w.heap.size) (e := 26) (size := 2) w #[] 0 (Nat.le_refl _) (by simp [maxLen]) (by simp))
    go_enter Try.func17, Try.ntmps17
    go_wp2_with (at_builtin; refine wpList_append_own_at _ rfl _ _ 22 rfl w.heap.size 26 i0 _ 2 16 Try.underlying22 hi hz0 hz1 hz2 rfl (by decide) _ _ _ rfl HO.out _ t.length c (pairs t) rfl (by rw [pairs_length]) HN.out (pairs_one t) (by simp only [maxLen]; omega) (by omega) (by simp) ?_; intro v1 w1 hown1 hgrow1 _ hat1)
    go_ret
    exact ⟨v1, rfl, by simpa using hown1, (below_new w _).grown hgrow1 (by simp) (fun k hk => by have hk' : some w.heap.size = some k := hk; injection hk' with hk'; omega)⟩
theorem infoEntry : (Try.prog.info? 80).map (fun i => (i.zero, i.size, i.bytes)) = some (some (.agg #[.int .i64 0, .int .i64 0]), 2, 16) := by kernel_rfl
set_option maxHeartbeats 400000 in
theorem copyEntry_any (A : Option Addr) (c : Nat) (t : List (Int × Int)) (w : World) (hr : Rd w w.heap.size A (pairs t)) (hl : t.length ≤ 100000) :
    Calls Try.prog 108 #[.slice A t.length c] w (RetOwn 80 2 t.length (pairs t) w) := by
  by_cases h0 : t.length = 0
  · have ht : t = [] := List.eq_nil_of_length_eq_zero h0
    subst ht
    go_enter Try.func108, Try.ntmps108
    go_wp2_with fail
    go_ret
    exact ⟨_, rfl, World.ownsRow_nil _ _ _ _, Below.refl _ _⟩
  · obtain ⟨b, off, rfl, hbb⟩ := hr.addr (k := 0) (by rw [pairs_length]; omega)
    have hz : ((t.length : Int) == 0) = false := by rw [beq_eq_false_iff_ne]; omega
    have hne : Hid (0 < t.length) := by show 0 < t.length; omega
    clear h0
    obtain ⟨i0, hi, hz0, hz1, hz2⟩ := info_parts infoEntry
    have HN := Lib.hid (hr.alloc (.cells #[] 80)).news
    have HO := Lib.hid (World.ownsRow_made (base := w.heap.size) (e := 80) (size := 2) w #[] 0 (Nat.le_refl _) (by simp [maxLen]) (by simp))
    go_enter Try.func108, Try.ntmps108
    go_wp2_with (at_builtin; refine wpList_append_own_at _ rfl _ _ 74 rfl w.heap.size 80 i0 _ 2 16 Try.underlying74 hi hz0 hz1 hz2 rfl (by decide) _ _ _ rfl HO.out _ t.length c (pairs t) rfl (by rw [pairs_length]) HN.out (pairs_one t) (by simp only [maxLen]; omega) (by omega) (by simp) ?_; intro v1 w1 hown1 hgrow1 _ hat1)
    go_ret
    exact ⟨v1, rfl, by simpa using hown1, (below_new w _).grown hgrow1 (by simp) (fun k hk => by have hk' : some w.heap.size = some k := hk; injection hk' with hk'; omega)⟩
theorem infoHouse : (Try.prog.info? 65).map (fun i => (i.zero, i.size, i.bytes)) = some (some (.agg #[.int .i64 0, .int .i64 0, .int .i64 0]), 3, 24) := by kernel_rfl
set_option maxHeartbeats 400000 in
theorem copyHouse_any (A : Option Addr) (c : Nat) (t : List (Int × Int × Int)) (w : World) (hr : Rd w w.heap.size A (trips t)) (hl : t.length ≤ 100000) :
    Calls Try.prog 94 #[.slice A t.length c] w (RetOwn 65 3 t.length (trips t) w) := by
  by_cases h0 : t.length = 0
  · have ht : t = [] := List.eq_nil_of_length_eq_zero h0
    subst ht
    go_enter Try.func94, Try.ntmps94
    go_wp2_with fail
    go_ret
    exact ⟨_, rfl, World.ownsRow_nil _ _ _ _, Below.refl _ _⟩
  · obtain ⟨b, off, rfl, hbb⟩ := hr.addr (k := 0) (by rw [trips_length]; omega)
    have hz : ((t.length : Int) == 0) = false := by rw [beq_eq_false_iff_ne]; omega
    have hne : Hid (0 < t.length) := by show 0 < t.length; omega
    clear h0
    obtain ⟨i0, hi, hz0, hz1, hz2⟩ := info_parts infoHouse
    have HN := Lib.hid (hr.alloc (.cells #[] 65)).news
    have HO := Lib.hid (World.ownsRow_made (base := w.heap.size) (e := 65) (size := 3) w #[] 0 (Nat.le_refl _) (by simp [maxLen]) (by simp))
    go_enter Try.func94, Try.ntmps94
    go_wp2_with (at_builtin; refine wpList_append_own_at _ rfl _ _ 37 rfl w.heap.size 65 i0 _ 3 24 Try.underlying37 hi hz0 hz1 hz2 rfl (by decide) _ _ _ rfl HO.out _ t.length c (trips t) rfl (by rw [trips_length]) HN.out (trips_one t) (by simp only [maxLen]; omega) (by omega) (by simp) ?_; intro v1 w1 hown1 hgrow1 _ hat1)
    go_ret
    exact ⟨v1, rfl, by simpa using hown1, (below_new w _).grown hgrow1 (by simp) (fun k hk => by have hk' : some w.heap.size = some k := hk; injection hk' with hk'; omega)⟩
theorem infoInt : (Try.prog.info? 3).map (fun i => (i.zero, i.size, i.bytes)) = some (some (.int .i64 0), 1, 8) := by kernel_rfl
set_option maxHeartbeats 400000 in
theorem copyInt_any (A : Option Addr) (c : Nat) (t : List (Int)) (w : World) (hr : Rd w w.heap.size A (ints t)) (hl : t.length ≤ 100000) :
    Calls Try.prog 39 #[.slice A t.length c] w (RetOwn 3 1 t.length (ints t) w) := by
  by_cases h0 : t.length = 0
  · have ht : t = [] := List.eq_nil_of_length_eq_zero h0
    subst ht
    go_enter Try.func39, Try.ntmps39
    go_wp2_with fail
    go_ret
    exact ⟨_, rfl, World.ownsRow_nil _ _ _ _, Below.refl _ _⟩
  · obtain ⟨b, off, rfl, hbb⟩ := hr.addr (k := 0) (by rw [ints_length]; omega)
    have hz : ((t.length : Int) == 0) = false := by rw [beq_eq_false_iff_ne]; omega
    have hne : Hid (0 < t.length) := by show 0 < t.length; omega
    clear h0
    obtain ⟨i0, hi, hz0, hz1, hz2⟩ := info_parts infoInt
    have HN := Lib.hid (hr.alloc (.cells #[] 3)).news
    have HO := Lib.hid (World.ownsRow_made (base := w.heap.size) (e := 3) (size := 1) w #[] 0 (Nat.le_refl _) (by simp [maxLen]) (by simp))
    go_enter Try.func39, Try.ntmps39
    go_wp2_with (at_builtin; refine wpList_append_own_at _ rfl _ _ 45 rfl w.heap.size 3 i0 _ 1 8 Try.underlying45 hi hz0 hz1 hz2 rfl (by decide) _ _ _ rfl HO.out _ t.length c (ints t) rfl (by rw [ints_length]; omega) HN.out (ints_one t) (by simp only [maxLen]; omega) (by omega) (by simp) ?_; intro v1 w1 hown1 hgrow1 _ hat1)
    go_ret
    exact ⟨v1, rfl, by simpa using hown1, (below_new w _).grown hgrow1 (by simp) (fun k hk => by have hk' : some w.heap.size = some k := hk; injection hk' with hk'; omega)⟩
end Go.Proofs.Ytfojjecnmfkcfaa
