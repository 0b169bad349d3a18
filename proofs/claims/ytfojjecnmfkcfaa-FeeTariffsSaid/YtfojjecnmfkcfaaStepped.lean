/- stepped: the tariff of the reference reads as that of the program, at every slice of at most 100000 steps. -/
import Derived.Test.YtfojjecnmfkcfaaBase
import Derived.Test.YtfojjecnmfkcfaaProg
namespace Go.Proofs.Ytfojjecnmfkcfaa
open Go.RowKit
set_option linter.unusedVariables false
theorem infoRStep : (Try.prog.info? 132).map (fun i => (i.zero, i.size, i.bytes)) = some (some (.agg #[.int .i64 0, .int .i64 0]), 2, 16) := by kernel_rfl
theorem pairs_snoc (t : List (Int × Int)) (k : Nat) (h : k < t.length) : pairs (t.take (k + 1)) = pairs (t.take k) ++ [.int .i64 t[k].1, .int .i64 t[k].2] := by
  rw [List.take_succ_eq_append_getElem h]; unfold pairs; rw [List.flatMap_append]; rfl
theorem news_new (w : World) (cs : List Value) (t : TypeId) {H : Nat} (hH : w.heap.size = H) : ∀ j u, cs[j]? = some u → (w.alloc (.cells cs.toArray t)).cell? ((⟨H, 0, none⟩ : Addr).add j) = some u :=
  (Rd.new w cs t hH).news
set_option maxHeartbeats 400000 in
theorem stepped_any (A : Option Addr) (c : Nat) (t : List (Int × Int)) (w : World) (hr : Rd w w.heap.size A (pairs t)) (hl : t.length ≤ 100000) :
    Calls Try.prog 18 #[.slice A t.length c] w (RetOwn 132 2 t.length (pairs t) w) := by
  obtain ⟨i0, hi, hz0, hz1, hz2⟩ := info_parts infoRStep
  go_enter Try.func18, Try.ntmps18
  go_wp2_with fail
  go_loopw [3, 5, 8] (fun v _ i wr => ∃ k : Nat, k ≤ t.length ∧ i = .int .i64 k ∧ wr.ownsRow w.heap.size 132 2 v k (pairs (t.take k)) ∧ Below w.heap.size w wr) (fun _ _ i _ => t.length - (intOf i).toNat)
  case atStart => exact ⟨0, Nat.zero_le _, rfl, World.ownsRow_nil _ _ _ _, Below.refl _ _⟩
  case round =>
    obtain ⟨k, hk, rfl, hown, hbw⟩ := hrel
    by_cases hlt : k < t.length
    · obtain ⟨b, off, rfl, hbb, hc1, hc2⟩ := (hr.below hbw).pair hlt
      have HO := Lib.hid hown
      clear hown
      have hbs := hbw.size
      have HP := Lib.hid (pairs_snoc t k hlt)
      go_wp2_with (at_builtin; refine wpList_append_own_at _ rfl _ _ 27 rfl w.heap.size 132 i0 _ 2 16 Try.underlying27 hi hz0 hz1 hz2 rfl (by decide) _ _ _ rfl ((HO.out.alloc _).alloc _) ⟨wr.heap.size + 1, 0, none⟩ 1 1 [.int .i64 t[k].1, .int .i64 t[k].2] rfl rfl (news_new _ _ _ (by simp)) (by simp [Value.oneCell']) (by simp only [maxLen]; omega) (by omega) (by simp; omega) ?_; intro v1 w1 hown1 hgrow1 _ hat1)
      go_roundw
      case rel =>
        refine ⟨k + 1, by omega, by go_num, by rw [HP.out]; exact hown1, ?_⟩
        exact ((hbw.alloc hbs _).alloc (by simp; omega) _).grown hgrow1 (by simp; omega) (fun q hq => (HO.out.lt q hq).1)
      case measure => simp [intOf]; omega
    · have HO := Lib.hid hown
      clear hown
      go_wp2_with fail
      go_ret
      have h := HO.out
      rw [List.take_of_length_le (by omega)] at h
      obtain rfl : k = t.length := by omega
      exact ⟨_, rfl, h, hbw⟩
end Go.Proofs.Ytfojjecnmfkcfaa
