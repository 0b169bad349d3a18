/- sum: the sum of numbers of bounded size. -/
import Derived.Test.YtfojjecnmfkcfaaProg
import Derived.Test.YtfojjecnmfkcfaaBase
namespace Go.Proofs.Ytfojjecnmfkcfaa
open Go.RowKit
set_option maxHeartbeats 400000 in
/-- 'fee.sum': what is added. -/
theorem sum_any (A : Option Addr) (c : Nat) (zs : List Int) (w : World) (hr : Rd w w.heap.size A (ints zs)) (hl : zs.length ≤ 1000) (hz : ∀ z ∈ zs, -1000000000000 ≤ z ∧ z ≤ 1000000000000) :
    Calls Try.prog 112 #[.slice A zs.length c] w fun e w' => e = .returned (.int .i64 zs.sum) ∧ w = w' := by
  go_enter Try.func112, Try.ntmps112
  go_wp2
  go_loop [3, 5, 8] (fun n x i => ∃ k : Nat, k ≤ zs.length ∧ i = .int .i64 k ∧ n = .int .i64 (zs.take k).sum) (fun _ _ i => zs.length - (intOf i).toNat)
  case atStart => exact ⟨0, Nat.zero_le _, rfl, by simp⟩
  case round =>
    obtain ⟨k, hk, rfl, rfl⟩ := hrel
    have hb := sum_le 1000000000000 (zs.take k) fun z h => hz z (List.mem_of_mem_take h)
    have hlen : ((zs.take k).length : Int) ≤ 1000 := by simp; omega
    have hlo : -1000000000000000 ≤ (zs.take k).sum := by omega
    have hhi : (zs.take k).sum ≤ 1000000000000000 := by omega
    clear hb hlen
    by_cases hlt : k < zs.length
    · obtain ⟨b, off, rfl, hbb, hcell⟩ := hr.at_ (k := k) (by rw [ints_length]; exact hlt)
      rw [ints_get] at hcell
      have hv := hz zs[k] (List.getElem_mem _)
      have hv1 := hv.1
      have hv2 := hv.2
      clear hv
      have HS := Lib.hid (take_sum zs k hlt)
      go_wp2
      go_round
      case rel => exact ⟨k + 1, by omega, by go_num, by rw [HS.out]⟩
      case measure => simp [intOf]; omega
    · go_wp2
      go_ret
      exact ⟨ret_int (by rw [List.take_of_length_le (by omega)]), rfl⟩
theorem sum2_any {w : World} {H : Nat} (hH : w.heap.size = H) (a b : Int) (h1 : -1000000000000 ≤ a) (h2 : a ≤ 1000000000000) (h3 : -1000000000000 ≤ b) (h4 : b ≤ 1000000000000) :
    Calls Try.prog 112 #[.slice (some ⟨H, 0, none⟩) 2 2] (w.alloc (.cells #[.int .i64 a, .int .i64 b] 3)) fun e w' => e = .returned (.int .i64 (a + b)) ∧ w.alloc (.cells #[.int .i64 a, .int .i64 b] 3) = w' := by
  refine (sum_any (some ⟨H, 0, none⟩) 2 [a, b] _ (Rd.new w _ _ hH) (by simp) ?_).mono fun e w' ⟨he, hw⟩ => ⟨by rw [he]; simp, hw⟩
  intro z hz
  simp at hz
  rcases hz with rfl | rfl <;> constructor <;> assumption
end Go.Proofs.Ytfojjecnmfkcfaa
