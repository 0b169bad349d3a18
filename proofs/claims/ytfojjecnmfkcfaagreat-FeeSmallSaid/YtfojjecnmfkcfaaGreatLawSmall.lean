/- FeeSmall returns true. No condition. -/
import Derived.Test.YtfojjecnmfkcfaaGreatSmR1
import Derived.Test.YtfojjecnmfkcfaaGreatSmR3
import Derived.Test.YtfojjecnmfkcfaaGreatSmR7
import Derived.Deep.DeepCutAuto
import Derived.StillTailTactics
namespace Go.Proofs.YtfojjecnmfkcfaaGreat
open Go.ChangeShapes Go.WideShapes Go.ChangeAt Go.RowKit Go.Joins
set_option linter.unusedVariables false
def smVals : List Int := [-1, 0, 1, 2, 4, 5, 7, 8, 11, 20, 40, 50, 60, 61, 100, 101, 400, 401, 500, 501, 1000, 1001, 10000, 10001, 20000, 20001, 9223372036854775807, -9223372036854775808]
set_option maxRecDepth 100000 in
set_option maxHeartbeats 8000000 in
theorem feeSmall_walk (w : World) : Calls Tryz.prog 3 #[] w fun e w' => e = .returned (.bool true) ∧ Below w.heap.size w w' := by
  go_enter Tryz.func3, Tryz.ntmps3
  go_wp2_with fail
  have HV : Hid (∀ W, W = w.alloc (.cells (ints smVals).toArray 3) → Below w.heap.size w W ∧ w.heap.size < W.heap.size ∧ ∀ k, k < 28 → ∃ v, W.cell? ⟨w.heap.size, k, none⟩ = some (.int .i64 v)) := by
    show ∀ W, _
    rintro W rfl
    refine ⟨below_new _ _, by simp, fun k hk => ?_⟩
    exact ⟨smVals[k], (Lst.new w smVals 3 rfl).at_ (j := k) hk⟩
  generalize hW1 : World.alloc w _ = W1
  obtain ⟨bw1, lz1, hv⟩ := HV.out W1 hW1.symm
  clear hW1 HV
  have HV := Lib.hid hv
  clear hv
  go_loopw [33] (fun kv wr => ∃ k : Nat, kv = .int .i64 k ∧ k ≤ 28 ∧ Hid (Below W1.heap.size W1 wr)) (fun kv _ => 28 - (intOf kv).toNat)
  case atStart => exact ⟨0, rfl, by omega, Below.refl _ _⟩
  case round =>
    obtain ⟨k, rfl, hk, HB⟩ := hrel
    by_cases hlt : k < 28
    · refine sm_r1 HB lz1 HV hlt ?_
      intro _ _ _ _ _ _ _ _ _ _ _ _ _ _ _ _ _ _ _ _ _ _ _ _ _ _ _ _ _ _ _ _ _ _ _ _ _ _ _ _ _ _ _ _ _ _ _ _ _ _ _ _ _ _ _ _ _ _ _ _ _ _ _ _ _ _ _ _ _ _ _ _ _ _ _ _ _ _ _ _ _ _ _ _ _ _ _ _ _ _ _ _ _ _ _ _ _ _ _ _ _ _ _ _ _ _ _ _ _ _ _ _ _ _ _ _ _ _ _ _ _ _ _ _ _ _ _ _ _ _ _ _ _ _ _ wx hb
      dsimp only at *
      go_wp2_with fail
      go_roundw
      case rel => exact ⟨k + 1, by go_num, by omega, hb⟩
      case measure => simp [intOf]; omega
    · obtain rfl : k = 28 := by omega
      clear HV
      rw [show ((28 : Nat) : Int) = 28 from rfl]
      obtain ⟨wA, hwA⟩ : ∃ x, x = wr := ⟨_, rfl⟩
      subst hwA
      have HB0 := Lib.hid (bw1.trans (HB.out.mono bw1.size))
      clear bw1 lz1 HB
      go_wp2_with fail
      go_loopw [155] (fun nv wr => ∃ n : Nat, nv = .int .i64 n ∧ n ≤ 300 ∧ Hid (Below wA.heap.size wA wr)) (fun nv _ => 300 - (intOf nv).toNat)
      case atStart => exact ⟨0, rfl, by omega, Below.refl _ _⟩
      case round =>
        obtain ⟨n, rfl, hn, HB⟩ := hrel
        by_cases hlt : n < 300
        · refine sm_r3 HB hlt ?_
          intro _ _ _ _ _ _ _ _ _ _ _ _ _ _ _ _ _ _ _ _ _ _ _ _ _ _ _ _ _ _ _ _ _ _ _ _ _ _ _ _ _ _ _ _ _ _ _ _ _ _ _ _ _ _ _ _ _ _ _ _ _ _ _ _ _ _ _ _ _ _ _ _ _ _ _ _ _ _ _ _ _ _ _ _ _ _ _ _ _ _ _ _ _ _ _ _ _ _ _ _ _ _ _ _ _ _ _ _ _ _ _ _ _ _ _ _ _ _ _ _ _ _ _ _ _ _ _ _ _ _ _ _ _ _ _ _ _ _ _ _ _ _ _ _ _ _ _ _ _ _ _ _ _ _ _ _ _ _ _ _ _ _ _ _ _ _ _ wx hb
          dsimp only at *
          go_wp2_with fail
          go_roundw
          case rel => exact ⟨n + 1, by go_num, by omega, hb⟩
          case measure => simp [intOf]; omega
        · obtain rfl : n = 300 := by omega
          rw [show ((300 : Nat) : Int) = 300 from rfl]
          obtain ⟨wC, hwC⟩ : ∃ x, x = wr := ⟨_, rfl⟩
          subst hwC
          have HBC := Lib.hid (HB0.out.trans (HB.out.mono HB0.out.size))
          clear HB HB0
          go_wp2_with fail
          go_loopw [314] (fun nv wr => ∃ n : Nat, nv = .int .i64 n ∧ n ≤ 11 ∧ Hid (Below wC.heap.size wC wr)) (fun nv _ => 11 - (intOf nv).toNat)
          case atStart => exact ⟨0, rfl, by omega, Below.refl _ _⟩
          case round =>
            obtain ⟨n, rfl, hn, HB⟩ := hrel
            by_cases hlt : n < 11
            · refine sm_r7 HB hlt ?_
              intro _ _ _ _ _ _ _ _ _ _ _ _ _ _ _ _ _ _ _ _ _ _ _ _ _ _ _ _ _ _ _ _ _ _ _ _ _ _ _ _ _ _ _ _ _ _ _ _ _ _ _ _ _ _ _ _ _ _ _ _ _ _ _ _ _ _ _ _ _ _ _ _ _ _ _ _ _ _ _ _ _ _ _ _ _ _ _ _ _ _ _ _ _ _ _ _ _ _ _ _ _ _ _ _ _ _ _ _ _ _ _ _ _ _ _ _ _ _ _ _ wx hb
              dsimp only at *
              go_wp2_with fail
              go_roundw
              case rel => exact ⟨n + 1, by go_num, by omega, hb⟩
              case measure => simp [intOf]; omega
            · obtain rfl : n = 11 := by omega
              go_wp2_with fail
              refine (awake_any _).mono ?_
              rintro e w1 ⟨rfl, hb1⟩
              go_wp2_with fail
              go_ret
              exact ⟨rfl, (HBC.out.trans (HB.out.mono HBC.out.size)).trans (hb1.mono (Nat.le_trans HBC.out.size HB.out.size))⟩
end Go.Proofs.YtfojjecnmfkcfaaGreat
