/- The chute: numbers out of bytes; each lies between its ends. MadeBill: a bill out of numbers, within its limits, of which there are shares by bids. What Outbids answers of a made bill; total; where FeeBid stands. Arguments that are lists of bytes, opened. -/
import Derived.Test.YtfojjecnmfkcfaaP13
import Derived.StillTailTactics
import Derived.Deep.QuietTactic
import Derived.BigQuiet
import Derived.Deep.DeepCutAuto
import Derived.Test.YtfojjecnmfkcfaaP14
import Derived.Deep.RegionHeld3
import Derived.Test.YtfojjecnmfkcfaaP11
import Derived.SizedLaws
namespace Go.Proofs.Ytfojjecnmfkcfaa
open Go.RowKit
set_option linter.unusedVariables false
/-- Bytes as cells. -/
def bytes (zs : List Int) : List Value := zs.map (Value.int .u8)
/-- A chute, in a block of its own. -/
structure Ch (w : World) (g : Nat) (L : Option Addr) (c : Nat) (zs : List Int) (u s : Int) : Prop where
  lt : g < w.heap.size
  load : w.cell? ⟨g, 0, none⟩ = some (.slice L zs.length c)
  used : w.cell? ⟨g, 1, none⟩ = some (.int .i64 u)
  stir : w.cell? ⟨g, 2, none⟩ = some (.int .u64 s)
  u0 : 0 ≤ u
  u1 : u ≤ zs.length
  s0 : 0 ≤ s
  s1 : s < 18446744073709551616
  free : ∀ o, w.frozen? ⟨g, o, none⟩ = false
  rd : Rd w g L (bytes zs)
  bd : ∀ z ∈ zs, 0 ≤ z ∧ z ≤ 255
  len : zs.length ≤ 140737488355328
theorem wrapU_bd (x : Int) : 0 ≤ IntKind.u64.wrap x ∧ IntKind.u64.wrap x < 18446744073709551616 := by
  have h : IntKind.u64.wrap x = x % 18446744073709551616 := by simp [IntKind.wrap, IntKind.signed, IntKind.bits]
  rw [h]; omega
theorem wrapU_in {x : Int} (h0 : 0 ≤ x) (h1 : x < 18446744073709551616) : IntKind.u64.wrap x = x := by
  have h : IntKind.u64.wrap x = x % 18446744073709551616 := by simp [IntKind.wrap, IntKind.signed, IntKind.bits]
  rw [h]; omega
theorem Ch.stir2 {w : World} {g : Nat} {L : Option Addr} {c : Nat} {zs : List Int} {u s : Int} (h : Ch w g L c zs u s) (X Y : Int) (h0 : 0 ≤ Y) (h1 : Y < 18446744073709551616) :
    Ch (((w.setCell ⟨g, 2, none⟩ (.int .u64 X)).drew).setCell ⟨g, 2, none⟩ (.int .u64 Y)) g L c zs u Y ∧ w.grownBy (((w.setCell ⟨g, 2, none⟩ (.int .u64 X)).drew).setCell ⟨g, 2, none⟩ (.int .u64 Y)) (some g) := by
  have hc : ∀ o u, ¬ o = 2 → w.cell? ⟨g, o, none⟩ = some u → (((w.setCell ⟨g, 2, none⟩ (.int .u64 X)).drew).setCell ⟨g, 2, none⟩ (.int .u64 Y)).cell? ⟨g, o, none⟩ = some u := fun o u ho hu => by
    rw [cell_far' ho]
    exact (cell_far' (w := w) ho).trans hu
  refine ⟨⟨by simpa [World.setCell] using h.lt, hc 0 _ (by omega) h.load, hc 1 _ (by omega) h.used, World.cell?_setCell_same _ _ _ (World.cell?_setCell_same w _ (.int .u64 X) h.stir), h.u0, h.u1, h0, h1, fun o => by simpa using h.free o, ?_, h.bd, h.len⟩, ?_⟩
  · exact h.rd.keep fun b o hb => (cell_far (by omega)).trans (cell_far (w := w) (by omega))
  · exact grownBy_trans (only_drewN (grownBy_setCell w g 2 (.int .u64 X)) 1) (grownBy_setCell _ _ _ _)
/-- The call has left the chute a chute, and done nothing else. -/
def Pulled (g : Nat) (L : Option Addr) (c : Nat) (zs : List Int) (W w' : World) : Prop := (∃ u s, Ch w' g L c zs u s) ∧ W.grownBy w' (some g)
set_option maxRecDepth 100000 in
set_option maxHeartbeats 1000000 in
theorem mix_any (g : Nat) (L : Option Addr) (c : Nat) (zs : List Int) (u s b : Int) (w : World) (hC : Ch w g L c zs u s) (b0 : 0 ≤ b) (b1 : b ≤ 255) :
    Calls Try.prog 107 #[.pointer (some ⟨g, 0, none⟩), .int .u8 b] w fun e w' => e = .returned (.tuple #[]) ∧ (∃ s', Ch w' g L c zs u s') ∧ w.grownBy w' (some g) := by
  have c0 := hC.load
  have c1 := hC.used
  have c2 := hC.stir
  have f2 := hC.free 2
  have s0 := hC.s0
  have gl := hC.lt
  go_enter Try.func107, Try.ntmps107
  go_wp2_with fail
  go_still_tail 22, (by kernel_rfl)
  go_upto_region 1 with (fail)
  generalize (bits BinOp.xor IntKind.u64 s (IntKind.u64.wrap (IntKind.u64.wrap (b + 11400714819323198485 + IntKind.u64.wrap (s * 64)) + s / 4))) = X
  have d2 : ((w.setCell ⟨g, 2, none⟩ (.int .u64 X)).drew).cell? ⟨g, 2, none⟩ = some (.int .u64 X) := World.cell?_setCell_same _ _ _ c2
  have d3 : ((w.setCell ⟨g, 2, none⟩ (.int .u64 X)).drew).frozen? ⟨g, 2, none⟩ = false := by simpa using f2
  have HS := Lib.hid (fun Y => hC.stir2 X Y)
  generalize (w.setCell ⟨g, 2, none⟩ (.int .u64 X)).drew = W2 at d2 d3 HS ⊢
  go_wp2_with fail
  obtain ⟨y0, y1⟩ := wrapU_bd (IntKind.u64.wrap (X * 2685821657736338717) + 1)
  obtain ⟨h1, h2⟩ := HS.out _ y0 y1
  go_end0
  exact ⟨rfl, ⟨_, h1⟩, h2⟩
theorem Ch.drewN {w : World} {g : Nat} {L : Option Addr} {c : Nat} {zs : List Int} {u s : Int} (h : Ch w g L c zs u s) (n : Nat) : Ch (w.drewN n) g L c zs u s := ⟨h.lt, h.load, h.used, h.stir, h.u0, h.u1, h.s0, h.s1, h.free, h.rd, h.bd, h.len⟩
theorem Ch.next {w : World} {g : Nat} {L : Option Addr} {c : Nat} {zs : List Int} {u s : Int} (h : Ch w g L c zs u s) (v : Int) (h0 : 0 ≤ v) (h1 : v ≤ zs.length) : Ch (w.setCell ⟨g, 1, none⟩ (.int .i64 v)) g L c zs v s :=
  ⟨by simpa [World.setCell] using h.lt, (cell_far' (by omega)).trans h.load, World.cell?_setCell_same _ _ _ h.used, (cell_far' (by omega)).trans h.stir, h0, h1, h.s0, h.s1, fun o => by simpa using h.free o, h.rd.keep fun b o hb => cell_far (by omega), h.bd, h.len⟩
theorem Ch.byte {w : World} {g : Nat} {L : Option Addr} {c : Nat} {zs : List Int} {u s : Int} (h : Ch w g L c zs u s) {k : Nat} (hk : k < zs.length) : ∃ b off, L = some ⟨b, off, none⟩ ∧ w.cell? ⟨b, off + k, none⟩ = some (.int .u8 zs[k]) := by
  obtain ⟨b, off, e, hb, hc⟩ := h.rd.at_ (k := k) (by simpa [bytes] using hk)
  refine ⟨b, off, e, ?_⟩
  simpa [bytes] using hc
/-- The call pulls a number below n. -/
def PullPost (g : Nat) (L : Option Addr) (c : Nat) (zs : List Int) (n : Int) (W : World) (e : Ending) (w' : World) : Prop :=
  ∃ r : Int, e = .returned (.int .i64 r) ∧ (n < 2 → r = 0) ∧ (2 ≤ n → 0 ≤ r ∧ r < n) ∧ (∃ u s, Ch w' g L c zs u s) ∧ W.grownBy w' (some g)
theorem Ch.byte' {w : World} {g b off : Nat} {c : Nat} {zs : List Int} {u s : Int} (h : Ch w g (some ⟨b, off, none⟩) c zs u s) {k : Nat} (hk : k < zs.length) : w.cell? ⟨b, off + k, none⟩ = some (.int .u8 zs[k]) := by
  obtain ⟨b', off', e, hc⟩ := h.byte hk
  injection e with e
  injection e with e1 e2
  subst e1 e2
  exact hc
theorem mod_bd {a n : Int} (h : 2 ≤ n) : 0 ≤ a % n ∧ a % n < n := ⟨Int.emod_nonneg _ (by omega), Int.emod_lt_of_pos _ (by omega)⟩
set_option maxRecDepth 100000 in
set_option maxHeartbeats 4000000 in
theorem pull_any (g : Nat) (L : Option Addr) (c : Nat) (zs : List Int) (u s n : Int) (w : World) (hC : Ch w g L c zs u s) (hn : n ≤ 1000000000000) :
    Calls Try.prog 40 #[.pointer (some ⟨g, 0, none⟩), .int .i64 n] w (PullPost g L c zs n w) := by
  obtain ⟨k, rfl⟩ := Int.eq_ofNat_of_zero_le hC.u0
  have c0 := hC.load
  have c1 := hC.used
  have c2 := hC.stir
  have gl := hC.lt
  have u1 := hC.u1
  have s0 := hC.s0
  have s1 := hC.s1
  have f1 := hC.free 1
  have hl := hC.len
  by_cases h2 : n < 2
  · go_enter Try.func40, Try.ntmps40
    go_wp2_with fail
    go_ret
    exact ⟨0, rfl, fun _ => rfl, fun h => by omega, ⟨_, s, hC⟩, grownBy_self _ _⟩
  · by_cases hz : zs.length = 0
    · have hz' : ((zs.length : Int) == 0) = true := by rw [beq_iff_eq]; omega
      have HZ := Lib.hid hz
      clear hz
      go_enter Try.func40, Try.ntmps40
      go_wp2_with fail
      go_ret
      exact ⟨0, rfl, fun _ => rfl, fun h => by omega, ⟨_, s, hC⟩, grownBy_self _ _⟩
    · have hz' : ((zs.length : Int) == 0) = false := by rw [beq_eq_false_iff_ne]; omega
      have hzp : 0 < zs.length := by omega
      have HZ := Lib.hid hz
      clear hz
      have k0 : (0 : Int) ≤ (k : Int) := by omega
      have k1 : (0 : Int) ≤ (k : Int) + 1 := by omega
      by_cases h34 : (k : Int) + 1 < zs.length ∧ 256 < n
      · obtain ⟨h3, h4⟩ := h34
        obtain ⟨b, off, rfl, x1⟩ := hC.byte (k := k) (by omega)
        have x2 := hC.byte' (k := k + 1) (by omega)
        obtain ⟨a0, a1⟩ := hC.bd zs[k] (List.getElem_mem _)
        obtain ⟨a2, a3⟩ := hC.bd zs[k + 1] (List.getElem_mem _)
        generalize zs[k]'(by omega) = y1 at *
        generalize zs[k + 1]'(by omega) = y2 at *
        have hk2 : (k : Int) < zs.length := by omega
        go_enter Try.func40, Try.ntmps40
        go_wp2_with fail
        have q1 : IntKind.i64.wrap ((k : Int) + 1) = (k : Int) + 1 := IntWalk.i64_in _ (by omega)
        have q3 : ((k : Int) + 1).toNat = k + 1 := by omega
        go_quiet (fail)
        go_wp2_with fail
        go_quiet (fail)
        clear q1 q3
        go_wp2_with fail
        refine (mix_any g _ c zs _ s y1 _ ((hC.drewN _).next ((k : Int) + 2) (by omega) (by omega)) a0 a1).mono ?_
        rintro e w1 ⟨rfl, ⟨s1', hC1⟩, hg1⟩
        go_wp2_with fail
        refine (mix_any g _ c zs _ s1' y2 _ hC1 a2 a3).mono ?_
        rintro e w2 ⟨rfl, ⟨s2', hC2⟩, hg2⟩
        go_wp2_with fail
        go_ret
        obtain ⟨m0, m1⟩ := mod_bd (a := 256 * y1 + y2) (show 2 ≤ n by omega)
        exact ⟨_, rfl, fun h => by omega, fun _ => ⟨m0, m1⟩, ⟨_, s2', hC2⟩, grownBy_trans (grownBy_trans (grownBy_trans (only_drewN (grownBy_self _ _) _) (grownBy_setCell _ _ _ _)) hg1) hg2⟩
      · by_cases hkl : (k : Int) < zs.length
        · obtain ⟨b, off, rfl, x1⟩ := hC.byte (k := k) (by omega)
          obtain ⟨a0, a1⟩ := hC.bd zs[k] (List.getElem_mem _)
          generalize zs[k]'(by omega) = y1 at *
          by_cases h3 : (k : Int) + 1 < zs.length
          · have h4 : ¬ 256 < n := fun h => h34 ⟨h3, h⟩
            clear h34
            go_enter Try.func40, Try.ntmps40
            go_wp2_with fail
            have q1 : IntKind.i64.wrap ((k : Int) + 1) = (k : Int) + 1 := IntWalk.i64_in _ (by omega)
            go_quiet (fail)
            clear q1
            go_wp2_with fail
            go_quiet (fail)
            go_wp2_with fail
            go_quiet (fail)
            go_wp2_with fail
            refine (mix_any g _ c zs _ s y1 _ ((hC.drewN _).next ((k : Int) + 1) (by omega) (by omega)) a0 a1).mono ?_
            rintro e w1 ⟨rfl, ⟨s1', hC1⟩, hg1⟩
            go_wp2_with fail
            go_ret
            obtain ⟨m0, m1⟩ := mod_bd (a := y1) (show 2 ≤ n by omega)
            exact ⟨_, rfl, fun h => by omega, fun _ => ⟨m0, m1⟩, ⟨_, s1', hC1⟩, grownBy_trans (grownBy_trans (only_drewN (grownBy_self _ _) _) (grownBy_setCell _ _ _ _)) hg1⟩
          · have h3' : decide ((k : Int) + 1 < zs.length) = false := decide_eq_false h3
            clear h34
            go_enter Try.func40, Try.ntmps40
            go_wp2_with fail
            have q1 : IntKind.i64.wrap ((k : Int) + 1) = (k : Int) + 1 := IntWalk.i64_in _ (by omega)
            go_quiet (fail)
            clear q1
            go_wp2_with fail
            go_quiet (fail)
            go_wp2_with fail
            go_quiet (fail)
            go_wp2_with fail
            refine (mix_any g _ c zs _ s y1 _ ((hC.drewN _).next ((k : Int) + 1) (by omega) (by omega)) a0 a1).mono ?_
            rintro e w1 ⟨rfl, ⟨s1', hC1⟩, hg1⟩
            go_wp2_with fail
            go_ret
            obtain ⟨m0, m1⟩ := mod_bd (a := y1) (show 2 ≤ n by omega)
            exact ⟨_, rfl, fun h => by omega, fun _ => ⟨m0, m1⟩, ⟨_, s1', hC1⟩, grownBy_trans (grownBy_trans (only_drewN (grownBy_self _ _) _) (grownBy_setCell _ _ _ _)) hg1⟩
        · have h3 : ¬ (k : Int) + 1 < zs.length := by omega
          have h3' : decide ((k : Int) + 1 < zs.length) = false := decide_eq_false h3
          obtain ⟨m0, m1⟩ : 0 ≤ s % zs.length ∧ s % zs.length < zs.length := ⟨Int.emod_nonneg _ (by omega), Int.emod_lt_of_pos _ (by omega)⟩
          have hmz : (s % (zs.length : Int)).toNat < zs.length := by omega
          obtain ⟨b, off, rfl, x1⟩ := hC.byte (k := (s % (zs.length : Int)).toNat) hmz
          obtain ⟨a0, a1⟩ := hC.bd zs[(s % (zs.length : Int)).toNat] (List.getElem_mem _)
          generalize zs[(s % (zs.length : Int)).toNat]'hmz = y1 at *
          clear h34
          go_enter Try.func40, Try.ntmps40
          go_wp2_with fail
          have q1 : IntKind.i64.wrap ((k : Int) + 1) = (k : Int) + 1 := IntWalk.i64_in _ (by omega)
          go_quiet (fail)
          clear q1
          go_wp2_with fail
          go_quiet (fail)
          go_wp2_with fail
          generalize hW2 : World.drewN (World.drewN w _) _ = W2
          have hC2 : Ch W2 g (some ⟨b, off, none⟩) c zs k s := by rw [← hW2]; exact (hC.drewN _).drewN _
          have hg2 : w.grownBy W2 (some g) := by rw [← hW2]; exact only_drewN (only_drewN (grownBy_self _ _) _) _
          have x2 : W2.cell? ⟨b, off + (s % (zs.length : Int)).toNat, none⟩ = some (.int .u8 y1) := by rw [← hW2]; exact x1
          clear hW2 c0 c1 c2 x1
          have c0 := hC2.load
          have c2 := hC2.stir
          have hl2 : (zs.length : Int) ≤ 140737488355328 := by omega
          have hl3 : (0 : Int) < zs.length := by omega
          have t1 : IntKind.u64.wrap (zs.length : Int) = (zs.length : Int) := wrapU_in (by omega) (by omega)
          have t2 : s.tmod (zs.length : Int) = s % (zs.length : Int) := Int.tmod_eq_emod_of_nonneg s0
          have t3 : IntKind.u64.wrap (s % (zs.length : Int)) = s % (zs.length : Int) := wrapU_in m0 (by omega)
          have t4 : IntKind.i64.wrap (s % (zs.length : Int)) = s % (zs.length : Int) := IntWalk.i64_in _ (by omega)
          have hzn : ¬ zs = [] := by rintro rfl; simp at hzp
          go_still_tail 19, (by kernel_rfl)
          go_wp2_with fail
          refine (mix_any g _ c zs _ s y1 _ (hC2.drewN 1) a0 a1).mono ?_
          rintro e w1 ⟨rfl, ⟨s1', hC1⟩, hg1⟩
          have e2 := hC1.stir
          have e0 := hC1.s0
          have e1 := hC1.s1
          have gl1 := hC1.lt
          clear t1 t2 t3 t4 c0 c2 hC2 x2
          have t1 : IntKind.u64.wrap n = n := wrapU_in (by omega) (by omega)
          have n0 : (0 : Int) < n := by omega
          have nn : ¬ n = 0 := by omega
          go_wp2_with fail
          go_ret
          obtain ⟨j0, j1⟩ := mod_bd (a := s1' / 1048576) (show 2 ≤ n by omega)
          refine ⟨_, rfl, fun h => by omega, fun _ => ?_, ⟨_, s1', hC1⟩, grownBy_trans hg2 (grownBy_trans (only_drewN (grownBy_self _ _) 1) hg1)⟩
          rw [IntWalk.wrap64_in _ (by omega)]
          exact ⟨j0, j1⟩
/-- The call makes a chute. -/
def FillPost (L : Option Addr) (c : Nat) (zs : List Int) (W : World) (e : Ending) (w' : World) : Prop :=
  ∃ g, e = .returned (.pointer (some ⟨g, 0, none⟩)) ∧ W.heap.size ≤ g ∧ Ch w' g L c zs 0 8191 ∧ Below W.heap.size W w'
/-- A list of bytes that came in. -/
structure Bytes (w : World) (L : Option Addr) (zs : List Int) : Prop where
  rd : Rd w w.heap.size L (bytes zs)
  bd : ∀ z ∈ zs, 0 ≤ z ∧ z ≤ 255
  len : zs.length ≤ 140737488355328
theorem Bytes.next {w w' : World} {L : Option Addr} {zs : List Int} (h : Bytes w L zs) (hb : Below w.heap.size w w') : Bytes w' L zs := ⟨h.rd.next hb, h.bd, h.len⟩
theorem fill_any (L : Option Addr) (c : Nat) (zs : List Int) (w : World) (hz : Bytes w L zs) :
    Calls Try.prog 35 #[.slice L zs.length c] w (FillPost L c zs w) := by
  go_enter Try.func35, Try.ntmps35
  go_wp2_with fail
  go_ret
  refine ⟨w.heap.size, rfl, Nat.le_refl _, ⟨by simp, by simp, by simp, by simp, by omega, by omega, by omega, by omega, fun o => by simp, ?_, hz.bd, hz.len⟩, by go_grown⟩
  exact hz.rd.keep fun b o hb => World.cell?_alloc_lt _ _ ⟨b, o, none⟩ hb
/-- The call pulls a number from lo to hi. -/
def BetweenPost (g : Nat) (L : Option Addr) (c : Nat) (zs : List Int) (lo hi : Int) (W : World) (e : Ending) (w' : World) : Prop :=
  ∃ r : Int, e = .returned (.int .i64 r) ∧ lo ≤ r ∧ r ≤ hi ∧ (∃ u s, Ch w' g L c zs u s) ∧ W.grownBy w' (some g)
theorem between_any (g : Nat) (L : Option Addr) (c : Nat) (zs : List Int) (u s lo hi : Int) (w : World) (hC : Ch w g L c zs u s) (h0 : -1000000000 ≤ lo) (h1 : lo ≤ hi) (h2 : hi ≤ 1000000000) :
    Calls Try.prog 45 #[.pointer (some ⟨g, 0, none⟩), .int .i64 lo, .int .i64 hi] w (BetweenPost g L c zs lo hi w) := by
  go_enter Try.func45, Try.ntmps45
  go_wp2_with fail
  refine (pull_any g L c zs u s _ w hC (by omega)).mono ?_
  rintro e w1 ⟨r, rfl, r1, r2, hC1, hg1⟩
  have hr : 0 ≤ r ∧ r ≤ hi - lo := by omega
  obtain ⟨q1, q2⟩ := hr
  have R1 := Lib.hid r1
  have R2 := Lib.hid r2
  have HC := Lib.hid hC1
  clear r1 r2 hC1
  go_wp2_with fail
  go_ret
  exact ⟨_, rfl, by omega, by omega, HC.out, hg1⟩
end Go.Proofs.Ytfojjecnmfkcfaa
namespace Go.Proofs.Ytfojjecnmfkcfaa
open Go.RowKit
set_option linter.unusedVariables false
def ChE (w : World) (g : Nat) (L : Option Addr) (c : Nat) (zs : List Int) : Prop := ∃ u s, Ch w g L c zs u s
theorem pullE_any (g : Nat) (L : Option Addr) (c : Nat) (zs : List Int) (n : Int) (w : World) (hC : ChE w g L c zs) (hn : n ≤ 1000000000000) :
    Calls Try.prog 40 #[.pointer (some ⟨g, 0, none⟩), .int .i64 n] w (PullPost g L c zs n w) := by
  obtain ⟨u, s, h⟩ := hC
  exact pull_any g L c zs u s n w h hn
theorem betweenE_any (g : Nat) (L : Option Addr) (c : Nat) (zs : List Int) (lo hi : Int) (w : World) (hC : ChE w g L c zs) (h0 : -1000000000 ≤ lo) (h1 : lo ≤ hi) (h2 : hi ≤ 1000000000) :
    Calls Try.prog 45 #[.pointer (some ⟨g, 0, none⟩), .int .i64 lo, .int .i64 hi] w (BetweenPost g L c zs lo hi w) := by
  obtain ⟨u, s, h⟩ := hC
  exact between_any g L c zs u s lo hi w h h0 h1 h2
/-- A chute stays through what writes no block below its own end. -/
theorem ChE.keep {w w' : World} {g : Nat} {L : Option Addr} {c : Nat} {zs : List Int} (h : ChE w g L c zs) (hz : w.heap.size ≤ w'.heap.size) (hk : ∀ b, b ≤ g → w'.heap[b]? = w.heap[b]?) : ChE w' g L c zs := by
  obtain ⟨u, s, h⟩ := h
  have hc : ∀ b o, b ≤ g → w'.cell? ⟨b, o, none⟩ = w.cell? ⟨b, o, none⟩ := fun b o hb => World.cell?_of_block (a := ⟨b, o, none⟩) (hk b hb)
  exact ⟨u, s, Nat.lt_of_lt_of_le h.lt hz, (hc g 0 (Nat.le_refl _)).trans h.load, (hc g 1 (Nat.le_refl _)).trans h.used, (hc g 2 (Nat.le_refl _)).trans h.stir, h.u0, h.u1, h.s0, h.s1,
    fun o => (World.frozen?_of_block (a := ⟨g, o, none⟩) (hk g (Nat.le_refl _))).trans (h.free o), h.rd.keep fun b o hb => hc b o (Nat.le_of_lt hb), h.bd, h.len⟩
theorem ChE.below {w w' : World} {g : Nat} {L : Option Addr} {c : Nat} {zs : List Int} (h : ChE w g L c zs) (hb : Below w.heap.size w w') : ChE w' g L c zs := by
  have hg : g < w.heap.size := by obtain ⟨u, s, h⟩ := h; exact h.lt
  exact h.keep hb.size fun b hb' => hb.block b (by omega)
theorem ChE.lt {w : World} {g : Nat} {L : Option Addr} {c : Nat} {zs : List Int} (h : ChE w g L c zs) : g < w.heap.size := by obtain ⟨u, s, h⟩ := h; exact h.lt
theorem grown_new {a w w' : World} {g x : Nat} (h : a.grownBy w (some g)) (hg : w.grownBy w' (some x)) (hx : a.heap.size ≤ x) : a.grownBy w' (some g) :=
  ⟨hg.os.trans h.os, hg.tape.trans h.tape, hg.output.trans h.output, Nat.le_trans h.size hg.size, fun k hk hn => (hg.block k (Nat.lt_of_lt_of_le hk h.size) (by intro e; injection e; omega)).trans (h.block k hk hn)⟩
theorem grown_row {a w w' : World} {g : Nat} {row : Option Nat} (h : a.grownBy w (some g)) (hg : w.grownBy w' row) (hx : ∀ x, row = some x → a.heap.size ≤ x) : a.grownBy w' (some g) :=
  ⟨hg.os.trans h.os, hg.tape.trans h.tape, hg.output.trans h.output, Nat.le_trans h.size hg.size, fun k hk hn => (hg.block k (Nat.lt_of_lt_of_le hk h.size) (by intro e; have := hx k e.symm; omega)).trans (h.block k hk hn)⟩
/-- Where 'MadeBill' stands: the bill lies in block B7, its houses so far are a row of the call's own. -/
structure MS (W wr : World) (g : Nat) (L : Option Addr) (c : Nat) (zs : List Int) (B7 : Nat) (p : Int) (t : List (Int × Int × Int)) (v : Value) : Prop where
  own : wr.ownsRow (B7 + 1) 65 3 v t.length (trips t)
  ch : ChE wr g L c zs
  gr : W.grownBy wr (some g)
  gW : g < W.heap.size
  bW : W.heap.size < B7
  lz : B7 < wr.heap.size
  b0 : wr.cell? ⟨B7, 0, none⟩ = some (.int .i64 p)
  b1 : wr.cell? ⟨B7, 1, none⟩ = some v
  bf : wr.frozen? ⟨B7, 1, none⟩ = false
  r0 : wr.cell? ⟨W.heap.size, 0, none⟩ = some (.int .i64 0)
  r1 : wr.cell? ⟨W.heap.size, 1, none⟩ = some (.slice none 0 0)
  f0 : wr.frozen? ⟨W.heap.size, 0, none⟩ = false
  f1 : wr.frozen? ⟨W.heap.size, 1, none⟩ = false
section
variable {W wr w1 : World} {g : Nat} {L : Option Addr} {c : Nat} {zs : List Int} {B7 : Nat} {p : Int} {t : List (Int × Int × Int)} {v : Value}
/-- What writes one block that is none of these. -/
theorem MS.row (h : MS W wr g L c zs B7 p t v) {row : Option Nat} (hg : wr.grownBy w1 row) (hC : ChE w1 g L c zs) (h1 : row ≠ some B7) (h2 : row ≠ some W.heap.size) (h3 : ∀ x, row = some x → x = g ∨ W.heap.size ≤ x) (h4 : v.ownBlock = none ∨ v.ownBlock ≠ row) : MS W w1 g L c zs B7 p t v := by
  have hz := hg.size
  have k1 := h.lz
  have k2 := h.bW
  have c1 : ∀ o u, wr.cell? ⟨B7, o, none⟩ = some u → w1.cell? ⟨B7, o, none⟩ = some u := fun o u hu => (World.grownBy.cell_far hg ⟨B7, o, none⟩ k1 (Ne.symm h1)).trans hu
  have c2 : ∀ o u, wr.cell? ⟨W.heap.size, o, none⟩ = some u → w1.cell? ⟨W.heap.size, o, none⟩ = some u := fun o u hu => (World.grownBy.cell_far hg ⟨W.heap.size, o, none⟩ (by show W.heap.size < _; omega) (Ne.symm h2)).trans hu
  refine ⟨h.own.kept hg h4, hC, ?_, h.gW, h.bW, by omega, c1 _ _ h.b0, c1 _ _ h.b1, (World.grownBy.frozen_far hg ⟨B7, 1, none⟩ k1 (Ne.symm h1)).trans h.bf, c2 _ _ h.r0, c2 _ _ h.r1,
    (World.grownBy.frozen_far hg ⟨W.heap.size, 0, none⟩ (by show W.heap.size < _; omega) (Ne.symm h2)).trans h.f0, (World.grownBy.frozen_far hg ⟨W.heap.size, 1, none⟩ (by show W.heap.size < _; omega) (Ne.symm h2)).trans h.f1⟩
  have hr := h.gr
  refine ⟨hg.os.trans hr.os, hg.tape.trans hr.tape, hg.output.trans hr.output, Nat.le_trans hr.size hz, fun k hk hn => (hg.block k (Nat.lt_of_lt_of_le hk hr.size) ?_).trans (hr.block k hk hn)⟩
  intro e
  rcases h3 k e.symm with h5 | h5
  · exact hn (by rw [h5])
  · omega
theorem MS.pull (h : MS W wr g L c zs B7 p t v) (hg : wr.grownBy w1 (some g)) (hC : ChE w1 g L c zs) : MS W w1 g L c zs B7 p t v := by
  have k1 := h.gW
  have k2 := h.bW
  refine h.row hg hC (by intro e; injection e; omega) (by intro e; injection e; omega) (fun x e => .inl (by injection e with e; exact e.symm)) (.inr fun e => ?_)
  have := (h.own.lt g e).1
  omega
theorem MS.alloc (h : MS W wr g L c zs B7 p t v) (o : Obj) : MS W (wr.alloc o) g L c zs B7 p t v := by
  have hb := below_new wr o
  have hC := h.ch.below hb
  refine h.row (row := none) (only_allocg' o) hC (by intro e; cases e) (by intro e; cases e) (fun x e => by cases e) ?_
  cases hv : v.ownBlock with
  | none => exact .inl rfl
  | some x => exact .inr (by intro e; cases e)
where
  only_allocg' (o : Obj) : wr.grownBy (wr.alloc o) none := grown_below (grownBy_self wr none) (below_new wr o)
theorem MS.set (h : MS W wr g L c zs B7 p t v) {b o : Nat} {u : Value} (h1 : B7 < b) (h2 : v.ownBlock ≠ some b) : MS W (wr.setCell ⟨b, o, none⟩ u) g L c zs B7 p t v := by
  have k1 := h.gW
  have k2 := h.bW
  refine h.row (grownBy_setCell wr b o u) (h.ch.keep (by simp [World.setCell]) fun k hk => heap_far (by have := h.gW; omega)) (by intro e; injection e; omega) (by intro e; injection e; omega) (fun x e => .inr (by injection e; omega)) (.inr h2)
theorem ChE.drewN {w : World} {g : Nat} {L : Option Addr} {c : Nat} {zs : List Int} (h : ChE w g L c zs) (n : Nat) : ChE (w.drewN n) g L c zs := by
  obtain ⟨u, s, h⟩ := h
  exact ⟨u, s, h.drewN n⟩
theorem MS.drewN (h : MS W wr g L c zs B7 p t v) (n : Nat) : MS W (wr.drewN n) g L c zs B7 p t v := ⟨h.own, h.ch.drewN n, only_drewN h.gr n, h.gW, h.bW, h.lz, h.b0, h.b1, h.bf, h.r0, h.r1, h.f0, h.f1⟩
/-- Behind the append, ahead of the store. -/
structure MSMid (W w1 : World) (g : Nat) (L : Option Addr) (c : Nat) (zs : List Int) (B7 : Nat) (p : Int) (t' : List (Int × Int × Int)) (v1 : Value) : Prop where
  o1 : ∃ u, w1.cell? ⟨B7, 1, none⟩ = some u
  of : w1.frozen? ⟨B7, 1, none⟩ = false
  st : MS W (w1.setCell ⟨B7, 1, none⟩ v1) g L c zs B7 p t' v1
theorem trips_append (t : List (Int × Int × Int)) (x : Int × Int × Int) : trips (t ++ [x]) = trips t ++ [.int .i64 x.1, .int .i64 x.2.1, .int .i64 x.2.2] := by
  unfold trips; rw [List.flatMap_append]; simp
theorem MS.app (h : MS W wr g L c zs B7 p t v) {v1 : Value} {x : Int × Int × Int} (ho : w1.ownsRow (B7 + 1) 65 3 v1 (t.length + 1) (trips t ++ [.int .i64 x.1, .int .i64 x.2.1, .int .i64 x.2.2])) (hg : wr.grownBy w1 v.ownBlock) : MSMid W w1 g L c zs B7 p (t ++ [x]) v1 := by
  have k1 := h.gW
  have k2 := h.bW
  have k3 := h.lz
  have hz := hg.size
  have hne : ∀ b, b < B7 + 1 → some b ≠ v.ownBlock := fun b hb e => by have := (h.own.lt b e.symm).1; omega
  have cc : ∀ b o u, b < B7 + 1 → wr.cell? ⟨b, o, none⟩ = some u → w1.cell? ⟨b, o, none⟩ = some u := fun b o u hb hu => (World.grownBy.cell_far hg ⟨b, o, none⟩ (by show b < _; omega) (hne b hb)).trans hu
  have ff : ∀ b o u, b < B7 + 1 → wr.frozen? ⟨b, o, none⟩ = u → w1.frozen? ⟨b, o, none⟩ = u := fun b o u hb hu => (World.grownBy.frozen_far hg ⟨b, o, none⟩ (by show b < _; omega) (hne b hb)).trans hu
  have hC : ChE w1 g L c zs := h.ch.keep hz fun k hk => hg.block k (by omega) (hne k (by omega))
  have hgr : W.grownBy w1 (some g) := grown_row h.gr hg fun x e => by have := (h.own.lt x e).1; omega
  refine ⟨⟨_, cc _ _ _ (by omega) h.b1⟩, ff _ _ _ (by omega) h.bf, ?_⟩
  refine ⟨?_, hC.keep (by simp [World.setCell]) fun k hk => heap_far (by omega), grown_new hgr (grownBy_setCell w1 B7 1 v1) (by omega), h.gW, h.bW, by simp [World.setCell]; omega, ?_, ?_, ?_, ?_, ?_, ?_, ?_⟩
  · rw [trips_append, List.length_append]
    exact own_far ho (by omega)
  · rw [cell_far' (by omega)]; exact cc _ _ _ (by omega) h.b0
  · exact World.cell?_setCell_same _ _ _ (cc _ _ _ (by omega) h.b1)
  · simpa using ff _ _ _ (by omega) h.bf
  · rw [cell_far (by omega)]; exact cc _ _ _ (by omega) h.r0
  · rw [cell_far (by omega)]; exact cc _ _ _ (by omega) h.r1
  · simpa using ff _ _ _ (by omega) h.f0
  · simpa using ff _ _ _ (by omega) h.f1
end
/-- What is true of the houses made so far. -/
structure MB (p q : Int) (t : List (Int × Int × Int)) : Prop where
  all : ∀ x ∈ t, 0 ≤ x.1 ∧ x.1 ≤ 39 ∧ 0 ≤ x.2.1 ∧ x.2.1 ≤ 5 ∧ x.2.1 ≤ x.2.2 ∧ x.2.2 ≤ x.2.1 + q
  least : leastSum t ≤ p
theorem trips_setlast (t : List (Int × Int × Int)) (x : Int × Int × Int) (z : Int) : (trips (t ++ [x])).set (t.length * 3 + 2) (.int .i64 z) = trips (t ++ [(x.1, x.2.1, z)]) := by
  rw [trips_append, trips_append, List.set_append_right (h := by rw [trips_length]; omega), trips_length, show t.length * 3 + 2 - t.length * 3 = 2 by omega]
  rfl
theorem leastSum_snoc (t : List (Int × Int × Int)) (x : Int × Int × Int) : leastSum (t ++ [x]) = leastSum t + x.2.1 := by simp [leastSum]
theorem mostSum_snoc (t : List (Int × Int × Int)) (x : Int × Int × Int) : mostSum (t ++ [x]) = mostSum t + x.2.2 := by simp [mostSum]
theorem sum_bd {f : Int × Int × Int → Int} {M : Int} : ∀ (t : List (Int × Int × Int)), (∀ x ∈ t, 0 ≤ f x ∧ f x ≤ M) → 0 ≤ (t.map f).sum ∧ (t.map f).sum ≤ M * t.length
  | [], _ => by simp
  | x :: t, h => by
    obtain ⟨a, b⟩ := sum_bd t fun y hy => h y (List.mem_cons_of_mem _ hy)
    obtain ⟨c, d⟩ := h x List.mem_cons_self
    simp only [List.map_cons, List.sum_cons, List.length_cons]
    have e : M * ((t.length + 1 : Nat) : Int) = M * t.length + M := by push_cast; rw [Int.mul_add, Int.mul_one]
    rw [e]; omega
theorem MB.bd {p q : Int} {t : List (Int × Int × Int)} (h : MB p q t) (hq : 0 ≤ q ∧ q ≤ 400) : 0 ≤ leastSum t ∧ leastSum t ≤ 5 * t.length ∧ 0 ≤ mostSum t ∧ mostSum t ≤ 405 * t.length := by
  obtain ⟨a, b⟩ := sum_bd (f := (·.2.1)) (M := 5) t fun x hx => by have := h.all x hx; omega
  obtain ⟨c, d⟩ := sum_bd (f := (·.2.2)) (M := 405) t fun x hx => by have := h.all x hx; omega
  exact ⟨a, b, c, d⟩
theorem MB.snoc {p q : Int} {t : List (Int × Int × Int)} (h : MB p q t) {x : Int × Int × Int} (h1 : 0 ≤ x.1 ∧ x.1 ≤ 39 ∧ 0 ≤ x.2.1 ∧ x.2.1 ≤ 5 ∧ x.2.1 ≤ x.2.2 ∧ x.2.2 ≤ x.2.1 + q) (h2 : leastSum t + x.2.1 ≤ p) : MB p q (t ++ [x]) := by
  refine ⟨fun y hy => ?_, by rw [leastSum_snoc]; exact h2⟩
  rcases List.mem_append.1 hy with h3 | h3
  · exact h.all y h3
  · obtain rfl := List.mem_singleton.1 h3
    exact h1
/-- A bill that is made of numbers. -/
structure MadeB (p pence houses : Int) (hs : List (Int × Int × Int)) : Prop where
  p0 : 0 ≤ p
  p1 : p ≤ pence
  l0 : 1 ≤ hs.length
  l1 : (hs.length : Int) ≤ houses
  all : ∀ x ∈ hs, 0 ≤ x.1 ∧ x.1 ≤ 39 ∧ 0 ≤ x.2.1 ∧ x.2.1 ≤ x.2.2 ∧ x.2.2 ≤ 500
  least : leastSum hs ≤ p
  most : p ≤ mostSum hs
def MadePost (g : Nat) (L : Option Addr) (c : Nat) (zs : List Int) (pence houses : Int) (W : World) (e : Ending) (w' : World) : Prop :=
  ∃ p hs v, e = .returned (.agg #[.int .i64 p, v]) ∧ MadeB p pence houses hs ∧ w'.ownsRow W.heap.size 65 3 v hs.length (trips hs) ∧ ChE w' g L c zs ∧ W.grownBy w' (some g)
theorem keepP {W3 w w' : World} {g h : Nat} {o : Nat} {u : Value} {L : Option Addr} {c : Nat} {zs : List Int} (hne : h ≠ g) (hlt : h < W3.heap.size) (hS : w.cell? ⟨h, o, none⟩ = some u ∧ ChE w g L c zs ∧ W3.grownBy w (some g)) (hg : w.grownBy w' (some g)) (hC : ChE w' g L c zs) :
    w'.cell? ⟨h, o, none⟩ = some u ∧ ChE w' g L c zs ∧ W3.grownBy w' (some g) :=
  ⟨(World.grownBy.cell_far hg ⟨h, o, none⟩ (Nat.lt_of_lt_of_le hlt hS.2.2.size) (by intro e; injection e with e; exact hne e)).trans hS.1, hC, grownBy_trans hS.2.2 hg⟩
theorem ms_start {w w1 : World} {g : Nat} {L : Option Addr} {c : Nat} {zs : List Int} {p : Int} {t1 t2 : TypeId} (gl : g < w.heap.size) (hg : (w.alloc (.cells #[.int .i64 0, .slice none 0 0] t1)).grownBy w1 (some g)) (hC : ChE w1 g L c zs) :
    MS w (w1.alloc (.cells #[.int .i64 p, .slice none 0 0] t2)) g L c zs w1.heap.size p [] (.slice none 0 0) := by
  have hz := hg.size
  simp at hz
  have hb := below_new w1 (.cells #[.int .i64 p, .slice none 0 0] t2)
  have r0 : w1.cell? ⟨w.heap.size, 0, none⟩ = some (.int .i64 0) := (World.grownBy.cell_far hg ⟨w.heap.size, 0, none⟩ (by simp) (by intro e; injection e with e; have : w.heap.size = g := e; omega)).trans (news_new w [.int .i64 0, .slice none 0 0] t1 rfl 0 _ rfl)
  have r1 : w1.cell? ⟨w.heap.size, 1, none⟩ = some (.slice none 0 0) := (World.grownBy.cell_far hg ⟨w.heap.size, 1, none⟩ (by simp) (by intro e; injection e with e; have : w.heap.size = g := e; omega)).trans (news_new w [.int .i64 0, .slice none 0 0] t1 rfl 1 _ rfl)
  have ff : ∀ o, w1.frozen? ⟨w.heap.size, o, none⟩ = false := fun o => (World.grownBy.frozen_far hg ⟨w.heap.size, o, none⟩ (by simp) (by intro e; injection e with e; have : w.heap.size = g := e; omega)).trans (by simp)
  have hg0 : w.grownBy w1 (some g) := grownBy_trans (only_allocg (grownBy_self _ _) _) hg
  refine ⟨World.ownsRow_nil _ _ _ _, hC.below hb, only_allocg hg0 _, gl, by omega, by simp, news_new w1 [.int .i64 p, .slice none 0 0] t2 rfl 0 _ rfl, news_new w1 [.int .i64 p, .slice none 0 0] t2 rfl 1 _ rfl, by simp, hb.at_ (by omega) r0, hb.at_ (by omega) r1, ?_, ?_⟩
  · exact (hb.frozen (p := ⟨w.heap.size, 0, none⟩) (by show w.heap.size < _; omega)).trans (ff 0)
  · exact (hb.frozen (p := ⟨w.heap.size, 1, none⟩) (by show w.heap.size < _; omega)).trans (ff 1)
set_option maxRecDepth 100000 in
set_option maxHeartbeats 4000000 in
theorem madeBill_any (g : Nat) (L : Option Addr) (c : Nat) (zs : List Int) (pence houses : Int) (w : World) (hC : ChE w g L c zs) (hp : 2 ≤ pence ∧ pence ≤ 400) (hh : 1 ≤ houses ∧ houses ≤ 6) :
    Calls Try.prog 34 #[.pointer (some ⟨g, 0, none⟩), .int .i64 pence, .int .i64 houses] w (MadePost g L c zs pence houses w) := by
  obtain ⟨hp1, hp2⟩ := hp
  obtain ⟨hh1, hh2⟩ := hh
  obtain ⟨i0, hi, hz0, hz1, hz2⟩ := info_parts infoHouse
  have gl := hC.lt
  go_enter Try.func34, Try.ntmps34
  go_wp2_with fail
  refine (pullE_any g L c zs _ _ (hC.below (below_new _ _)) (by omega)).mono ?_
  rintro e w1 ⟨p, rfl, _, hpr, hC1, hg1⟩
  obtain ⟨p0, p1⟩ := hpr (by omega)
  have M0 := Lib.hid (ms_start (p := p) (t2 := 39) gl hg1 hC1)
  clear hpr hC1 hg1 hC
  go_wp2_with fail
  refine (betweenE_any g L c zs 1 houses _ M0.out.ch (by omega) hh1 (by omega)).mono ?_
  rintro e w2 ⟨nn, rfl, n0, n1, hC2, hg2⟩
  have M1 := Lib.hid (M0.out.pull hg2 hC2)
  have HB0 : Hid (MB p pence []) := ⟨fun x hx => (by cases hx), by simpa [leastSum] using p0⟩
  have hB7 : w.heap.size < w1.heap.size := M0.out.bW
  generalize w1.heap.size = B7 at M1 hB7 ⊢
  clear M0 hC2 hg2
  go_wp2_with fail
  go_loopw [8, 9, 20] (fun ls ms iv wr => ∃ (t : List (Int × Int × Int)) (v : Value), iv = .int .i64 t.length ∧ (t.length : Int) ≤ nn ∧ ls = .int .i64 (leastSum t) ∧ ms = .int .i64 (mostSum t) ∧ Hid (MS w wr g L c zs B7 p t v) ∧ Hid (MB p pence t)) (fun _ _ i _ => nn.toNat - (intOf i).toNat)
  case atStart => exact ⟨[], _, rfl, by simp; omega, rfl, rfl, M1, HB0⟩
  case round =>
    obtain ⟨t, v, rfl, ht, rfl, rfl, HM, HB⟩ := hrel
    obtain ⟨s1, s2, s3, s4⟩ := HB.out.bd (show 0 ≤ pence ∧ pence ≤ 400 by omega)
    have s5 := HB.out.least
    have ht6 : (t.length : Int) ≤ 6 := by omega
    by_cases hlt : (t.length : Int) < nn
    · go_wp2_with fail
      refine (pullE_any g L c zs _ _ HM.out.ch (by omega)).mono ?_
      rintro e w3 ⟨v3, rfl, _, hv3, hC3, hg3⟩
      obtain ⟨v30, v31⟩ := hv3 (by omega)
      have HM3 := Lib.hid (HM.out.pull hg3 hC3)
      clear hv3 hC3 hg3
      go_wp2_with fail
      refine (pullE_any g L c zs _ _ HM3.out.ch (by omega)).mono ?_
      rintro e w4 ⟨l4, rfl, _, hl4, hC4, hg4⟩
      obtain ⟨l40, l41⟩ := hl4 (by omega)
      have HM4 := Lib.hid (HM3.out.pull hg4 hC4)
      clear hl4 hC4 hg4 HM3 HM
      have b0 := HM4.out.b0
      have lz := HM4.out.lz
      go_upto_region 7 with (fail)
      generalize hle : (if (if leastSum t < p then p - leastSum t else 0) < l4 then (if leastSum t < p then p - leastSum t else 0) else l4) = le
      have hle0 : 0 ≤ le ∧ le ≤ 5 ∧ leastSum t + le ≤ p := by
        by_cases q1 : leastSum t < p
        · rw [if_pos q1] at hle
          by_cases q2 : p - leastSum t < l4
          · rw [if_pos q2] at hle; omega
          · rw [if_neg q2] at hle; omega
        · rw [if_neg q1] at hle
          by_cases q2 : (0 : Int) < l4
          · rw [if_pos q2] at hle; omega
          · rw [if_neg q2] at hle; omega
      obtain ⟨le0, le1, le2⟩ := hle0
      clear hle
      generalize (if leastSum t < p then p - leastSum t else 0) = mx
      obtain ⟨W3, hW3⟩ : ∃ x, x = w4.alloc (.cells #[.int .i64 v3, .int .i64 le, .int .i64 0] 65) := ⟨_, rfl⟩
      rw [← hW3]
      have HM5 : Hid (MS w W3 g L c zs B7 p t v) := by rw [hW3]; exact HM4.out.alloc _
      have x0 : W3.cell? ⟨w4.heap.size, 0, none⟩ = some (.int .i64 v3) := by rw [hW3]; exact news_new w4 [.int .i64 v3, .int .i64 le, .int .i64 0] 65 rfl 0 _ rfl
      have x1 : W3.cell? ⟨w4.heap.size, 1, none⟩ = some (.int .i64 le) := by rw [hW3]; exact news_new w4 [.int .i64 v3, .int .i64 le, .int .i64 0] 65 rfl 1 _ rfl
      have x2 : W3.cell? ⟨w4.heap.size, 2, none⟩ = some (.int .i64 0) := by rw [hW3]; exact news_new w4 [.int .i64 v3, .int .i64 le, .int .i64 0] 65 rfl 2 _ rfl
      have xf : W3.frozen? ⟨w4.heap.size, 2, none⟩ = false := by rw [hW3]; simp
      have xl : w4.heap.size < W3.heap.size := by rw [hW3]; simp
      have hvh : v.ownBlock ≠ some w4.heap.size := fun e => by have := (HM4.out.own.lt _ e).2; omega
      have hB7h : B7 < w4.heap.size := HM4.out.lz
      generalize w4.heap.size = h at x0 x1 x2 xf xl hvh hB7h ⊢
      clear hW3 HM4 b0 lz
      have hC5 := HM5.out.ch
      have hgW := HM5.out.gW
      have hne : h ≠ g := by omega
      have gd : W3.grownBy W3.drew (some g) := only_drewN (grownBy_self _ _) 1
      have hng : some h ≠ some g := fun e => hne (by injection e)
      go_region_held3 (fun w' => w'.cell? ⟨h, 1, none⟩ = some (.int .i64 le) ∧ ChE w' g L c zs) (first | exact ⟨x1, hC5.below ((Below.refl _ _).drew)⟩ | exact ⟨y1, hC6⟩ | exact ⟨(cell_far' (by omega)).trans y1, ChE.keep hC6 (by simp [World.setCell]) (fun k hk => heap_far (by omega))⟩)
        ((go_at_call 40; refine (pullE_any g L c zs _ _ (And.right (by assumption)) (by omega)).mono ?_; rintro e w6 ⟨r6, rfl, _, hr6, hC6, hg6⟩; obtain ⟨r60, r61⟩ := hr6 (by omega); clear hr6; have G6 := Lib.hid (grownBy_trans gd hg6); have y0 := (World.grownBy.cell_far G6.out ⟨h, 0, none⟩ xl hng).trans x0; have y1 := (World.grownBy.cell_far G6.out ⟨h, 1, none⟩ xl hng).trans x1; have y2 := (World.grownBy.cell_far G6.out ⟨h, 2, none⟩ xl hng).trans x2; have yf := (World.grownBy.frozen_far G6.out ⟨h, 2, none⟩ xl hng).trans xf))
      rw [show IntKind.i64.wrap (le + r6) = le + r6 from IntWalk.i64_in _ (by omega)]
      have yl : h < w6.heap.size := Nat.lt_of_lt_of_le xl G6.out.size
      have HM6 : Hid (MS w (w6.setCell ⟨h, 2, none⟩ (.int .i64 (le + r6))) g L c zs B7 p t v) := (HM5.out.pull G6.out hC6).set hB7h hvh
      have z0 : (w6.setCell ⟨h, 2, none⟩ (.int .i64 (le + r6))).cell? ⟨h, 0, none⟩ = some (.int .i64 v3) := (cell_far' (by omega)).trans y0
      have z1 : (w6.setCell ⟨h, 2, none⟩ (.int .i64 (le + r6))).cell? ⟨h, 1, none⟩ = some (.int .i64 le) := (cell_far' (by omega)).trans y1
      have z2 : (w6.setCell ⟨h, 2, none⟩ (.int .i64 (le + r6))).cell? ⟨h, 2, none⟩ = some (.int .i64 (le + r6)) := World.cell?_setCell_same _ _ _ y2
      have zl : h < (w6.setCell ⟨h, 2, none⟩ (.int .i64 (le + r6))).heap.size := by simpa [World.setCell] using yl
      generalize w6.setCell ⟨h, 2, none⟩ (.int .i64 (le + r6)) = W7 at HM6 z0 z1 z2 zl ⊢
      clear y0 y1 y2 yf yl G6 hg6 hC6 x0 x1 x2 xf xl hC5 HM5 gd
      have b1 := HM6.out.b1
      have b0 := HM6.out.b0
      have bf := HM6.out.bf
      have lz := HM6.out.lz
      have HB2 := Lib.hid (HB.out.snoc (x := (v3, le, le + r6)) (show 0 ≤ v3 ∧ v3 ≤ 39 ∧ 0 ≤ le ∧ le ≤ 5 ∧ le ≤ le + r6 ∧ le + r6 ≤ le + pence by omega) le2)
      have HA := Lib.hid (HM6.out.alloc (.cells #[.int .i64 v3, .int .i64 le, .int .i64 (le + r6)] 65))
      go_wp2_with (at_builtin; refine wpList_append_own_at _ rfl _ _ 37 rfl (B7 + 1) 65 i0 _ 3 24 Try.underlying37 hi hz0 hz1 hz2 rfl (by decide) _ _ _ rfl HA.out.own ⟨W7.heap.size, 0, none⟩ 1 1 [.int .i64 v3, .int .i64 le, .int .i64 (le + r6)] rfl rfl (news_new _ _ _ rfl) (by simp [Value.oneCell']) (by simp only [maxLen]; omega) (by omega) (by simp; omega) ?_; intro v1 w8 hown1 hgrow1 _ hat1; obtain ⟨B1, cc1, rfl, _, _⟩ := own_slice hown1; have M := HA.out.app (x := (v3, le, le + r6)) hown1 hgrow1; obtain ⟨u1, m1⟩ := M.o1; have m2 := M.of; have M2 := Lib.hid M.st; have HG := Lib.hid hgrow1; clear M hown1 hgrow1 hat1)
      have q0 := (World.grownBy.cell_far HG.out ⟨h, 1, none⟩ (by simp; omega) (Ne.symm hvh)).trans ((below_new W7 _).at_ zl z1)
      have q1 := (World.grownBy.cell_far HG.out ⟨h, 2, none⟩ (by simp; omega) (Ne.symm hvh)).trans ((below_new W7 _).at_ zl z2)
      have hBh : ¬ h = B7 := by omega
      have hBh' : ¬ B7 = h := by omega
      have e1 : IntKind.i64.wrap (leastSum t + le) = leastSum t + le := IntWalk.i64_in _ (by omega)
      have e2 : IntKind.i64.wrap (mostSum t + (le + r6)) = mostSum t + (le + r6) := IntWalk.i64_in _ (by omega)
      go_quiet (fail)
      clear e1 e2
      go_wp2_with fail
      go_roundw
      case rel =>
        refine ⟨t ++ [(v3, le, le + r6)], .slice B1 (t.length + 1) cc1, ?_, ?_, ?_, ?_, M2.out.drewN _, HB2⟩
        · rw [List.length_append]; go_num
        · rw [List.length_append]; simp; omega
        · rw [leastSum_snoc]
        · rw [mostSum_snoc]
      case measure => simp [intOf]; omega
    · have hlen : (t.length : Int) = nn := by omega
      have hl1 : 1 ≤ t.length := by omega
      have b0 := HM.out.b0
      have b1 := HM.out.b1
      have bf := HM.out.bf
      have r0 := HM.out.r0
      have r1 := HM.out.r1
      have f0 := HM.out.f0
      have f1 := HM.out.f1
      have lz := HM.out.lz
      have lw := HM.out.bW
      have lw' : w.heap.size < wr.heap.size := by omega
      have nBw : ¬ B7 = w.heap.size := by omega
      have nwB : ¬ w.heap.size = B7 := by omega
      by_cases hm : mostSum t < p
      · obtain ⟨t0, x, rfl⟩ : ∃ t0 x, t = t0 ++ [x] := ⟨t.dropLast, t.getLast (by intro h; rw [h] at hl1; simp at hl1), (List.dropLast_concat_getLast _).symm⟩
        obtain ⟨gg, cap, rfl, hgg1, hgg2⟩ := HM.out.own.form (by omega)
        have hown := HM.out.own
        have hn : (t0 ++ [x]).length = t0.length + 1 := by simp
        rw [hn] at hown b1 ht hlen ht6 hlt ⊢
        have cx := hown.cellAt (t0.length * 3 + 2) (by omega)
        have fx := hown.frozenAt (t0.length * 3 + 2)
        rw [trips_append, List.getElem?_append_right (by rw [trips_length]; omega), trips_length, show t0.length * 3 + 2 - t0.length * 3 = 2 by omega] at cx
        have cx' : wr.cell? ⟨gg, t0.length * 3 + 2, none⟩ = some (.int .i64 x.2.2) := cx
        obtain ⟨a1, a2, a3, a4, a5, a6⟩ := HB.out.all x (by simp)
        have hgw : ¬ gg = w.heap.size := by omega
        have hgw' : ¬ w.heap.size = gg := by omega
        have hgB : ¬ gg = B7 := by omega
        have hgB' : ¬ B7 = gg := by omega
        have HO := Lib.hid hown
        clear cx hown hl1
        have e0 : ((t0.length + 1 : Nat) : Int) = (t0.length : Int) + 1 := by omega
        rw [e0] at *
        clear e0
        have HLN := Lib.hid hlen
        clear hlen
        go_upto_region 13 with (fail)
        have e1 : IntKind.i64.wrap (p - mostSum (t0 ++ [x])) = p - mostSum (t0 ++ [x]) := IntWalk.i64_in _ (by omega)
        have e2 : IntKind.i64.wrap (x.2.2 + (p - mostSum (t0 ++ [x]))) = x.2.2 + (p - mostSum (t0 ++ [x])) := IntWalk.i64_in _ (by omega)
        go_still_tail 11, (by kernel_rfl)
        clear e1 e2
        go_wp2_with fail
        have hl2 : (t0.length : Int) + 1 = nn := HLN.out
        have hst := (HO.out.stored (t0.length * 3 + 2) (.int .i64 (x.2.2 + (p - mostSum (t0 ++ [x]))))).1
        rw [trips_setlast] at hst
        have hHM := HM.out
        refine bodyPost_ret (v := .agg #[.int .i64 p, .slice (some ⟨gg, 0, none⟩) (t0.length + 1) cap]) (by simp [results, Try.results34, go_sem, r0, r1]) rfl ⟨p, t0 ++ [(x.1, x.2.1, x.2.2 + (p - mostSum (t0 ++ [x])))], _, rfl, ?_, ?_, ?_, ?_⟩
        · have hb0 := HB.out.bd (show 0 ≤ pence ∧ pence ≤ 400 by omega)
          have e1 := mostSum_snoc t0 x
          have e2 := leastSum_snoc t0 x
          have e5 := HB.out.least
          have t00 : 0 ≤ mostSum t0 := (sum_bd (f := (·.2.2)) (M := 405) t0 fun y hy => by have := HB.out.all y (by simp [hy]); omega).1
          refine ⟨p0, by omega, by simp, by simp; omega, fun y hy => ?_, ?_, ?_⟩
          · rcases List.mem_append.1 hy with h3 | h3
            · have := HB.out.all y (by simp [h3]); omega
            · obtain rfl := List.mem_singleton.1 h3
              show 0 ≤ x.1 ∧ x.1 ≤ 39 ∧ 0 ≤ x.2.1 ∧ x.2.1 ≤ x.2.2 + (p - mostSum (t0 ++ [x])) ∧ x.2.2 + (p - mostSum (t0 ++ [x])) ≤ 500
              omega
          · rw [leastSum_snoc]
            show leastSum t0 + x.2.1 ≤ p
            omega
          · rw [mostSum_snoc]
            show p ≤ mostSum t0 + (x.2.2 + (p - mostSum (t0 ++ [x])))
            omega
        · have e3 : (t0 ++ [(x.1, x.2.1, x.2.2 + (p - mostSum (t0 ++ [x])))]).length = t0.length + 1 := by simp
          rw [e3]
          exact ((own_far (own_far hst (by omega)) (by omega)).base_ (by omega))
        · exact (((hHM.ch.keep (by simp [World.setCell]) fun k hk => heap_far (by omega)).keep (by simp [World.setCell]) fun k hk => heap_far (by omega)).keep (by simp [World.setCell]) fun k hk => heap_far (by omega)).drewN 1
        · exact only_drewN (grown_new (grown_new (grown_new hHM.gr (grownBy_setCell _ _ _ _) (by omega)) (grownBy_setCell _ _ _ _) (Nat.le_refl _)) (grownBy_setCell _ _ _ _) (Nat.le_refl _)) 1
      · obtain ⟨A, ca, rfl, _, _⟩ := own_slice HM.out.own
        go_wp2_with fail
        refine bodyPost_ret (v := .agg #[.int .i64 p, .slice A t.length ca]) (by simp [results, Try.results34, go_sem, r0, r1]) rfl ⟨p, t, _, rfl, ?_, ?_, ?_, ?_⟩
        · exact ⟨p0, by omega, hl1, by omega, fun x hx => by have := HB.out.all x hx; omega, s5, by omega⟩
        · exact (own_far (own_far HM.out.own (by omega)) (by omega)).base_ (by omega)
        · exact (HM.out.ch.keep (by simp [World.setCell]) fun k hk => heap_far (by omega)).keep (by simp [World.setCell]) fun k hk => heap_far (by omega)
        · exact grown_new (grown_new HM.out.gr (grownBy_setCell _ _ _ _) (Nat.le_refl _)) (grownBy_setCell _ _ _ _) (Nat.le_refl _)
end Go.Proofs.Ytfojjecnmfkcfaa
namespace Go.Proofs.Ytfojjecnmfkcfaa
open Go.RowKit
set_option linter.unusedVariables false
theorem ckBill_made {p pence houses : Int} {hs : List (Int × Int × Int)} (h : MadeB p pence houses hs) (h1 : pence ≤ 500) (h2 : houses ≤ 6) : ckBill p hs = 0 := by
  have l0 := h.l0
  have l1 := h.l1
  have p0 := h.p0
  have p1 := h.p1
  have e1 : inB p 0 500 = true := inB_iff.2 (by omega)
  have e2 : inB hs.length 1 6 = true := inB_iff.2 (by omega)
  have e3 : hs.any houseOkP = false := List.any_eq_false.2 fun x hx => by
    have := h.all x hx
    simp [houseOkP, houseOk, inB]; omega
  unfold ckBill
  rw [if_neg (by simp [e1]), if_neg (by simp [e2]), e3]
  rfl
theorem bidOk_made {p pence houses : Int} {hs : List (Int × Int × Int)} (h : MadeB p pence houses hs) (h1 : pence ≤ 500) (h2 : houses ≤ 6) : bidOk hs p = true :=
  (bidOk_iff (housesOk_of (ckBill_made h h1 h2)) p).2 ⟨h.least, h.most⟩
theorem outCode_fit {p : Int} {hs : List (Int × Int × Int)} (hc : ckBill p hs = 0) {qs : List Int} (hf : fitsN hs qs) (hs' : qs.sum = p) : outCode p hs qs = 0 := by
  have ho := housesOk_of hc
  have h1 : sharesCode p hs.length qs = 0 := by
    unfold sharesCode
    have h2 : qs.any shareOkP = false := List.any_eq_false.2 fun z hz => by
      have := fitsN_bd ho hf z hz
      simp [shareOkP, inB]; omega
    rw [if_neg (by simp [hf.1]), h2, if_neg (by simp), if_neg (by simp [hs'])]
  have h3 : limB hs qs hs.length = true := by
    unfold limB
    refine List.all_eq_true.2 fun i hi => ?_
    have := hf.2 i (List.mem_range.1 hi)
    exact inB_iff.2 this
  unfold outCode
  rw [if_pos hc, if_pos h1, if_pos h3]
theorem outL_fit {p : Int} {hs : List (Int × Int × Int)} (hc : ckBill p hs = 0) {qs : List Int} (hf : fitsN hs qs) (hs' : qs.sum = p) : outL p hs qs = outRows hs qs hs.length := by
  unfold outL; rw [if_pos (outCode_fit hc hf hs')]
theorem mem_outRows {hs : List (Int × Int × Int)} {qs : List Int} {x : Int × Int} : x ∈ outRows hs qs hs.length ↔ ∃ i k : Nat, i < hs.length ∧ k < hs.length ∧ outB hs qs i k = true ∧ x = ((i : Int), (k : Int)) := by
  unfold outRows outRow
  simp only [List.mem_flatMap, List.mem_range, List.mem_map, List.mem_filter]
  constructor
  · rintro ⟨i, hi, k, ⟨hk, ho⟩, rfl⟩
    exact ⟨i, k, hi, hk, ho, rfl⟩
  · rintro ⟨i, k, hi, hk, ho, rfl⟩
    exact ⟨i, hi, k, ⟨hk, ho⟩, rfl⟩
theorem outRows_nil {hs : List (Int × Int × Int)} {qs : List Int} (h : outRows hs qs hs.length = []) (i k : Nat) (hi : i < hs.length) (hk : k < hs.length) : outB hs qs i k = false := by
  cases hc : outB hs qs i k with
  | false => rfl
  | true =>
    have : ((i : Int), (k : Int)) ∈ outRows hs qs hs.length := mem_outRows.2 ⟨i, k, hi, hk, hc, rfl⟩
    rw [h] at this; cases this
theorem outRows_still {hs : List (Int × Int × Int)} {qs : List Int} (h : Still hs qs) : outRows hs qs hs.length = [] := by
  cases hc : outRows hs qs hs.length with
  | nil => rfl
  | cons x l =>
    have hx : x ∈ outRows hs qs hs.length := by rw [hc]; exact List.mem_cons_self
    obtain ⟨i, k, hi, hk, ho, _⟩ := mem_outRows.1 hx
    obtain ⟨hne, h1, h2, h3⟩ := outB_of ho
    exact absurd h3 (h i k hi hk hne h1 h2)
set_option maxHeartbeats 400000 in
/-- 'total': what is added. -/
theorem total10_any (A : Option Addr) (c : Nat) (qs : List Int) (w : World) (hr : Rd w w.heap.size A (ints qs)) (hl : qs.length ≤ 1000) (hz : ∀ z ∈ qs, -1000000000000 ≤ z ∧ z ≤ 1000000000000) :
    Calls Try.prog 38 #[.slice A qs.length c] w fun e w' => e = .returned (.int .i64 qs.sum) ∧ w' = w := by
  go_enter Try.func38, Try.ntmps38
  go_wp2
  go_loop [3, 5, 8] (fun n x i => ∃ k : Nat, k ≤ qs.length ∧ i = .int .i64 k ∧ n = .int .i64 (qs.take k).sum) (fun _ _ i => qs.length - (intOf i).toNat)
  case atStart => exact ⟨0, Nat.zero_le _, rfl, by simp⟩
  case round =>
    obtain ⟨k, hk, rfl, rfl⟩ := hrel
    have hb := sum_le 1000000000000 (qs.take k) fun z h => hz z (List.mem_of_mem_take h)
    have hlen : ((qs.take k).length : Int) ≤ 1000 := by simp; omega
    have hlo : -1000000000000000 ≤ (qs.take k).sum := by omega
    have hhi : (qs.take k).sum ≤ 1000000000000000 := by omega
    clear hb hlen
    by_cases hlt : k < qs.length
    · obtain ⟨b, off, rfl, hbb, hcell⟩ := hr.at_ (k := k) (by rw [ints_length]; exact hlt)
      rw [ints_get] at hcell
      have hv := hz qs[k] (List.getElem_mem _)
      have hv1 := hv.1
      have hv2 := hv.2
      clear hv
      have HS := Lib.hid (take_sum qs k hlt)
      go_wp2
      go_round
      case rel => exact ⟨k + 1, by omega, by go_num, by rw [HS.out]⟩
      case measure => simp [intOf]; omega
    · go_wp2
      go_ret
      exact ⟨ret_int (by rw [List.take_of_length_le (by omega)]), rfl⟩
/-- Where the law stands behind 'moved': a bill in block b5, its houses below, a chute in block g above it, the shares by bids above that, and a row that is written. -/
structure BS (W0 wr : World) (b5 g bm : Nat) (A : Option Addr) (cA : Nat) (p : Int) (hs : List (Int × Int × Int)) (L : Option Addr) (c : Nat) (zs : List Int) (Bb : Option Addr) (cB : Nat) (B qs : List Int) : Prop where
  x0 : wr.cell? ⟨b5, 0, none⟩ = some (.int .i64 p)
  x1 : wr.cell? ⟨b5, 1, none⟩ = some (.slice A hs.length cA)
  rA : Rd wr b5 A (trips hs)
  ch : ChE wr g L c zs
  rB : RdI wr (g + 1) bm Bb (ints B)
  lst : Lst wr bm qs
  bl : Below W0.heap.size W0 wr
  o1 : b5 < g
  o2 : g < bm
  o3 : W0.heap.size ≤ g
section
variable {W0 wr w1 : World} {b5 g bm : Nat} {A : Option Addr} {cA : Nat} {p : Int} {hs : List (Int × Int × Int)} {L : Option Addr} {c : Nat} {zs : List Int} {Bb : Option Addr} {cB : Nat} {B qs : List Int}
theorem BS.keep (h : BS W0 wr b5 g bm A cA p hs L c zs Bb cB B qs) {row : Option Nat} (hg : wr.grownBy w1 row) (hr : row = none ∨ row = some g) (hC : ChE w1 g L c zs) : BS W0 w1 b5 g bm A cA p hs L c zs Bb cB B qs := by
  have o1 := h.o1
  have o2 := h.o2
  have o3 := h.o3
  have hlt := h.lst.lt
  have hb : ∀ b, b < wr.heap.size → b ≠ g → w1.heap[b]? = wr.heap[b]? := fun b hb hn => hg.block b hb (by rcases hr with rfl | rfl <;> intro e <;> cases e; exact hn rfl)
  have hc : ∀ b o, b < wr.heap.size → b ≠ g → w1.cell? ⟨b, o, none⟩ = wr.cell? ⟨b, o, none⟩ := fun b o h1 h2 => World.cell?_of_block (a := ⟨b, o, none⟩) (hb b h1 h2)
  refine ⟨(hc b5 0 (by omega) (by omega)).trans h.x0, (hc b5 1 (by omega) (by omega)).trans h.x1, h.rA.keep fun b o hlt' => hc b o (by omega) (by omega), hC, h.rB.keep fun b h1 h2 => hb b (by omega) (by omega), ?_, ?_, h.o1, h.o2, h.o3⟩
  · exact ⟨Nat.lt_of_lt_of_le hlt hg.size, fun j u hu => (hc bm j hlt (by omega)).trans (h.lst.cells j u hu), fun o => (World.frozen?_of_block (a := ⟨bm, o, none⟩) (hb bm hlt (by omega))).trans (h.lst.free o)⟩
  · exact h.bl.grown hg h.bl.size fun k hk => by rcases hr with rfl | rfl <;> cases hk; exact o3
theorem BS.pull (h : BS W0 wr b5 g bm A cA p hs L c zs Bb cB B qs) (hg : wr.grownBy w1 (some g)) (hC : ChE w1 g L c zs) : BS W0 w1 b5 g bm A cA p hs L c zs Bb cB B qs := h.keep hg (.inr rfl) hC
theorem BS.below (h : BS W0 wr b5 g bm A cA p hs L c zs Bb cB B qs) (hb : Below wr.heap.size wr w1) : BS W0 w1 b5 g bm A cA p hs L c zs Bb cB B qs := h.keep (grown_below (grownBy_self wr none) hb) (.inl rfl) (h.ch.below hb)
theorem BS.drewN (h : BS W0 wr b5 g bm A cA p hs L c zs Bb cB B qs) (n : Nat) : BS W0 (wr.drewN n) b5 g bm A cA p hs L c zs Bb cB B qs := h.keep (only_drewN (grownBy_self wr none) n) (.inl rfl) (h.ch.drewN n)
theorem BS.put (h : BS W0 wr b5 g bm A cA p hs L c zs Bb cB B qs) {j : Nat} (hj : j < qs.length) (v : Int) : BS W0 (wr.setCell ⟨bm, j, none⟩ (.int .i64 v)) b5 g bm A cA p hs L c zs Bb cB B (qs.set j v) := by
  have o1 := h.o1
  have o2 := h.o2
  have o3 := h.o3
  exact ⟨(cell_far (by omega)).trans h.x0, (cell_far (by omega)).trans h.x1, h.rA.keep fun b o hb => cell_far (by omega), h.ch.keep (by simp [World.setCell]) fun k hk => heap_far (by omega), h.rB.keep fun b h1 h2 => heap_far (by omega), h.lst.put hj v,
    h.bl.setCell (p := ⟨bm, j, none⟩) (by show W0.heap.size ≤ bm; omega) _, h.o1, h.o2, h.o3⟩
end
end Go.Proofs.Ytfojjecnmfkcfaa
namespace Go.Proofs.Ytfojjecnmfkcfaa
open Go.ChangeShapes Go.WideShapes Go.ChangeAt Go.RowKit Go.Joins
set_option linter.unusedVariables false
variable {H : Type} {enc : TypeId × Value → H} {W : World} {base : Nat} {spare : Nat → Bool} {held : Bool}
theorem bytesU8 : Try.prog.bytesOf 5 = 1 := by kernel_rfl
theorem cellsU8 : Try.prog.cellsOf 5 = 1 := by kernel_rfl
set_option maxRecDepth 100000 in
theorem open_bytes {r : Reach} {b0 : Nat} {v : Value} {d : DataW H} {p : List MemPlace} (hv : Value.okWide Try.prog W r b0 54 v) (h : DataW.Trod enc Try.prog W base spare held 54 v d p) :
    ∃ (A : Option Addr) (c : Nat) (zs : List Int), v = .slice A zs.length c ∧ Rd W W.heap.size A (bytes zs) ∧ (∀ z ∈ zs, 0 ≤ z ∧ z ≤ 255) ∧ (d = .nil ∧ zs = [] ∨ ∃ es sp, d = .slice es sp ∧ zs.length ≤ es.length + sp.length) := by
  obtain ⟨a0, len, cap, rfl⟩ := okWide_slice Try.underlying54 hv
  obtain ⟨fuel, hf⟩ := h
  rcases open_ints Try.underlying54 Try.underlying5 cellsU8 hf with ⟨h1, h2⟩ | ⟨a, n, c, zs, h1, _, hn, _, hl, h2, hc, hw⟩
  · simp only [Value.cells, List.cons.injEq, and_true] at h1
    rw [h1]
    injection h2 with h2 h3
    exact ⟨none, 0, [], rfl, Rd.nil, fun z hz => (by cases hz), .inl ⟨h2, rfl⟩⟩
  · simp only [Value.cells, List.cons.injEq, and_true] at h1
    rw [h1]
    injection h2 with h2 h3
    have hle : n ≤ zs.length := by rw [hl]; split <;> omega
    have hlen : (zs.take n).length = n := by rw [List.length_take]; omega
    refine ⟨some a, c, zs.take n, by rw [hlen], fun hne => ?_, fun z hz => ?_, .inr ⟨_, _, h2, ?_⟩⟩
    · have h0 : 0 < n := by
        rcases Nat.eq_zero_or_pos n with e | e
        · subst e; simp [bytes] at hne
        · exact e
      obtain ⟨e1, e2⟩ := add_spot (hc 0 (by omega))
      refine ⟨a.block, a.off, by rw [← e1], e2, fun j u hu => ?_⟩
      have hj : j < n := by
        have h9 := (List.getElem?_eq_some_iff.1 hu).1
        unfold bytes at h9
        rw [List.length_map, hlen] at h9
        exact h9
      have hcj := hc j (by omega)
      rw [e1, addr_add] at hcj
      rw [hcj]
      have hu2 : (bytes (zs.take n))[j]? = some (.int .u8 (zs.getD j 0)) := by
        simp only [bytes, List.getElem?_map, List.getElem?_take, hj, if_true]
        rw [List.getElem?_eq_getElem (show j < zs.length by omega), List.getD_eq_getElem?_getD, List.getElem?_eq_getElem (show j < zs.length by omega)]; rfl
      rw [hu2] at hu
      exact hu
    · have := hw z (List.mem_of_mem_take hz)
      simp [Lit.wf, IntKind.min, IntKind.max, IntKind.signed, IntKind.bits] at this
      omega
    · simp [lits]
theorem bytes_of {A : Option Addr} {zs : List Int} {d : DataW H} (hr : Rd W W.heap.size A (bytes zs)) (hb : ∀ z ∈ zs, 0 ≤ z ∧ z ≤ 255) (hd : d = .nil ∧ zs = [] ∨ ∃ es sp, d = .slice es sp ∧ zs.length ≤ es.length + sp.length)
    (hs : ∀ es sp, d = .slice es sp → (es.length + sp.length) * Try.prog.bytesOf 5 ≤ reachBytes) : Bytes W A zs := by
  refine ⟨hr, hb, ?_⟩
  rcases hd with ⟨_, rfl⟩ | ⟨es, sp, e, hl⟩
  · simp
  · have := hs es sp e
    rw [bytesU8, reachBytes] at this
    omega
end Go.Proofs.Ytfojjecnmfkcfaa
