/- The rests of charges on a day: a map by charges. -/
import Derived.Test.YtfojjecnmfkcfaaPaid
import Derived.Maps.OwnOps
import Derived.Maps.Views
import Derived.WalkArith
namespace Go.Proofs.Ytfojjecnmfkcfaa
open Go.RowKit Go.Maps
set_option linter.unusedVariables false
/-- What is left of payments behind the first k charges. -/
def leftK (cs : List (Int × Int)) (day p : Int) : Nat → Int
  | 0 => p
  | k + 1 => if (cs.getD k (0, 0)).1 ≤ day then leftK cs day p k - (if (cs.getD k (0, 0)).2 < leftK cs day p k then (cs.getD k (0, 0)).2 else leftK cs day p k) else leftK cs day p k
/-- The rest of charge i. -/
def restOf (cs : List (Int × Int)) (day p : Int) (i : Nat) : Int :=
  if i < cs.length ∧ (cs.getD i (0, 0)).1 ≤ day then (cs.getD i (0, 0)).2 - (if (cs.getD i (0, 0)).2 < leftK cs day p i then (cs.getD i (0, 0)).2 else leftK cs day p i) else 0
def restD (cs : List (Int × Int)) (day p : Int) : Nat → DataW Nat
  | 0 => .map []
  | k + 1 => if (cs.getD k (0, 0)).1 ≤ day then (restD cs day p k).put (.int .i64 k) (.lit (.int .i64 ((cs.getD k (0, 0)).2 - (if (cs.getD k (0, 0)).2 < leftK cs day p k then (cs.getD k (0, 0)).2 else leftK cs day p k)))) else restD cs day p k
theorem leftK_bd {cs : List (Int × Int)} {day p : Int} (h0 : 0 ≤ p) (hc : ∀ e ∈ cs, 0 ≤ e.1 ∧ e.1 ≤ 400 ∧ 1 ≤ e.2 ∧ e.2 ≤ 10000) : ∀ k, 0 ≤ leftK cs day p k ∧ leftK cs day p k ≤ p
  | 0 => ⟨h0, Int.le_refl _⟩
  | k + 1 => by
    have ih := leftK_bd (day := day) h0 hc k
    have hg : 0 ≤ (cs.getD k (0, 0)).2 := by
      by_cases hk : k < cs.length
      · have := hc cs[k] (List.getElem_mem _)
        rw [List.getD_eq_getElem?_getD, List.getElem?_eq_getElem hk]
        simp; omega
      · rw [List.getD_eq_getElem?_getD, List.getElem?_eq_none (by omega)]; simp
    simp only [leftK]
    by_cases h1 : (cs.getD k (0, 0)).1 ≤ day
    · rw [if_pos h1]
      by_cases h2 : (cs.getD k (0, 0)).2 < leftK cs day p k
      · rw [if_pos h2]; omega
      · rw [if_neg h2]; omega
    · rw [if_neg h1]; exact ih
theorem restD_isMap (cs : List (Int × Int)) (day p : Int) : ∀ k, IsMap (restD cs day p k)
  | 0 => isMap_empty
  | k + 1 => by
    have ih := restD_isMap cs day p k
    simp only [restD]
    by_cases h1 : (cs.getD k (0, 0)).1 ≤ day
    · rw [if_pos h1]
      obtain ⟨es, he⟩ := ih
      rw [he]
      exact ⟨_, rfl⟩
    · rw [if_neg h1]; exact ih
theorem restD_at (cs : List (Int × Int)) (day p : Int) (i : Nat) : ∀ k, k ≤ cs.length → (restD cs day p k).atKey (.int .i64 i) (.lit (.int .i64 0)) = .lit (.int .i64 (if i < k then restOf cs day p i else 0))
  | 0, _ => by simp [restD]; rfl
  | k + 1, hk => by
    have ih := restD_at cs day p i k (by omega)
    have key : WideAt.IsKeyLit (.int .i64 (i : Int)) := trivial
    simp only [restD]
    by_cases hd : (cs.getD k (0, 0)).1 ≤ day
    · rw [if_pos hd]
      by_cases hik : i = k
      · subst hik
        have hr : restOf cs day p i = (cs.getD i (0, 0)).2 - (if (cs.getD i (0, 0)).2 < leftK cs day p i then (cs.getD i (0, 0)).2 else leftK cs day p i) := by unfold restOf; rw [if_pos ⟨hk, hd⟩]
        rw [atKey_put_same (restD_isMap cs day p i) key, if_pos (Nat.lt_succ_self i), hr]
      · rw [atKey_put_other (by intro e; injection e; omega), ih]
        by_cases h1 : i < k
        · rw [if_pos h1, if_pos (by omega)]
        · rw [if_neg h1, if_neg (by omega)]
    · rw [if_neg hd, ih]
      by_cases hik : i = k
      · subst hik
        rw [if_neg (by omega), if_pos (by omega)]
        unfold restOf
        rw [if_neg (by rintro ⟨_, h⟩; exact hd h)]
      · by_cases h1 : i < k
        · rw [if_pos h1, if_pos (by omega)]
        · rw [if_neg h1, if_neg (by omega)]
theorem lawInt : Keyed Try.prog 3 := int_keyed Try.underlying3
theorem zeroInt (w : World) : (zeroValue 3).run Try.prog w = .ok (.int .i64 0) w := by kernel_rfl
/-- The map of rests, in a block of its own. -/
def RestMap (w : World) (b n : Nat) (D : DataW Nat) : Prop := w.ownsMap Try.prog 3 (plainElem Try.prog 3) b n D
def RestsTo (cs : List (Int × Int)) (day p : Int) (W : World) (e : Ending) (w' : World) : Prop :=
  ∃ b, e = .returned (.tuple #[.map (some b), .int .i64 (leftK cs day p cs.length)]) ∧ W.heap.size ≤ b ∧ RestMap w' b cs.length (restD cs day p cs.length) ∧ Below W.heap.size W w'
set_option maxRecDepth 100000 in
set_option maxHeartbeats 4000000 in
theorem rests_any (A B : Option Addr) (c d : Nat) (cs ps : List (Int × Int)) (g l day : Int) (w : World) (hA : Rd w w.heap.size A (pairs cs)) (hB : Rd w w.heap.size B (pairs ps)) (hl : cs.length ≤ 8) (hl2 : ps.length ≤ 8)
    (hc : ∀ e ∈ cs, 0 ≤ e.1 ∧ e.1 ≤ 400 ∧ 1 ≤ e.2 ∧ e.2 ≤ 10000) (hp : ∀ e ∈ ps, 0 ≤ e.1 ∧ e.1 ≤ 400 ∧ 1 ≤ e.2 ∧ e.2 ≤ 10000) :
    Calls Try.prog 128 #[accV A cs.length c B ps.length d g l, .int .i64 day] w (RestsTo cs day (uptoF ps day) w) := by
  have hmm := @run_makeMap Try.prog
  have hU : ∀ W, Below w.heap.size w W → Hid (Calls Try.prog 145 #[.slice B ps.length d, .int .i64 day] W fun e w' => e = .returned (.int .i64 (uptoF ps day)) ∧ Below W.heap.size W w') := fun W hW =>
    upto_any B d ps day W (hB.next hW) (by omega) (fun e he => by have := hp e he; omega)
  have hub := uptoF_bd (l := ps) (fun e he => by have := hp e he; omega) day
  have hlb := leftK_bd (cs := cs) (day := day) hub.1 hc
  have HLB := Lib.hid hlb
  clear hlb
  generalize uptoF ps day = u at *
  unfold accV
  obtain ⟨c0, c1, c2, c3⟩ := accBox w (.slice A cs.length c) (.slice B ps.length d) (.int .i64 g) (.int .i64 l) 76
  go_enter Try.func128, Try.ntmps128
  go_wp2_with fail
  obtain ⟨W2, hW2⟩ : ∃ W2, W2 = (w.alloc (.cells #[.slice A cs.length c, .slice B ps.length d, .int .i64 g, .int .i64 l] 76)).alloc (.map #[] 0) := ⟨_, rfl⟩
  rw [← hW2]
  have hm0 : RestMap W2 (w.heap.size + 1) 0 (.map []) := by
    rw [hW2]
    have := World.ownsMap_made (H := Nat) (w.alloc (.cells #[.slice A cs.length c, .slice B ps.length d, .int .i64 g, .int .i64 l] 76)) Try.prog 3 (plainElem Try.prog 3)
    have e : (w.alloc (.cells #[.slice A cs.length c, .slice B ps.length d, .int .i64 g, .int .i64 l] 76)).heap.size = w.heap.size + 1 := by simp
    rw [e] at this
    exact this
  have d0 : W2.cell? ⟨w.heap.size, 0, none⟩ = some (.slice A cs.length c) := by rw [hW2]; exact (World.cell?_alloc_lt _ _ ⟨w.heap.size, 0, none⟩ (by simp)).trans c0
  have k3 : Below w.heap.size w W2 := by rw [hW2]; go_grown
  have k4 : w.heap.size + 1 < W2.heap.size := by rw [hW2]; simp
  clear hW2 c0 c1 c2 c3
  refine ((hU _ k3).out).mono ?_
  rintro e w1 ⟨rfl, hbu⟩
  have hbw1 : Below w.heap.size w w1 := k3.trans (hbu.mono k3.size)
  have d0' := (hbu.cell (p := ⟨w.heap.size, 0, none⟩) (by show w.heap.size < W2.heap.size; omega)).trans d0
  have hm1 : RestMap w1 (w.heap.size + 1) 0 (.map []) := World.ownsMap.kept hm0 (row := none) ⟨hbu.os, hbu.tape, hbu.output, hbu.size, fun k hk _ => hbu.block k hk⟩ (by simp)
  go_wp2_with fail
  go_loopw [7, 8, 9, 10, 19] (fun pv _ _ _ i wr => ∃ k : Nat, k ≤ cs.length ∧ i = .int .i64 k ∧ pv = .int .i64 (leftK cs day u k) ∧ RestMap wr (w.heap.size + 1) k (restD cs day u k) ∧ Below w.heap.size w wr) (fun _ _ _ _ i _ => cs.length - (intOf i).toNat)
  case atStart => exact ⟨0, Nat.zero_le _, rfl, rfl, hm1, hbw1⟩
  case round =>
    obtain ⟨k, hk, rfl, rfl, hown, hbw⟩ := hrel
    by_cases hlt : k < cs.length
    · obtain ⟨b, off, rfl, hbb, e1, e2⟩ := (hA.below hbw).pair hlt
      have hbb' : b < wr.heap.size := Nat.lt_of_lt_of_le hbb hbw.size
      have hgd : cs.getD k (0, 0) = cs[k] := by simp [List.getD_eq_getElem?_getD, List.getElem?_eq_getElem hlt]
      have hS : leftK cs day u (k + 1) = if cs[k].1 ≤ day then leftK cs day u k - (if cs[k].2 < leftK cs day u k then cs[k].2 else leftK cs day u k) else leftK cs day u k := by simp only [leftK, hgd]
      have hD : restD cs day u (k + 1) = if cs[k].1 ≤ day then (restD cs day u k).put (.int .i64 k) (.lit (.int .i64 (cs[k].2 - (if cs[k].2 < leftK cs day u k then cs[k].2 else leftK cs day u k)))) else restD cs day u k := by simp only [restD, hgd]
      obtain ⟨x1, x2, x3, x4⟩ := hc cs[k] (List.getElem_mem _)
      obtain ⟨l1, l2⟩ := HLB.out k
      have hps : (ps.length : Int) ≤ 8 := by omega
      have hkey : keyOf Try.prog 3 (.int .i64 k) = some (.int .i64 k) := keyOf_int_mk Try.underlying3 (WalkArith.wf_i64 (by omega))
      have HO := Lib.hid hown
      clear hown hgd
      by_cases hday : cs[k].1 ≤ day
      · rw [if_pos hday] at hS hD
        by_cases hmn : cs[k].2 < leftK cs day u k
        · rw [if_pos hmn] at hS hD
          rw [Int.sub_self] at hD
          have HS := Lib.hid hS
          have HD := Lib.hid hD
          clear hS hD
          have hO2 : World.ownsMap (wr.alloc (.cells #[.int .i64 cs[k].1, .int .i64 cs[k].2] 80)) Try.prog 3 (plainElem Try.prog 3) (w.heap.size + 1) k (restD cs day u k) := World.ownsMap.alloc HO.out _
          have hval : plainElem (H := Nat) Try.prog 3 (.int .i64 (0)) = some (.lit (.int .i64 (0)), []) := plainElem_int Try.underlying3 (WalkArith.wf_i64 (by omega))
          go_wp2_with (at_mapUpdate; refine wpList_mapUpdate_own _ rfl _ _ _ 186 rfl 3 3 lawInt Try.underlying186 _ (w.heap.size + 1) k _ rfl hO2 (by unfold maxLen; omega) _ _ _ rfl rfl hkey _ [] hval ?_; intro w1 hown1 hgrow1)
          go_roundw
          case rel => exact ⟨k + 1, by omega, by go_num, by rw [HS.out], by rw [HD.out]; exact hown1, (hbw.alloc hbw.size _).grown hgrow1 (by have := hbw.size; simp; omega) (fun j hj => by cases hj; omega)⟩
          case measure => simp [intOf]; omega
        · rw [if_neg hmn] at hS hD
          rw [Int.sub_self] at hS
          have HS := Lib.hid hS
          have HD := Lib.hid hD
          clear hS hD
          have hO2 : World.ownsMap (wr.alloc (.cells #[.int .i64 cs[k].1, .int .i64 cs[k].2] 80)) Try.prog 3 (plainElem Try.prog 3) (w.heap.size + 1) k (restD cs day u k) := World.ownsMap.alloc HO.out _
          have hval : plainElem (H := Nat) Try.prog 3 (.int .i64 (cs[k].2 - leftK cs day u k)) = some (.lit (.int .i64 (cs[k].2 - leftK cs day u k)), []) := plainElem_int Try.underlying3 (WalkArith.wf_i64 (by omega))
          go_wp2_with (at_mapUpdate; refine wpList_mapUpdate_own _ rfl _ _ _ 186 rfl 3 3 lawInt Try.underlying186 _ (w.heap.size + 1) k _ rfl hO2 (by unfold maxLen; omega) _ _ _ rfl rfl hkey _ [] hval ?_; intro w1 hown1 hgrow1)
          go_roundw
          case rel => exact ⟨k + 1, by omega, by go_num, by rw [HS.out], by rw [HD.out]; exact hown1, (hbw.alloc hbw.size _).grown hgrow1 (by have := hbw.size; simp; omega) (fun j hj => by cases hj; omega)⟩
          case measure => simp [intOf]; omega
      · rw [if_neg hday] at hS hD
        have HS := Lib.hid hS
        have HD := Lib.hid hD
        clear hS hD
        go_wp2_with fail
        go_roundw
        case rel => exact ⟨k + 1, by omega, by go_num, by rw [HS.out], by rw [HD.out]; exact World.ownsMap.mono (World.ownsMap.alloc HO.out _) (by omega), hbw.alloc hbw.size _⟩
        case measure => simp [intOf]; omega
    · obtain rfl : k = cs.length := by omega
      have HO := Lib.hid hown
      clear hown hlt
      go_wp2_with fail
      go_ret2
      exact ⟨_, rfl, by omega, HO.out, hbw⟩
end Go.Proofs.Ytfojjecnmfkcfaa
