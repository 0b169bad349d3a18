/- CheckTariff: the error of a tariff, at every tariff of at most 1000 steps. -/
import Derived.Test.YtfojjecnmfkcfaaSmall
import Derived.Test.YtfojjecnmfkcfaaSum
namespace Go.Proofs.Ytfojjecnmfkcfaa
open Go.RowKit
set_option maxHeartbeats 400000 in
theorem risingStep_one (A : Option Addr) (c : Nat) (t : List (Int × Int)) (by_ : Int) (w : World) (h1 : t.length = 1) (hc : 1 ≤ c) :
    Calls Try.prog 86 #[.slice A t.length c, upF, .int .i64 by_] w fun e w' => e = .returned (.bool (risesB by_ (t.map (·.1)))) ∧ Below w.heap.size w w' := by
  unfold upF
  obtain ⟨x, rfl⟩ : ∃ x, t = [x] := by
    match t, h1 with
    | [x], _ => exact ⟨x, rfl⟩
  by_cases hc1 : c = 1
  · subst hc1
    go_enter Try.func86, Try.ntmps86
    go_wp2_with fail
    go_loop [14] (fun i => i = .int .i64 0) (fun _ => 0)
    case atStart => rfl
    case round =>
      subst hrel
      go_wp2_with fail
      go_ret
      exact ⟨rfl, Below.refl _ _⟩
  · go_enter Try.func86, Try.ntmps86
    go_wp2_with fail
    go_loop [14] (fun i => i = .int .i64 0) (fun _ => 0)
    case atStart => rfl
    case round =>
      subst hrel
      go_wp2_with fail
      go_ret
      exact ⟨rfl, Below.refl _ _⟩
def ckTariff (t : List (Int × Int)) : Int :=
  if t.length < 1 ∨ 4 < t.length then 3 else if t.any notOk then 4 else if risesB 1 (t.map (·.1)) then 0 else 6
set_option maxHeartbeats 400000 in
theorem checkTariff_any (A : Option Addr) (c : Nat) (t : List (Int × Int)) (w : World) (hr : Rd w w.heap.size A (pairs t)) (hl : t.length ≤ 1000) (hc : t.length ≤ c) :
    Calls Try.prog 19 #[.slice A t.length c] w fun e w' => e = .returned (.int .i64 (ckTariff t)) ∧ Below w.heap.size w w' := by
  have H1 := fun n => Lib.hid (in_any n 1 4 w)
  have H2 := Lib.hid (everyStep_any A c t w hr hl)
  by_cases hL : inB t.length 1 4 = true
  · have hL' := inB_iff.1 hL
    have e1 : ¬(t.length < 1 ∨ 4 < t.length) := by omega
    by_cases hE : t.any notOk = true
    · have HF : Hid (ckTariff t = 4) := by unfold ckTariff; rw [if_neg e1, if_pos hE]; rfl
      clear hL' e1
      unfold stepF at H2
      go_enter Try.func19, Try.ntmps19
      go_wp2_with fail
      refine (H1 _).out.mono ?_
      rintro e w1 ⟨rfl, rfl⟩
      go_wp2_with fail
      refine H2.out.mono ?_
      rintro e w1 ⟨rfl, hb1⟩
      go_wp2_with fail
      go_ret
      exact ⟨ret_int HF.out.symm, hb1⟩
    · have hE' : t.any notOk = false := by simpa using hE
      clear hE
      have hall : ∀ s ∈ t, stepOk s.1 s.2 = true := by
        intro s hs
        have := List.any_eq_false.1 hE' s hs
        simpa [notOk] using this
      have HR : ∀ w1, Below w.heap.size w w1 → Hid (Calls Try.prog 86 #[.slice A t.length c, upF, .int .i64 1] w1 fun e w' => e = .returned (.bool (risesB 1 (t.map (·.1)))) ∧ Below w1.heap.size w1 w') := by
        intro w1 hb1
        by_cases h1 : t.length = 1
        · exact risingStep_one A c t 1 w1 h1 (by omega)
        · refine risingStep_any A c t 1 w1 (hr.next hb1) hl hc (by omega) ?_ (by omega) (by omega)
          intro s hs
          have := hall s hs
          simp only [stepOk, Bool.and_eq_true, inB_iff] at this
          omega
      have HF : Hid (ckTariff t = if risesB 1 (t.map (·.1)) then 0 else 6) := by unfold ckTariff; rw [if_neg e1, hE', if_neg (by simp)]; rfl
      clear hL' e1 hall
      unfold stepF at H2
      unfold upF at HR
      by_cases hR : risesB 1 (t.map (·.1)) = true
      all_goals
        go_enter Try.func19, Try.ntmps19
        go_wp2_with fail
        refine (H1 _).out.mono ?_
        rintro e w1 ⟨rfl, rfl⟩
        go_wp2_with fail
        refine H2.out.mono ?_
        rintro e w1 ⟨rfl, hb1⟩
        go_wp2_with fail
        refine (HR _ hb1).out.mono ?_
        rintro e w2 ⟨rfl, hb2⟩
        go_wp2_with fail
        go_ret
        exact ⟨ret_int (by rw [HF.out]; simp [hR]), hb1.trans (hb2.mono hb1.size)⟩
  · have hL' := inB_no.1 (by simpa using hL)
    have HF : Hid (ckTariff t = 3) := by unfold ckTariff; rw [if_pos (by omega)]; rfl
    clear hL'
    go_enter Try.func19, Try.ntmps19
    go_wp2_with fail
    refine (H1 _).out.mono ?_
    rintro e w1 ⟨rfl, rfl⟩
    go_wp2_with fail
    go_ret
    exact ⟨ret_int HF.out.symm, Below.refl _ _⟩
end Go.Proofs.Ytfojjecnmfkcfaa
