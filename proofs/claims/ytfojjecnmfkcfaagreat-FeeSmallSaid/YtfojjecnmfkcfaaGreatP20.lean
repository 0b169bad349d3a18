/- Accounts that are right, called about: what Paid, Late, Due, Rests, Owing and CheckAccount answer. -/
import Derived.Test.YtfojjecnmfkcfaaGreatP19
import Derived.Test.YtfojjecnmfkcfaaGreatP8
import Derived.Test.YtfojjecnmfkcfaaGreatP3
namespace Go.Proofs.YtfojjecnmfkcfaaGreat
open Go.RowKit
set_option linter.unusedVariables false
/-- An account that is right, and lies somewhere. -/
structure Acc (w : World) (A B : Option Addr) (c d : Nat) (cs ps : List (Int × Int)) (g l : Int) : Prop where
  ea : Ent w A c cs
  eb : Ent w B d ps
  ok : AccOk cs ps g l
theorem Acc.next {w w' : World} {A B : Option Addr} {c d : Nat} {cs ps : List (Int × Int)} {g l : Int} (h : Acc w A B c d cs ps g l) (hb : Below w.heap.size w w') : Acc w' A B c d cs ps g l := ⟨h.ea.next hb, h.eb.next hb, h.ok⟩
theorem all_entries {t : List (Int × Int)} (h : ∀ s ∈ t, 0 ≤ s.1 ∧ s.1 ≤ 400 ∧ 1 ≤ s.2 ∧ s.2 ≤ 10000) : t.any entryOkP = false := List.any_eq_false.2 fun s hs => by
  have := h s hs
  simp [entryOkP, entryOk, inB]; omega
theorem ckAcc_of {cs ps : List (Int × Int)} {g l : Int} (h : AccOk cs ps g l) : ckAcc cs ps g l = 0 := by
  obtain ⟨h1, h2, h3, h4, h5, h6, h7, h8⟩ := h
  have e : accBad cs ps g l = false := by
    unfold accBad
    rw [all_entries h5, all_entries h6, inB_iff.2 h3, inB_iff.2 h4]; rfl
  unfold ckAcc
  rw [if_neg (by omega), e, h7, h8]; rfl
theorem dated_of {cs ps : List (Int × Int)} {g l day : Int} (h : AccOk cs ps g l) (h1 : 0 ≤ day) (h2 : day ≤ 400) : datedCode cs ps g l day = 0 := by
  unfold datedCode; rw [if_pos (ckAcc_of h), if_pos (inB_iff.2 ⟨h1, h2⟩)]
theorem ent_of_own {w : World} {base : Nat} {v : Value} {t : List (Int × Int)} (h : w.ownsRow base 39 2 v t.length (pairs t)) : ∃ A c, v = .slice A t.length c ∧ Ent w A c t := by
  obtain ⟨A, c, rfl, hc, hr⟩ := own_slice h
  refine ⟨A, c, rfl, hr, hc, ?_⟩
  rcases h.2 with ⟨e, _⟩ | ⟨g, cap, cur, e, _⟩
  · injection e with e1 e2 e3; exact .inl ⟨e1, e3⟩
  · injection e with e1 e2 e3; exact .inr ⟨g, 0, e1⟩
section
variable {w : World} {A B : Option Addr} {c d : Nat} {cs ps : List (Int × Int)} {g l : Int}
theorem checkAccG_any (h : Acc w A B c d cs ps g l) : Calls Tryz.prog 15 #[.agg #[.slice A cs.length c, .slice B ps.length d, .int .i64 g, .int .i64 l]] w fun e w' => e = .returned (.int .i64 0) ∧ Below w.heap.size w w' := by
  have := CheckAccount_any A B c d cs ps g l w h.ea h.eb (by have := h.ok.clen; omega) (by have := h.ok.plen; omega)
  rw [ckAcc_of h.ok] at this
  exact this
theorem paidG_any (h : Acc w A B c d cs ps g l) : Calls Tryz.prog 36 #[.agg #[.slice A cs.length c, .slice B ps.length d, .int .i64 g, .int .i64 l]] w (RetOwnE 3 1 cs.length (ints (paidL cs ps)) 0 w) := by
  have := Paid_any A B c d cs ps g l w h.ea h.eb (by have := h.ok.clen; omega) (by have := h.ok.plen; omega)
  have e : paidR cs ps g l = paidL cs ps := by unfold paidR; rw [if_pos (ckAcc_of h.ok)]
  have e2 : (paidL cs ps).length = cs.length := paidK_length _ _ _
  rw [ckAcc_of h.ok, e, e2] at this
  exact this
theorem restsG_any (h : Acc w A B c d cs ps g l) {day : Int} (h1 : 0 ≤ day) (h2 : day ≤ 400) : Calls Tryz.prog 38 #[.agg #[.slice A cs.length c, .slice B ps.length d, .int .i64 g, .int .i64 l], .int .i64 day] w (RetOwnE 3 1 cs.length (ints (restK cs ps day cs.length)) 0 w) := by
  have := Rests_any A B c d cs ps g l day w h.ea h.eb (by have := h.ok.clen; omega) (by have := h.ok.plen; omega)
  have e : restR cs ps g l day = restK cs ps day cs.length := by unfold restR; rw [if_pos (dated_of h.ok h1 h2)]
  rw [dated_of h.ok h1 h2, e, restK_length] at this
  exact this
theorem AccOk.c0 (h : AccOk cs ps g l) : ∀ e ∈ cs, 0 ≤ e.2 := fun e he => by have := h.call e he; omega
theorem AccOk.p0 (h : AccOk cs ps g l) : ∀ e ∈ ps, 0 ≤ e.2 := fun e he => by have := h.pall e he; omega
theorem owingG_any (h : Acc w A B c d cs ps g l) {day : Int} (h1 : 0 ≤ day) (h2 : day ≤ 400) : Calls Tryz.prog 40 #[.agg #[.slice A cs.length c, .slice B ps.length d, .int .i64 g, .int .i64 l], .int .i64 day] w fun e w' =>
    e = .returned (.tuple #[.int .i64 (max 0 (uptoF cs day - uptoF ps day)), .int .i64 (max 0 (uptoF ps day - uptoF cs day)), .int .i64 0]) ∧ Below w.heap.size w w' := by
  have := Owing_any A B c d cs ps g l day w h.ea h.eb (by have := h.ok.clen; omega) (by have := h.ok.plen; omega)
  have hu := uptoF_nonneg h.ok.p0 day
  have e : owingR cs ps g l day = max 0 (uptoF cs day - uptoF ps day) := by
    unfold owingR; rw [if_pos (dated_of h.ok h1 h2), restSum_eq h.ok.c0 day _ hu _ (Nat.le_refl _), List.take_length]
  have e2 : creditR cs ps g l day = max 0 (uptoF ps day - uptoF cs day) := by
    unfold creditR; rw [if_pos (dated_of h.ok h1 h2), leftK_eq h.ok.c0 day _ hu _ (Nat.le_refl _), List.take_length]
  rw [dated_of h.ok h1 h2, e, e2] at this
  exact this
theorem lateG_any (h : Acc w A B c d cs ps g l) {day : Int} (h1 : 0 ≤ day) (h2 : day ≤ 400) : Calls Tryz.prog 42 #[.agg #[.slice A cs.length c, .slice B ps.length d, .int .i64 g, .int .i64 l], .int .i64 day] w (RetApp 3 (lateK cs ps g day cs.length) (lateC cs ps g l day cs.length) 0 w) := by
  have := Late_any A B c d cs ps g l day w h.ea h.eb (by have := h.ok.clen; omega) (by have := h.ok.plen; omega)
  have e : lateL cs ps g l day = lateK cs ps g day cs.length := by unfold lateL; rw [if_pos (dated_of h.ok h1 h2)]
  have e2 : lateCost cs ps g l day = lateC cs ps g l day cs.length := by unfold lateCost; rw [if_pos (dated_of h.ok h1 h2)]
  rw [dated_of h.ok h1 h2, e, e2] at this
  exact this
theorem dueG_any (h : Acc w A B c d cs ps g l) {day : Int} (h1 : 0 ≤ day) (h2 : day ≤ 400) : Calls Tryz.prog 44 #[.agg #[.slice A cs.length c, .slice B ps.length d, .int .i64 g, .int .i64 l], .int .i64 day] w fun e w' =>
    e = .returned (.tuple #[.int .i64 (dueK cs g day (uptoF ps day) cs.length), .int .i64 0]) ∧ Below w.heap.size w w' := by
  have := Due_any A B c d cs ps g l day w h.ea h.eb (by have := h.ok.clen; omega) (by have := h.ok.plen; omega)
  have e : dueR cs ps g l day = dueK cs g day (uptoF ps day) cs.length := by unfold dueR; rw [if_pos (dated_of h.ok h1 h2)]
  rw [dated_of h.ok h1 h2, e] at this
  exact this
end
end Go.Proofs.YtfojjecnmfkcfaaGreat
