/- The error of shares; 'copy' of shares onto a desk. -/
import Derived.Test.YtfojjecnmfkcfaaWith
namespace Go.Proofs.Ytfojjecnmfkcfaa
open Go.RowKit
set_option linter.unusedVariables false
def sharesCode (p : Int) (n : Nat) (qs : List Int) : Int := if ¬ (qs.length = n) then 3 else if qs.any shareOkP = true then 4 else if ¬ (qs.sum = p) then 8 else 0
theorem shareOk_all {qs : List Int} (h : qs.any shareOkP = false) : ∀ z ∈ qs, 0 ≤ z ∧ z ≤ 500 := by
  intro z hz
  have := List.any_eq_false.1 h z hz
  simp only [shareOkP, Bool.not_eq_true', Bool.not_eq_false, inB_iff] at this
  exact this
theorem sharesCode_ok {p : Int} {n : Nat} {qs : List Int} (h : sharesCode p n qs = 0) : qs.length = n ∧ (∀ z ∈ qs, 0 ≤ z ∧ z ≤ 500) ∧ qs.sum = p := by
  unfold sharesCode at h
  split at h
  · omega
  · split at h
    · omega
    · split at h
      · omega
      · rename_i h1 h2 h3
        exact ⟨by omega, shareOk_all (by simpa using h2), by omega⟩
set_option maxHeartbeats 1000000 in
theorem shares_any (g : Nat) (p : Int) (A : Option Addr) (n c : Nat) (ps : List Int) (L : Option Addr) (cl : Nat) (qs : List Int) (w : World) (hd : Desk w g p A n c ps) (hr : Rd w w.heap.size L (ints qs)) (hl : qs.length ≤ 1000) :
    Calls Try.prog 104 #[.pointer (some ⟨g, 0, none⟩), .slice L qs.length cl] w fun e w' => e = .returned (.int .i64 (sharesCode p n qs)) ∧ Below w.heap.size w w' := by
  have hh := hd.houses
  have hgl := hd.lt
  have HE := Lib.hid (everyShare_any L cl qs w hr hl)
  unfold F_Share at HE
  by_cases h1 : qs.length = n
  · have h1' : ((qs.length : Int) != (n : Int)) = false := by rw [bne_eq_false_iff_eq]; omega
    by_cases h2 : qs.any shareOkP = true
    · have hF : sharesCode p n qs = 4 := by unfold sharesCode; rw [if_neg (by simpa using h1), if_pos h2]
      have HF := Lib.hid hF
      have H1 := Lib.hid h1
      clear hF h1
      go_enter Try.func104, Try.ntmps104
      go_wp2_with fail
      refine HE.out.mono ?_
      rintro e w1 ⟨rfl, hb1⟩
      go_wp2_with fail
      go_ret
      exact ⟨ret_int HF.out.symm, hb1⟩
    · have h2' : qs.any shareOkP = false := by simpa using h2
      have hz := shareOk_all h2'
      have HS : ∀ w1, Below w.heap.size w w1 → Hid (Calls Try.prog 112 #[.slice L qs.length cl] w1 fun e w' => e = .returned (.int .i64 qs.sum) ∧ w' = w1) := fun w1 hb =>
        ((sum_any L cl qs w1 (hr.next hb) hl (fun z h => by have := hz z h; omega)).mono fun e w' ⟨a, b⟩ => ⟨a, b.symm⟩)
      by_cases h3 : qs.sum = p
      · have hF : sharesCode p n qs = 0 := by unfold sharesCode; rw [if_neg (by simpa using h1), if_neg h2, if_neg (by simpa using h3)]
        have h3' : (qs.sum != p) = false := by rw [bne_eq_false_iff_eq]; exact h3
        have HF := Lib.hid hF
        have H1 := Lib.hid h1
        have H3 := Lib.hid h3
        clear hF h1 h2 h3 hz
        go_enter Try.func104, Try.ntmps104
        go_wp2_with fail
        refine HE.out.mono ?_
        rintro e w1 ⟨rfl, hb1⟩
        have hp1 := (hd.below hb1).pence
        have hg1 : g < w1.heap.size := Nat.lt_of_lt_of_le hgl hb1.size
        have HS1 := HS w1 hb1
        have HS2 : ∀ m, Hid (Calls Try.prog 112 #[.slice L qs.length cl] (w1.drewN m) fun e w' => e = .returned (.int .i64 qs.sum) ∧ w' = w1.drewN m) := fun m => HS _ (below_drewN hb1 m)
        go_wp2_with fail
        go_quiet ((go_at_call 112; exact Calls.quiet_of_same (HS2 _).out))
        go_wp2_with fail
        go_ret
        exact ⟨ret_int HF.out.symm, below_drewN hb1 _⟩
      · have hF : sharesCode p n qs = 8 := by unfold sharesCode; rw [if_neg (by simpa using h1), if_neg h2, if_pos (by simpa using h3)]
        have h3' : (qs.sum != p) = true := by rw [bne_iff_ne]; exact h3
        have HF := Lib.hid hF
        have H1 := Lib.hid h1
        have H3 := Lib.hid h3
        clear hF h1 h2 h3 hz
        go_enter Try.func104, Try.ntmps104
        go_wp2_with fail
        refine HE.out.mono ?_
        rintro e w1 ⟨rfl, hb1⟩
        have hp1 := (hd.below hb1).pence
        have hg1 : g < w1.heap.size := Nat.lt_of_lt_of_le hgl hb1.size
        have HS2 : ∀ m, Hid (Calls Try.prog 112 #[.slice L qs.length cl] (w1.drewN m) fun e w' => e = .returned (.int .i64 qs.sum) ∧ w' = w1.drewN m) := fun m => HS _ (below_drewN hb1 m)
        go_wp2_with fail
        go_quiet ((go_at_call 112; exact Calls.quiet_of_same (HS2 _).out))
        go_wp2_with fail
        go_ret
        exact ⟨ret_int HF.out.symm, below_drewN hb1 _⟩
  · have hF : sharesCode p n qs = 3 := by unfold sharesCode; rw [if_pos (by simpa using h1)]
    have h1' : ((qs.length : Int) != (n : Int)) = true := by rw [bne_iff_ne]; omega
    have HF := Lib.hid hF
    have H1 := Lib.hid h1
    clear hF h1
    go_enter Try.func104, Try.ntmps104
    go_wp2_with fail
    go_ret
    exact ⟨ret_int HF.out.symm, Below.refl _ _⟩
/-- Numbers laid over a list from a place on. -/
def putAt (ps : List Int) (i : Nat) : List Int → List Int
  | [] => ps
  | v :: vs => putAt (ps.set i v) (i + 1) vs
theorem grownBy_setCell (w : World) (g o : Nat) (v : Value) : w.grownBy (w.setCell ⟨g, o, none⟩ v) (some g) :=
  ⟨rfl, rfl, rfl, by simp [World.setCell], fun k hk hne => by
    have : g ≠ k := fun e => hne (by rw [e])
    simp [World.setCell, Array.getElem?_modify, this]⟩
theorem grownBy_self (w : World) (g : Option Nat) : w.grownBy w g := ⟨rfl, rfl, rfl, Nat.le_refl _, fun _ _ _ => rfl⟩
theorem grownBy_trans {a b c : World} {g : Option Nat} (h1 : a.grownBy b g) (h2 : b.grownBy c g) : a.grownBy c g :=
  ⟨h2.os.trans h1.os, h2.tape.trans h1.tape, h2.output.trans h1.output, Nat.le_trans h1.size h2.size, fun k hk hne => (h2.block k (Nat.lt_of_lt_of_le hk h1.size) hne).trans (h1.block k hk hne)⟩
theorem store_pays (P : Program) (g : Nat) (p : Int) (A : Option Addr) (n c : Nat) : ∀ (vs : List Int) (i : Nat) (ps : List Int) (w : World), Desk w g p A n c ps → i + vs.length ≤ 6 →
    ∃ w', (storeCells ⟨g, 2, none⟩ (ints vs) i).run P w = .ok () w' ∧ Desk w' g p A n c (putAt ps i vs) ∧ w.grownBy w' (some g)
  | [], i, ps, w, hd, _ => ⟨w, rfl, hd, grownBy_self _ _⟩
  | v :: vs, i, ps, w, hd, hl => by
    have hi : i < 6 := by simp at hl; omega
    have hst : (store ((⟨g, 2, none⟩ : Addr).add i) (.int .i64 v)).run P w = .ok () (w.setCell ⟨g, 2 + i, none⟩ (.int .i64 v)) := by
      rw [addr_add, run_store P w _ _ _ rfl, hd.at_ hi]
      simp [hd.free]
    obtain ⟨w', h1, h2, h3⟩ := store_pays P g p A n c vs (i + 1) (ps.set i v) _ (hd.bump hi v) (by simp at hl; omega)
    refine ⟨w', ?_, h2, grownBy_trans (grownBy_setCell _ _ _ _) h3⟩
    show (storeCells ⟨g, 2, none⟩ (Value.int .i64 v :: ints vs) i).run P w = _
    simp only [storeCells, Sem.run_bind, hst, Result.andThen_ok]
    exact h1
theorem putAt_zero (qs : List Int) (h : qs.length ≤ 6) : putAt [0, 0, 0, 0, 0, 0] 0 qs = qs ++ List.replicate (6 - qs.length) 0 := by
  match qs, h with
  | [], _ => rfl
  | [a], _ => rfl
  | [a, b], _ => rfl
  | [a, b, c], _ => rfl
  | [a, b, c, d], _ => rfl
  | [a, b, c, d, e], _ => rfl
  | [a, b, c, d, e, f], _ => rfl
  | _ :: _ :: _ :: _ :: _ :: _ :: _ :: _, h => simp at h
theorem run_copy_to {P : Program} (w w' : World) (dT sT ty elem : TypeId) (n size dLen dCap sCap : Nat) (a ad : Addr) (cs : List Value)
    (hu : P.underlying dT = some (.slice elem)) (hs : (P.info? elem).map (·.size) = some size) (hn : cs.length = n * size) (hle : n ≤ dLen)
    (hsrc : ∀ j v, cs[j]? = some v → w.cell? (ad.add j) = some v) (hst : (storeCells a cs 0).run P w = .ok () w') :
    (Builtin.copy_ #[dT, sT] ty #[.slice (some a) dLen dCap, .slice (some ad) n sCap]).run P w = .ok (goInt n) w' := by
  have hl := run_loadCells_list (P := P) w ad cs hsrc
  rw [hn] at hl
  have hm : min n dLen = n := Nat.min_eq_left hle
  cases hq : P.info? elem with
  | none => simp [hq] at hs
  | some i =>
    have hi : i.size = size := by simpa [hq] using hs
    simp [Builtin.copy_, run_underlying hu, Builtin.lenOf, Builtin.firstCells, sizeOf, typeInfo, hq, hi, hl, hst, hm]
theorem wpList_copy_to {P : Program} {w : World} {ops : Array Oper} {rest : List Oper} {o : Oper} {a : Act} {Q : Exit → Act → World → Prop} (hgd : o.guard = none) (d s : Operand) (dT sT : TypeId)
    (ho : o.op = .call { callee := .builtin .copy, args := #[d, s], argTypes := #[dT, sT] }) (elem : TypeId) (size : Nat) (hu : P.underlying dT = some (.slice elem)) (hsz : (P.info? elem).map (·.size) = some size)
    (n dLen dCap sCap : Nat) (da ad : Addr) (hd : a.eval d = .slice (some da) dLen dCap) (hs : a.eval s = .slice (some ad) n sCap)
    (cs : List Value) (hn : cs.length = n * size) (hle : n ≤ dLen) (hsrc : ∀ j v, cs[j]? = some v → w.cell? (ad.add j) = some v) (w' : World) (hst : (storeCells da cs 0).run P w = .ok () w')
    (h : wpList P ops Q rest (a.put o.dst (goInt n)) w') : wpList P ops Q (o :: rest) a w := by
  refine wpList_plain hgd fun K hK => ?_
  have hrun := run_copy_to (P := P) w w' dT sT o.type elem n size dLen dCap sCap da ad cs hu hsz hn hle hsrc hst
  unfold Oper.wp
  simp [execOp, ho, resolve, invoke, builtin, hd, hs, hrun, Result.andThen]
  exact hK _ _ h
end Go.Proofs.Ytfojjecnmfkcfaa
