/- pennies: the iterator gives one penny after the other to the house that is next. -/
import Derived.Test.YtfojjecnmfkcfaaPour
import Derived.RangeFuncNested
import Derived.RangeFuncBound
import Derived.RangeFuncCalls
import Derived.RangeFuncLeaves
import Derived.OwnWalkIn
import Derived.TacticsInMore
import Derived.LoopNIn
import Derived.LoopIn
import Derived.Sort.QuietIn
import Derived.Deep.RegionHeld3
import Derived.Deep.DeepCutAuto
import Derived.Deep.Cut
namespace Go.Proofs.Ytfojjecnmfkcfaa
open Go.RowKit
set_option linter.unusedVariables false
attribute [local go_sem] Oper.semAt_some
/-- The record of a range over a function. -/
def recOf (fn : FuncId) (tmps : Array Value) (ps : Array Tmp) (assign body : Code) (D : Nat) (st : LoopState) (pe : Option Code) : Loop :=
  { state := st, pending := pe, fn := fn, tmps := tmps, params := ps, assign := assign, body := body, defers := D }
/-- A range over a function in a plain frame: what is owed is the iterator's contract at the new record. -/
theorem wp_range {P : Program} {gop : Operand} {ps : Array Tmp} {assign body : Code} {Q : Exit → Act → World → Prop} {a : Act} {W0 : World} (n : Nat) {gf : Nat} {lb : Array Value} (hg : a.eval gop = .func (.func gf) #[] lb)
    (eg : ∀ args w, (callFunc gf args).run P w = .ok (.enter gf args) w)
    (h : ∀ (fn : FuncId) (rec : LoopState → Option Code → Loop), rec = recOf fn a.tmps ps assign body W0.heap.size → Calls P gf (#[.func (.yield (W0.heap.size + 1)) #[] #[]] ++ lb) ((W0.alloc (.deferred (some []))).alloc (.loop (rec .ready none))) fun e W' => (∃ v, e = .returned v) ∧
      ∃ st pe, st ≠ .busy ∧ W'.heap[W0.heap.size + 1]? = some (.loop (rec st pe)) ∧
        (match pe with
          | none => Q .normal { a with defers := [{ target := .collected W0.heap.size, args := #[] }] ++ a.defers } (W'.putObj (W0.heap.size + 1) (.loop (rec .exhausted pe)))
          | some c => c.wpIn Fence.wide n P Q { a with defers := [{ target := .collected W0.heap.size, args := #[] }] ++ a.defers } (W'.putObj (W0.heap.size + 1) (.loop (rec .exhausted pe))))) :
    (Code.rangeFunc gop ps assign body).wp P Q a W0 := by
  refine (wpIn_wide (n := n)).1 (wpIn_rangeFunc ?_)
  intro fn hfn
  obtain ⟨W1, hW1⟩ : ∃ W1, (W0.alloc (.deferred (some []))).alloc (.loop (recOf fn a.tmps ps assign body W0.heap.size .ready none)) = W1 := ⟨_, rfl⟩
  refine ⟨W0.heap.size + 1, [{ target := .collected W0.heap.size, args := #[] }], W1, { target := .fn (.func gf) lb, args := #[.func (.yield (W0.heap.size + 1)) #[] #[]] }, W1, gf,
    #[.func (.yield (W0.heap.size + 1)) #[] #[]] ++ lb, W1, ?_, ?_, ?_, ?_, ?_, ?_⟩
  · rw [← hW1]; exact run_enterLoop_outer _ _ _ _ _
  · simp only [resolve, hg]
    simp [go_sem]
  · intro f' hf'; trivial
  · simp [invoke, go_sem, eg]
  · intro hd; simp [Fence.wide] at hd
  · rw [← hW1]
    refine callsIn_wide.2 ((h fn _ rfl).mono ?_)
    rintro e W2 ⟨⟨v, rfl⟩, st, pe, hst, hl, hq⟩
    refine ⟨pe, _, run_endLoop hl hst, ?_⟩
    cases pe with
    | none => exact hq
    | some c => exact hq
/-- One round of it, for a body whose assignment is nothing. -/
theorem yield_round {P : Program} {l m : Nat} {fn : FuncId} {tmps : Array Value} {ps : Array Tmp} {body : Code} {D : Nat} {args : Array Value} {W : World} {R : Ending → World → Prop}
    (hl : W.heap[l]? = some (.loop (recOf fn tmps ps .skip body D .ready none))) (hs : args.size = ps.size)
    (hb : body.wpIn (Fence.wide.inRound l) m P (roundPost P l R) { tmps := (ps.zip args).foldl (fun t (p, v) => t.setIfInBounds p v) tmps, defers := [] } (W.putObj l (.loop (recOf fn tmps ps .skip body D .busy none)))) :
    YieldAt Fence.wide m P l args W R := by
  have hy := run_yield (P := P) (args := args) hl hs
  refine ⟨fn, _, .skip, body, hy, roundIn_of_wpIn trivial ?_⟩
  exact wpIn_skip ⟨_, run_beginRound hl rfl, hb⟩
/-- Where 'bid' stands between two pennies: the desk, and the loop's record and block. -/
structure Bd (w0 : World) (g l D : Nat) (rec : LoopState → Option Code → Loop) (p : Int) (A : Option Addr) (n c : Nat) (ps : List Int) (st : LoopState) (pe : Option Code) (W : World) : Prop where
  fr : w0.grownBy W (some g)
  desk : Desk W g p A n c ps
  loop : W.heap[l]? = some (.loop (rec st pe))
  coll : W.heap[D]? = some (.deferred (some []))
section
variable {w0 W W' : World} {g l D : Nat} {rec : LoopState → Option Code → Loop} {p : Int} {A : Option Addr} {n c : Nat} {ps : List Int} {st : LoopState} {pe : Option Code}
theorem grown_below {a : World} {row : Option Nat} (h : a.grownBy W row) (hb : Below W.heap.size W W') : a.grownBy W' row :=
  ⟨hb.os.trans h.os, hb.tape.trans h.tape, hb.output.trans h.output, Nat.le_trans h.size hb.size, fun k hk hn => (hb.block k (Nat.lt_of_lt_of_le hk h.size)).trans (h.block k hk hn)⟩
theorem Bd.below (h : Bd w0 g l D rec p A n c ps st pe W) (hb : Below W.heap.size W W') : Bd w0 g l D rec p A n c ps st pe W' :=
  ⟨grown_below h.fr hb, h.desk.below hb, (hb.block l (Array.getElem?_eq_some_iff.1 h.loop).1).trans h.loop, (hb.block D (Array.getElem?_eq_some_iff.1 h.coll).1).trans h.coll⟩
theorem Bd.set_ (h : Bd w0 g l D rec p A n c ps st pe W) (hl : g ≠ l) (hD : g ≠ D) {j : Nat} (hj : j < 6) (v : Int) : Bd w0 g l D rec p A n c (ps.set j v) st pe (W.setCell ⟨g, 2 + j, none⟩ (.int .i64 v)) := by
  refine ⟨⟨h.fr.os, h.fr.tape, h.fr.output, by simpa [World.setCell] using h.fr.size, fun k hk hn => ?_⟩, h.desk.bump hj v, ?_, ?_⟩
  · exact (Below.heap_setCell W ⟨g, 2 + j, none⟩ _ k (fun e => hn (by rw [e]))).trans (h.fr.block k hk hn)
  · exact (Below.heap_setCell W ⟨g, 2 + j, none⟩ _ l (fun e => hl e.symm)).trans h.loop
  · exact (Below.heap_setCell W ⟨g, 2 + j, none⟩ _ D (fun e => hD e.symm)).trans h.coll
end
theorem Desk.of_cells {w w' : World} {g : Nat} {p : Int} {A : Option Addr} {n c : Nat} {ps : List Int} (h : Desk w g p A n c ps) (hs : g < w'.heap.size) (hg : w'.heap[g]? = w.heap[g]?) : Desk w' g p A n c ps :=
  ⟨hs, (World.cell?_of_block (a := ⟨g, 0, none⟩) hg).trans h.pence, (World.cell?_of_block (a := ⟨g, 1, none⟩) hg).trans h.houses, h.len, fun i u hu => (World.cell?_of_block (a := ⟨g, 2 + i, none⟩) hg).trans (h.pays i u hu), fun o => (World.frozen?_of_block (a := ⟨g, o, none⟩) hg).trans (h.free o)⟩
theorem putObj_size (W : World) (l : Nat) (o : Obj) : (W.putObj l o).heap.size = W.heap.size := by simp [World.putObj]
theorem Bd.put {w0 W : World} {g l D : Nat} {rec : LoopState → Option Code → Loop} {p : Int} {A : Option Addr} {n c : Nat} {ps : List Int} {st : LoopState} {pe : Option Code} (h : Bd w0 g l D rec p A n c ps st pe W) (hl : g ≠ l) (hlD : D ≠ l) (hw : w0.heap.size ≤ l) (st' : LoopState) (pe' : Option Code) :
    Bd w0 g l D rec p A n c ps st' pe' (W.putObj l (.loop (rec st' pe'))) := by
  have hlt := (Array.getElem?_eq_some_iff.1 h.loop).1
  refine ⟨⟨h.fr.os, h.fr.tape, h.fr.output, by rw [putObj_size]; exact h.fr.size, fun k hk hn => ?_⟩, h.desk.of_cells (by rw [putObj_size]; exact h.desk.lt) (World.putObj_heap_other hl), World.putObj_heap_same hlt, (World.putObj_heap_other hlD).trans h.coll⟩
  exact (World.putObj_heap_other (by omega)).trans (h.fr.block k hk hn)
theorem Rd.grown {w W : World} {B : Nat} {A : Option Addr} {xs : List Value} {g : Nat} (h : Rd w B A xs) (hg : w.grownBy W (some g)) (hB : B ≤ g) (hw : B ≤ w.heap.size) : Rd W B A xs :=
  h.keep fun b o hb => World.cell?_of_block (hg.block b (by omega) (by intro e; injection e; omega))
def deskSum (w : World) (g : Nat) : Int := intOf ((w.cell? ⟨g, 2, none⟩).getD undef) + intOf ((w.cell? ⟨g, 3, none⟩).getD undef) + intOf ((w.cell? ⟨g, 4, none⟩).getD undef) + intOf ((w.cell? ⟨g, 5, none⟩).getD undef) + intOf ((w.cell? ⟨g, 6, none⟩).getD undef) + intOf ((w.cell? ⟨g, 7, none⟩).getD undef)
theorem deskSum_eq {w : World} {g : Nat} {p : Int} {A : Option Addr} {n c : Nat} {ps : List Int} (h : Desk w g p A n c ps) : deskSum w g = ps.sum := by
  have a0 := h.at_ (i := 0) (by omega)
  have a1 := h.at_ (i := 1) (by omega)
  have a2 := h.at_ (i := 2) (by omega)
  have a3 := h.at_ (i := 3) (by omega)
  have a4 := h.at_ (i := 4) (by omega)
  have a5 := h.at_ (i := 5) (by omega)
  have hl := h.len
  unfold deskSum
  simp only [Nat.add_zero, Nat.reduceAdd] at a0 a1 a2 a3 a4 a5
  rw [a0, a1, a2, a3, a4, a5]
  match ps, hl with
  | [x0, x1, x2, x3, x4, x5], _ => simp [intOf]; omega
theorem keep1 {w0 w1 w2 : World} {b1 o1 : Nat} {v1 : Value} (hB : b1 < w0.heap.size) (h : w1.cell? ⟨b1, o1, none⟩ = some v1 ∧ Below w0.heap.size w0 w1)
    (hb : Below w1.heap.size w1 w2) : w2.cell? ⟨b1, o1, none⟩ = some v1 ∧ Below w0.heap.size w0 w2 := by
  obtain ⟨h1, h5⟩ := h
  exact ⟨(hb.cell (p := ⟨b1, o1, none⟩) (Nat.lt_of_lt_of_le hB h5.size)).trans h1, h5.trans (hb.mono h5.size)⟩
set_option maxHeartbeats 1000000 in
theorem pennies1_any (w0 : World) (m g l D bx : Nat) (rec : LoopState → Option Code → Loop) (p : Int) (A : Option Addr) (c : Nat) (hs : List (Int × Int × Int)) (ho : housesOk hs) (hr : Rd w0 g A (trips hs)) (hgw : g < w0.heap.size) (hl : g ≠ l) (hD : g ≠ D)
    (hbx : w0.cell? ⟨bx, 0, none⟩ = some (.pointer (some ⟨g, 0, none⟩))) (hbg : bx ≠ g) (hbw : bx < w0.heap.size)
    (HY : ∀ (h : Int) (ps : List Int) (W : World), Bd w0 g l D rec p A hs.length c ps .ready none W → paysOk hs ps → YieldAt Fence.wide m Try.prog l #[.int .i64 h] W fun e W' =>
      (ps.sum ≠ p ∧ e = .returned (.bool true) ∧ Bd w0 g l D rec p A hs.length c ps .ready none W') ∨ (ps.sum = p ∧ e = .returned (.bool false) ∧ Bd w0 g l D rec p A hs.length c ps .done (some (.exit 2)) W'))
    (W : World) (ps : List Int) (hB : Bd w0 g l D rec p A hs.length c ps .ready none W) (hps : paysOk hs ps) (hsum : ps.sum < p) (hp : p ≤ 500) :
    Calls Try.prog 153 #[.func (.yield l) #[] #[], .pointer (some ⟨bx, 0, none⟩)] W fun e W' => (∃ v, e = .returned v) ∧
      ∃ st pe, Bd w0 g l D rec p A hs.length c (pour hs (p - ps.sum).toNat ps) st pe W' ∧ (st = .ready ∧ pe = none ∨ st = .done ∧ pe = some (.exit 2)) := by
  have HB := Lib.hid hB
  have hcx : W.cell? ⟨bx, 0, none⟩ = some (.pointer (some ⟨g, 0, none⟩)) := (World.cell?_of_block (hB.fr.block bx hbw (by intro e; injection e with e; exact hbg e))).trans hbx
  clear hB
  obtain ⟨R, hR⟩ : ∃ R, R = pour hs (p - ps.sum).toNat ps := ⟨_, rfl⟩
  rw [← hR]
  have HR := Lib.hid hR
  clear hR
  go_enter Try.func153, Try.ntmps153
  go_wp2_with fail
  have hbW : bx < W.heap.size := Nat.lt_of_lt_of_le hbw HB.out.fr.size
  have HN : ∀ W1 : World, Below W.heap.size W W1 → Hid (Calls Try.prog 154 #[.pointer (some ⟨g, 0, none⟩), .agg #[greaterV]] W1 fun e w' => e = .returned (.int .i64 (bestK hs ps hs.length)) ∧ Below W1.heap.size W1 w') := by
    intro W1 hb1
    have h1 := HB.out.below hb1
    exact next_any g p A c hs ps W1 h1.desk ((hr.grown h1.fr (Nat.le_refl _) (Nat.le_of_lt hgw)).more (Nat.le_trans (Nat.le_of_lt hgw) h1.fr.size)) ho (paysOk_mem hps)
  go_region_held3 (fun w' => w'.cell? ⟨bx, 0, none⟩ = some (.pointer (some ⟨g, 0, none⟩)) ∧ Below W.heap.size W w') (first | exact ⟨hcx, (Below.refl _ _).drew⟩ | exact keep1 hbW (by assumption) (by assumption))
    (first | (go_at_call 105; refine (greater_any _).mono ?_; rintro e w' ⟨rfl, hb⟩) | (go_at_call 154; refine ((HN _ (And.right (by assumption))).out).mono ?_; rintro e w' ⟨rfl, hb⟩))
  all_goals go_wp2_with fail
  have hbz : Below W.heap.size W _ := And.right (by assumption)
  go_loopw [3] (fun h wr => ∃ ps' : List Int, paysOk hs ps' ∧ Bd w0 g l D rec p A hs.length c ps' .ready none wr ∧ ps'.sum < p ∧ pour hs (p - ps'.sum).toNat ps' = R ∧ h = .int .i64 (bestK hs ps' hs.length)) (fun _ wr => (p - deskSum wr g).toNat)
  case atStart => exact ⟨ps, hps, HB.out.below hbz, hsum, HR.out.symm, rfl⟩
  case round =>
    obtain ⟨ps', hpo, hbd, hsu, hpr, rfl⟩ := hrel
    have HB' := Lib.hid hbd
    have Hpr := Lib.hid hpr
    have hdk := hbd.desk
    have hcx' : wr.cell? ⟨bx, 0, none⟩ = some (.pointer (some ⟨g, 0, none⟩)) := (World.cell?_of_block (hbd.fr.block bx hbw (by intro e; injection e with e; exact hbg e))).trans hbx
    have hHs := deskSum_eq hdk
    clear hbd hpr hcx hbz
    rcases bestK_cases hs ps' hs.length with hb1 | ⟨j, hj, hb1⟩
    · have hfin : ps' = R := by
        rw [← Hpr.out]
        obtain ⟨q, hq⟩ : ∃ q, (p - ps'.sum).toNat = q + 1 := ⟨(p - ps'.sum).toNat - 1, by omega⟩
        rw [hq]; simp only [pour]; rw [if_pos hb1]
      have Hfin := Lib.hid hfin
      rw [hb1]
      clear hfin hb1 hHs
      go_wp2_with fail
      go_end0
      exact ⟨⟨_, rfl⟩, _, _, by rw [← Hfin.out]; exact HB'.out, .inl ⟨rfl, rfl⟩⟩
    · have hcan := bestK_can hs ps' hs.length j hb1
      rw [hb1]
      have Hb1 := Lib.hid hb1
      have HHs := Lib.hid hHs
      clear hb1 hHs
      have hj6 : (j : Int) < 6 := by have := ho.1; omega
      have hj0 : (0 : Int) ≤ (j : Int) := by omega
      have hj1 : ((j : Int) != -1) = true := by rw [bne_iff_ne]; omega
      have hat := hdk.at_ (i := j) (by omega)
      have hfz := hdk.free (2 + j)
      have hjl : j < ps'.length := by rw [hpo.1]; omega
      have hvb := hpo.2 j
      rw [List.getD_eq_getElem?_getD, List.getElem?_eq_getElem hjl, Option.getD_some] at hvb
      obtain ⟨v1, v2⟩ := hvb
      have Hcan := Lib.hid hcan
      clear hcan
      go_wp2_with fail
      have q1 : IntKind.i64.wrap (ps'[j] + 1) = ps'[j] + 1 := IntWalk.i64_in _ (by omega)
      go_region
      all_goals go_upto_region 4 with (fail)
      have hset : ps'.set j (ps'[j] + 1) = bump ps' j := by
        unfold bump; rw [List.getD_eq_getElem?_getD, List.getElem?_eq_getElem hjl, Option.getD_some]
      have hB1 := HB'.out.set_ hl hD (j := j) (by omega) (ps'[j] + 1)
      rw [hset] at hB1
      clear hset
      have hB2 : Bd w0 g l D rec p A hs.length c (bump ps' j) .ready none (wr.setCell ⟨g, 2 + j, none⟩ (.int .i64 (ps'[j] + 1))).drew := hB1.below ((Below.refl _ _).drew)
      have hpo1 := paysOk_bump ho hpo hj Hcan.out
      obtain ⟨fn, tmps, assign, body, hy, hRd⟩ := HY j (bump ps' j) _ hB2 hpo1
      have HRd := Lib.hid hRd
      clear hRd q1
      refine (wpIn_wide (n := m + 1)).1 ?_
      gi_wp2
      refine HRd.out.mono ?_
      rintro e W2 (⟨hne, rfl, hb2⟩ | ⟨heq, rfl, hb2⟩)
      · have hbs : (bump ps' j).sum = ps'.sum + 1 := bump_sum ps' j hjl
        have hpr2 : pour hs (p - (bump ps' j).sum).toNat (bump ps' j) = R := by
          rw [← Hpr.out]
          obtain ⟨q, hq⟩ : ∃ q, (p - ps'.sum).toNat = q + 1 := ⟨(p - ps'.sum).toNat - 1, by omega⟩
          rw [hq, show (p - (bump ps' j).sum).toNat = q from by omega]
          simp only [pour]
          rw [if_neg (by rw [Hb1.out]; omega), Hb1.out, Int.toNat_natCast]
        have Hpr2 := Lib.hid hpr2
        have hlt2 : (bump ps' j).sum < p := by omega
        have Hbs := Lib.hid hbs
        have HB2 := Lib.hid hb2
        have hcx2 : W2.cell? ⟨bx, 0, none⟩ = some (.pointer (some ⟨g, 0, none⟩)) := (World.cell?_of_block (hb2.fr.block bx hbw (by intro e; injection e with e; exact hbg e))).trans hbx
        have hbW2 : bx < W2.heap.size := Nat.lt_of_lt_of_le hbw hb2.fr.size
        have HN2 : ∀ W1 : World, Below W2.heap.size W2 W1 → Hid (Calls Try.prog 154 #[.pointer (some ⟨g, 0, none⟩), .agg #[greaterV]] W1 fun e w' => e = .returned (.int .i64 (bestK hs (bump ps' j) hs.length)) ∧ Below W1.heap.size W1 w') := by
          intro W1 hb1
          have h1 := HB2.out.below hb1
          exact next_any g p A c hs (bump ps' j) W1 h1.desk ((hr.grown h1.fr (Nat.le_refl _) (Nat.le_of_lt hgw)).more (Nat.le_trans (Nat.le_of_lt hgw) h1.fr.size)) ho (paysOk_mem hpo1)
        clear hpr2 hbs hb2 hy hB1 hB2 hne HN
        gi_wp2
        go_wp2_with fail
        go_region_held3 (fun w' => w'.cell? ⟨bx, 0, none⟩ = some (.pointer (some ⟨g, 0, none⟩)) ∧ Below W2.heap.size W2 w') (first | exact ⟨hcx2, (Below.refl _ _).drew⟩ | exact keep1 hbW2 (by assumption) (by assumption))
          (first | (go_at_call 105; refine (greater_any _).mono ?_; rintro e w' ⟨rfl, hb⟩) | (go_at_call 154; refine ((HN2 _ (And.right (by assumption))).out).mono ?_; rintro e w' ⟨rfl, hb⟩))
        all_goals go_wp2_with fail
        go_roundw
        case rel => exact ⟨bump ps' j, hpo1, HB2.out.below (And.right (by assumption)), hlt2, Hpr2.out, rfl⟩
        case measure =>
          have hbz2 : Below W2.heap.size W2 _ := And.right (by assumption)
          rw [deskSum_eq (HB2.out.below hbz2).desk, deskSum_eq hdk, Hbs.out]
          omega
      · have hpr2 : bump ps' j = R := by
          have hbs : (bump ps' j).sum = ps'.sum + 1 := bump_sum ps' j hjl
          rw [← Hpr.out]
          obtain ⟨q, hq⟩ : ∃ q, (p - ps'.sum).toNat = q + 1 := ⟨(p - ps'.sum).toNat - 1, by omega⟩
          rw [hq, show q = 0 from by omega]
          simp only [pour]
          rw [if_neg (by rw [Hb1.out]; omega), Hb1.out, Int.toNat_natCast]
        have Hpr2 := Lib.hid hpr2
        have HB2 := Lib.hid hb2
        clear hpr2 hb2 hy hB1 hB2 heq HN
        gi_wp2
        go_wp2_with fail
        refine bodyPost_ret (results_none rfl _ _ _) rfl ?_
        exact ⟨⟨_, rfl⟩, _, _, by rw [← Hpr2.out]; exact HB2.out, .inr ⟨rfl, rfl⟩⟩
end Go.Proofs.Ytfojjecnmfkcfaa
